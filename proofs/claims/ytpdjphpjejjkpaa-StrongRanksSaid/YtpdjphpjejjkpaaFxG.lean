/- Append: sound. -/
import Derived.Test.YtpdjphpjejjkpaaFxF
import Derived.Lib.AppendZeros
import Derived.Laws.IdiomCopy
import Derived.Laws.CopyRow
namespace Go.Fx
section
variable {P : Program} {M : Mm} {w : World} {σ : St} {a : Act}
structure NewsRel (M : Mm) (w : World) (sz : Nat) (news : List Value) (rows : List (List PV)) : Prop where
 len : news.length = rows.length * sz
 cell : ∀ (i : Nat) (r : List PV) (j : Nat) (p : PV) (v : Value), rows[i]? = some r → r[j]? = some p → news[i * sz + j]? = some v → PRel M w v p
theorem srcA_gen {L : Nat → Option AObj} {b : Bool} {x : AV} {p : List Obl} {sz2 : Nat} {rows2 : List (List PV)} (h : srcA L b x = some (p, sz2, rows2)) (hp : All p) :
  ∃ p', srcA L false x = some (p', sz2, rows2) ∧ All p' := by
 cases b with
 | false => exact ⟨p, h, hp⟩
 | true =>
  unfold srcA at h ⊢
  split at h
  ·cases h; exact ⟨_, rfl, trivial⟩
  ·cases h; exact ⟨_, rfl, trivial⟩
  ·rename_i n off len sz
   split at h
   ·rename_i fz sz' rows hL
    split at h
    ·rename_i hs
     simp only [Option.some.injEq, Prod.mk.injEq] at h
     obtain ⟨rfl, rfl, rfl⟩ := h
     obtain ⟨rfl, rfl, _⟩ := hp
     refine ⟨[.p (0 + rows.length ≤ rows.length)], ?_, by rw [Nat.zero_add]; exact Nat.le_refl _, trivial⟩
     simp only [hL, hs, cut1, List.drop_zero, List.take_length]
    ·cases h
   ·cases h
  ·cases h
theorem headA_ok {b : Bool} {off len : Nat} {rows : List (List PV)} (h : All (headA b off len rows).1) : off + len = rows.length ∧ (headA b off len rows).2 = rows.drop off := by
 unfold headA at h ⊢
 cases b with
 | true => obtain ⟨rfl, rfl, _⟩ := h; simp
 | false => exact ⟨h.1, rfl⟩
theorem src_of_sl {y : Value} {rows2 : List (List PV)} (hx : PRel M w y (.sl rows2)) {sz : Nat} (hr : ∀ r ∈ rows2, r.length = sz) (h0 : 0 < sz) {tx e' : TypeId} (ht : P.underlying tx = some (.slice e')) :
  ∃ news, Src P sz tx y rows2.length news w ∧ NewsRel M w sz news rows2 := by
 cases hx with
 | sl0 ad c =>
  refine ⟨[], ?_, by simp, by simp⟩
  cases ad with
  | none => exact Src.ofNil w ht c
  | some ad => exact Src.ofSlice w ht ad 0 c [] (by simp) (by simp) (by simp)
 | sl b off sz' len c _ z h1 hlc h2 h3 h4 =>
  subst h1
  by_cases hnil : rows2 = []
  ·subst hnil
   exact ⟨[], Src.ofSlice w ht _ 0 c [] (by simp) (by simp) (by simp), by simp, by simp⟩
  ·have hsz : sz' = sz := by
    obtain ⟨r, hr'⟩ := List.exists_mem_of_ne_nil _ hnil
    obtain ⟨i, hi⟩ := List.getElem?_of_mem hr'
    rw [← h2 i r hi]; exact hr r hr'
   subst hsz
   have key : ∀ k, k < rows2.length * sz' → ∃ r p, rows2[k / sz']? = some r ∧ r[k % sz']? = some p := by
    intro k hk
    have hi : k / sz' < rows2.length := by
     rw [Nat.div_lt_iff_lt_mul h0]; exact hk
    refine ⟨rows2[k / sz'], ?_⟩
    have hl : rows2[k / sz'].length = sz' := hr _ (List.getElem_mem hi)
    have hj : k % sz' < rows2[k / sz'].length := by rw [hl]; exact Nat.mod_lt _ h0
    exact ⟨rows2[k / sz'][k % sz'], by simp [hi], by simp [hj]⟩
   refine ⟨(List.range (rows2.length * sz')).map fun k => z (k / sz') (k % sz'), ?_, by simp, ?_⟩
   ·refine Src.ofSlice w ht _ _ c _ (by simp) ?_ ?_
    ·intro j u hj
     have hk : j < rows2.length * sz' := by have := (List.getElem?_eq_some_iff.1 hj).1; simpa using this
     simp [hk] at hj
     subst hj
     obtain ⟨r, q, e1, e2⟩ := key j hk
     rw [add_addr, ← (h3 _ r _ q e1 e2).2]
     congr 2
     have := Nat.div_add_mod j sz'
     rw [Nat.mul_comm] at this
     omega
    ·intro u hu
     simp only [List.mem_map, List.mem_range] at hu
     obtain ⟨k, hk, rfl⟩ := hu
     obtain ⟨r, q, e1, e2⟩ := key k hk
     exact (h4 _ r _ q e1 e2).oneCell
   ·intro i r j p v e1 e2 e3
    have hil : i < rows2.length := (List.getElem?_eq_some_iff.1 e1).1
    have hjl : j < sz' := by have := (List.getElem?_eq_some_iff.1 e2).1; rw [hr r (List.mem_of_getElem? e1)] at this; exact this
    have hk := row_lt hil hjl
    simp [hk] at e3
    have d1 : (i * sz' + j) / sz' = i := by rw [Nat.mul_comm, Nat.mul_add_div h0, Nat.div_eq_of_lt hjl]; rfl
    have d2 : (i * sz' + j) % sz' = j := by rw [Nat.mul_comm, Nat.mul_add_mod, Nat.mod_eq_of_lt hjl]
    rw [d1] at e3
    first
     | rw [d2] at e3
     | rw [Nat.mod_eq_of_lt hjl] at e3
    subst e3
    exact h4 i r j p e1 e2
theorem NewsRel.append {sz : Nat} {a b : List Value} {r s : List (List PV)} (h : NewsRel M w sz a r) (k : NewsRel M w sz b s) (hr : ∀ x ∈ r, x.length = sz) : NewsRel M w sz (a ++ b) (r ++ s) := by
 refine ⟨by rw [List.length_append, List.length_append, h.len, k.len, Nat.add_mul], ?_⟩
 intro i x j p v e1 e2 e3
 by_cases hi : i < r.length
 ·rw [List.getElem?_append_left hi] at e1
  have hjl : j < sz := by have := (List.getElem?_eq_some_iff.1 e2).1; rw [hr x (List.mem_of_getElem? e1)] at this; exact this
  rw [List.getElem?_append_left (by rw [h.len]; exact row_lt hi hjl)] at e3
  exact h.cell i x j p v e1 e2 e3
 ·rw [List.getElem?_append_right (by omega)] at e1
  have heq : i * sz = r.length * sz + (i - r.length) * sz := by rw [← Nat.add_mul]; congr 1; omega
  rw [List.getElem?_append_right (by rw [h.len]; omega), h.len] at e3
  refine k.cell (i - r.length) x j p v e1 e2 ?_
  rw [← e3]; congr 1; omega
theorem srcA_sound0 (R : RSt M σ a w) {x : Operand} {p : List Obl} {sz2 sz : Nat} {rows2 : List (List PV)} (h : srcA σ.obj false (σ.ev x) = some (p, sz2, rows2)) (hp : All p)
  (hr : ∀ r ∈ rows2, r.length = sz) (hz : sz2 = 0 ∨ sz2 = sz) (h0 : 0 < sz) {tx e' : TypeId} (ht : P.underlying tx = some (.slice e')) :
  ∃ news, Src P sz tx (a.eval x) rows2.length news w ∧ NewsRel M w sz news rows2 := by
 have hx := R.ev x
 unfold srcA at h
 split at h
 ·rename_i rows hxe
  cases h
  rw [hxe] at hx
  generalize a.eval x = y at hx
  cases hx with | pv _ _ hx =>
  exact src_of_sl hx hr h0 ht
 ·rename_i hxe
  cases h
  rw [hxe] at hx
  rw [rel_nilsl hx]
  exact ⟨[], Src.ofNil w ht 0, by simp, by simp⟩
 ·rename_i n off len sz2 hxe
  rw [hxe] at hx
  split at h
  ·rename_i fz sz' rows hL
   split at h
   ·rename_i hs
    have hs := nbeq_eq hs
    subst hs
    cases h
    obtain ⟨hle, _⟩ := hp
    have hcl : (cut1 rows off len).length = len := length_cut1 _ _ _ hle
    generalize a.eval x = y at hx
    cases hx with
    | hd0 _ _ _ ad =>
     have hnil : cut1 rows off 0 = [] := List.eq_nil_of_length_eq_zero hcl
     rw [hnil]
     refine ⟨[], ?_, by simp, by simp⟩
     cases ad with
     | none => exact Src.ofNil w ht 0
     | some ad => exact Src.ofSlice w ht ad 0 0 [] (by simp) (by simp) (by simp)
    | hd _ _ _ _ b base cap c T fr f1 f2 f3 f4 =>
     rw [hcl]
     by_cases hl0 : len = 0
     ·subst hl0
      have hnil : cut1 rows off 0 = [] := List.eq_nil_of_length_eq_zero hcl
      rw [hnil]
      exact ⟨[], Src.ofSlice w ht _ 0 cap [] (by simp) (by simp) (by simp), by simp, by simp⟩
     ·have hrl : off < rows.length := by omega
      cases R.ob n _ hL with
      | sl0 => simp at hrl
      | sl _ _ _ b' base' c' T' g0 g1 g2 g3 g4 g5 g6 =>
       rw [f1] at g1; cases g1
       rw [f3] at g3; cases g3
       have hsz : sz2 = sz := by
        rw [← g5 rows[off] (List.getElem_mem hrl)]
        apply hr
        have : (cut1 rows off len)[0]? = some rows[off] := by rw [getElem?_cut1, if_pos (by omega)]; simp [hrl]
        exact List.mem_of_getElem? this
       subst hsz
       have hin : base + off * sz2 + len * sz2 ≤ c.size := by
        have : (off + len) * sz2 ≤ rows.length * sz2 := Nat.mul_le_mul_right _ hle
        rw [Nat.add_mul] at this; omega
       have get : ∀ k, (c.extract (base + off * sz2) (base + off * sz2 + len * sz2)).toList[k]? = if k < len * sz2 then c[base + off * sz2 + k]? else none := by
        intro k; rw [Array.getElem?_toList, getElem?_extract' _ _ _ _ hin]
       have hnl : (c.extract (base + off * sz2) (base + off * sz2 + len * sz2)).toList.length = len * sz2 := by
        rw [Array.length_toList, Array.size_extract]; omega
       have hcell : ∀ (i : Nat) (r : List PV) (j : Nat) (p : PV) (v : Value), (cut1 rows off len)[i]? = some r → r[j]? = some p → (c.extract (base + off * sz2) (base + off * sz2 + len * sz2)).toList[i * sz2 + j]? = some v → PRel M w v p := by
        intro i r j p v e1 e2 e3
        rw [getElem?_cut1] at e1
        split at e1
        ·rw [get] at e3
         split at e3
         ·refine g6 (off + i) r j p v e1 e2 ?_
          rw [← e3]; congr 1; rw [Nat.add_mul]; omega
         ·cases e3
        ·cases e1
       refine ⟨(c.extract (base + off * sz2) (base + off * sz2 + len * sz2)).toList, ?_, ⟨by rw [hnl, hcl], hcell⟩⟩
       refine Src.ofSlice w ht _ len cap _ hnl ?_ ?_
       ·intro j u hj
        rw [get] at hj
        split at hj
        ·rw [add_addr, cell_block f3]; exact hj
        ·cases hj
       ·intro u hu
        obtain ⟨k, hk⟩ := List.getElem?_of_mem hu
        have hkl : k < len * sz2 := by have := (List.getElem?_eq_some_iff.1 hk).1; rw [hnl] at this; exact this
        have hi : k / sz2 < len := by rw [Nat.div_lt_iff_lt_mul h0]; exact hkl
        have hil : k / sz2 < (cut1 rows off len).length := by rw [hcl]; exact hi
        have hl : (cut1 rows off len)[k / sz2].length = sz2 := hr _ (List.getElem_mem hil)
        have hj : k % sz2 < (cut1 rows off len)[k / sz2].length := by rw [hl]; exact Nat.mod_lt _ h0
        refine (hcell (k / sz2) (cut1 rows off len)[k / sz2] (k % sz2) ((cut1 rows off len)[k / sz2][k % sz2]) u (List.getElem?_eq_getElem hil) (List.getElem?_eq_getElem hj) ?_).oneCell
        rw [← hk]; congr 1
        have := Nat.div_add_mod k sz2
        rw [Nat.mul_comm] at this; exact this
   ·cases h
  ·cases h
 ·cases h
theorem srcA_sound (R : RSt M σ a w) {b : Bool} {x : Operand} {p : List Obl} {sz2 sz : Nat} {rows2 : List (List PV)} (h : srcA σ.obj b (σ.ev x) = some (p, sz2, rows2)) (hp : All p)
  (hr : ∀ r ∈ rows2, r.length = sz) (hz : sz2 = 0 ∨ sz2 = sz) (h0 : 0 < sz) {tx e' : TypeId} (ht : P.underlying tx = some (.slice e')) :
  ∃ news, Src P sz tx (a.eval x) rows2.length news w ∧ NewsRel M w sz news rows2 := by
 obtain ⟨p', h', hp'⟩ := srcA_gen h hp
 exact srcA_sound0 R h' hp' hr hz h0 ht
theorem lk_two (o : List (Nat × AObj)) (n m k : Nat) (x y : AObj) : lk (wrO o [(n, x), (m, y)]) k = if m = k then some y else if n = k then some x else lk o k := by
 simp only [wrO, lk_up]
theorem Post.turn (R : RSt M σ a w) {n m : Nat} (hodd : m % 2 = 1) (hn : (lk σ.o n).isSome) (hm : lk σ.o m = none) {out : Out} {o : AObj} (hw : out.wr = [(n, .dead), (m, o)]) {M' : Mm} {w' : World}
  (hext : Ext M w M' w') (hβ : ∀ k, k ≠ m → M'.β k = M.β k) {v : Value} (hv : VRel M' w' v out.v) (ho : ORel M' w' m o) (hvn : ∀ k ∈ out.v.nms, k = m) (hon : o.nms = [])
  (hoth : ∀ (k : Nat) (b : Nat), k ≠ n → b < w.heap.size → (M.κ b = .own k ∨ M.κ b = .frozen) → M'.κ b = M.κ b ∧ w'.heap[b]? = w.heap[b]?) (hφ : M'.φ = M.φ := by rfl) : Post M σ w out M' v w' := by
 have dom : ∀ k, (lk σ.o k).isSome → (lk (wrO σ.o out.wr) k).isSome := by
  intro k hk
  rw [hw, lk_two]
  split
  ·rfl
  ·split
   ·rfl
   ·exact hk
 have hnm : n ≠ m := isSome_ne hn hm
 refine ⟨hext, hv, ?_, ?_, fun k hk => hβ k (by omega), ?_, ?_⟩
 ·intro k p hk
  rw [hw, lk_two] at hk
  split at hk
  ·rename_i e; subst e; cases hk; exact ho
  ·rename_i e1
   split at hk
   ·cases hk; exact .dead
   ·rename_i e2
    refine (R.ob k p hk).mono hext (hβ k fun e => e1 e.symm) ?_ (fun b hb hc => hoth k b (fun e => e2 e.symm) hb hc) (fun f _ _ _ _ _ _ => by rw [hφ])
    intro q hq
    exact hβ q (isSome_ne (R.wo k p hk q hq) hm)
 ·intro k hk; exact hβ k (isSome_ne hk hm)
 ·intro k hk
  rw [hvn k hk, hw, lk_two, if_pos rfl]; rfl
 ·intro k p hk q hq
  rw [hw, lk_two] at hk
  split at hk
  ·cases hk; rw [hon] at hq; cases hq
  ·split at hk
   ·cases hk; simp [AObj.nms] at hq
   ·exact dom q (R.wo k p hk q hq)
theorem Post.gone (R : RSt M σ a w) {n : Nat} (hns : (lk σ.o n).isSome) {out : Out} {o' : AObj} (hw : out.wr = [(n, o')]) {M' : Mm} (ho' : ORel M' w n o') (hon : o'.nms = [])
  (hext : Ext M w M' w) (hβ : M'.β = M.β) {v : Value} (hv : VRel M' w v out.v) (hvn : out.v.nms = [])
  (hoth : ∀ (k : Nat) (b : Nat), k ≠ n → b < w.heap.size → (M.κ b = .own k ∨ M.κ b = .frozen) → M'.κ b = M.κ b) (hφ : M'.φ = M.φ := by rfl) : Post M σ w out M' v w := by
 have e1 : ∀ k, lk (wrO σ.o out.wr) k = if n = k then some o' else lk σ.o k := by intro k; rw [hw]; simp only [wrO, lk_up]
 have dom : ∀ k, (lk σ.o k).isSome → (lk (wrO σ.o out.wr) k).isSome := by
  intro k hk
  rw [e1]
  split
  ·rfl
  ·exact hk
 refine ⟨hext, hv, ?_, fun k _ => by rw [hβ], fun k _ => by rw [hβ], ?_, ?_⟩
 ·intro k p hk
  rw [e1] at hk
  split at hk
  ·rename_i e; subst e; cases hk; exact ho'
  ·rename_i e1
   exact (R.ob k p hk).mono hext (by rw [hβ]) (fun q _ => by rw [hβ]) (fun b hb hc => ⟨hoth k b (fun e => e1 e.symm) hb hc, rfl⟩) (fun f _ _ _ _ _ _ => by rw [hφ])
 ·intro k hk; rw [hvn] at hk; cases hk
 ·intro k p hk q hq
  rw [e1] at hk
  split at hk
  ·cases hk; rw [hon] at hq; cases hq
  ·exact dom q (R.wo k p hk q hq)
theorem sliceOA_sound (R : RSt M σ a w) {o : Oper} {t : TypeId} {x : Operand} {lo hi : Option Operand} (ho : o.op = .slice t x lo hi none) {m : Nat} {rs : List (List PV)} {out : Out}
  (h : sliceOA P σ.obj t (σ.ev x) (lo.map σ.ev) (hi.map σ.ev) m rs = some out) (hp : All out.ob) :
  Does P o a w fun v w' => ∃ M', Post M σ w out M' v w' := by
 have hx := R.ev x
 have blo : ∀ v, lo.map σ.ev = some v → ∃ u, lo.map a.eval = some u ∧ VRel M w u v := by
  intro v hv
  simp only [Option.map_eq_some_iff] at hv
  obtain ⟨y, rfl, rfl⟩ := hv
  exact ⟨_, rfl, R.ev y⟩
 have blo0 : lo.map σ.ev = none → lo.map a.eval = none := by simp
 have bhi : ∀ v, hi.map σ.ev = some v → ∃ u, hi.map a.eval = some u ∧ VRel M w u v := by
  intro v hv
  simp only [Option.map_eq_some_iff] at hv
  obtain ⟨y, rfl, rfl⟩ := hv
  exact ⟨_, rfl, R.ev y⟩
 have bhi0 : hi.map σ.ev = none → hi.map a.eval = none := by simp
 unfold sliceOA at h
 split at h
 ·rename_i e n off len sz hu hxe
  split at h
  ·rename_i sz' rows p l hh hL hLm hodd hb
   split at h
   ·rename_i hs1 hs2
    have hs1 := nbeq_eq hs1
    have hs2 := nbeq_eq hs2
    subst hs1
    cases h
    simp only [All_append] at hp
    obtain ⟨hp1, rfl, rfl, hrs, _⟩ := hp
    have hns : (lk σ.o n).isSome := by rw [show lk σ.o n = _ from hL]; rfl
    have h0 : 0 < sz := by
     cases R.ob n _ hL with
     | sl0 => assumption
     | sl => assumption
    have hc0 : P.cellsOf e ≠ 0 := by omega
    obtain ⟨i, hi'⟩ := cells_some hc0
    have run : ∀ (ad : Option Addr) (len cap l h : Nat), a.eval x = .slice ad len cap → (Instr.sliceBounds true len cap (lo.map a.eval) (hi.map a.eval) none).run P w = .ok (l, h, cap) w →
      (execOp a.eval o).run P w = .ok (.value (.slice (if cap = l then ad else ad.map (·.add (l * sz))) (h - l) (cap - l))) w := by
     intro ad len cap l h h1 h2
     simp only [execOp, ho, Option.map_none, Instr.sliceAt, Instr.slice, Sem.run_bind, run_underlying hu, Result.andThen_ok, h1]
     rw [h2]
     simp [run_sizeOf w hi', hs2]
    rw [hxe] at hx
    have hbase : rs = [] → ∀ (ad : Option Addr) (ob : List Obl), ∃ M', Post M σ w ⟨ob, .hw m sz, [(n, .dead), (m, .sl false sz rs)]⟩ M' (.slice ad 0 0) w := by
     intro hrn ad ob
     refine ⟨⟨M.κ, updN M.β m (0, none), M.φ, M.F0⟩, ?_⟩
     refine Post.turn (M := M) (M' := ⟨M.κ, updN M.β m (0, none), M.φ, M.F0⟩) R hodd hns hLm rfl ⟨rfl, rfl, rfl, Nat.le_refl _, fun _ _ _ => rfl, fun _ _ h => h, fun _ _ h => h, fun _ c _ _ h => ⟨c, h, rfl⟩, fun _ _ _ h => h, fun _ _ _ => rfl, rfl⟩ (fun k hk => updN_ne _ _ hk) ?_ ?_ (fun k hk => by simpa [AV.nms] using hk) rfl (fun _ _ _ _ _ => ⟨rfl, rfl⟩)
     ·refine .hw _ _ _ ?_
      rw [show (updN M.β m (0, none) m).1 = 0 from updN_1 _ _ _]
      exact .hd0 m 0 sz ad
     ·rw [hrn]; exact .sl0 false sz h0 (updN_2 _ _ _) (updN_1 _ _ _)
    generalize hy : a.eval x = y at hx
    generalize hlen : rows.length = len at hx hb
    cases hx with
    | hd0 _ _ _ ad =>
     obtain ⟨b1, b2, b3⟩ := slBounds_sound (P := P) (M := M) (w := w) hb hp1 blo blo0 bhi bhi0 0 (Nat.le_refl _)
     have e1 : l = 0 := by omega
     have e2 : hh = 0 := by omega
     subst e1; subst e2
     obtain ⟨M', hM⟩ := hbase (by rw [← hrs]; simp [cut1]) ad _
     exact Does.value (run _ _ _ _ _ hy b3) ⟨M', by simpa using hM⟩
    | hd _ _ _ _ b base cap c T fr f1 f2 f3 f4 =>
     obtain ⟨b1, b2, b3⟩ := slBounds_sound (P := P) (M := M) (w := w) hb hp1 blo blo0 bhi bhi0 cap f2
     refine Does.value (run _ _ _ _ _ hy b3) ?_
     have hcl : (cut1 rows l (hh - l)).length = hh - l := length_cut1 _ _ _ (by omega)
     by_cases hcap : cap = l
     ·have : hh - l = 0 := by omega
      rw [if_pos hcap, this, show cap - l = 0 by omega]
      obtain ⟨M', hM⟩ := hbase (by rw [← hrs]; exact List.eq_nil_of_length_eq_zero (by omega)) (some ⟨b, base + 0 * sz, none⟩) _
      exact ⟨M', hM⟩
     ·rw [if_neg hcap]
      simp only [Option.map_some, add_addr]
      have hrel : M.κ b = .own n ∧ fr = (0, 0) ∧ base + rows.length * sz ≤ c.size ∧ (∀ r ∈ rows, r.length = sz) ∧ (∀ (i : Nat) (r : List PV) (j : Nat) (p : PV) (x : Value), rows[i]? = some r → r[j]? = some p → c[base + i * sz + j]? = some x → PRel M w x p) := by
       cases R.ob n _ hL with
       | sl0 _ _ _ g1 => rw [f1] at g1; cases g1
       | sl _ _ _ b' base' c' T' g0 g1 g2 g3 g4 g5 g6 =>
        rw [f1] at g1; cases g1
        rw [f3] at g3; cases g3
        exact ⟨g2, rfl, g4, g5, g6⟩
      obtain ⟨hκ, rfl, hsize, hrl, hcells⟩ := hrel
      have hext : Ext M w ⟨updN M.κ b (.own m), updN M.β m (rs.length, some (b, base + l * sz)), M.φ, M.F0⟩ w := by
       refine ⟨rfl, rfl, rfl, Nat.le_refl _, fun _ _ _ => rfl, ?_, ?_, fun _ c _ _ h => ⟨c, h, rfl⟩, fun _ _ _ h => h, fun _ _ _ => rfl, rfl⟩
       ·intro k _ hk
        have : k ≠ b := by rintro rfl; rw [hκ] at hk; cases hk
        simp only; rw [updN_ne _ _ this]; exact hk
       ·intro k _ hk
        have : k ≠ b := by rintro rfl; rw [hκ] at hk; cases hk
        simp only; rw [updN_ne _ _ this]; exact hk
      have hrsl : rs.length = hh - l := by rw [← hrs, hcl]
      refine ⟨⟨updN M.κ b (.own m), updN M.β m (rs.length, some (b, base + l * sz)), M.φ, M.F0⟩, ?_⟩
      refine Post.turn R hodd hns hLm rfl hext (fun k hk => updN_ne _ _ hk) ?_ ?_ (by simp [AV.nms]) rfl ?_
      ·refine .hw _ _ _ ?_
       rw [show (updN M.β m (rs.length, some (b, base + l * sz)) m).1 = rs.length from updN_1 _ _ _]
       have := VRel.hd (M := ⟨updN M.κ b (.own m), updN M.β m (rs.length, some (b, base + l * sz)), M.φ, M.F0⟩) (w := w) m 0 rs.length sz b (base + l * sz) (cap - l) c T (0, 0) (updN_2 _ _ _) (by omega) f3 (by
        have h1 : (l + (cap - l)) * sz = cap * sz := by congr 1; omega
        simp only [Nat.add_mul, Nat.zero_add] at f4 h1 ⊢
        omega)
       rw [hrsl] at this ⊢
       simpa using this
      ·refine .sl false sz rs b (base + l * sz) c T h0 (updN_2 _ _ _) (updN_self _ _ _) f3 ?_ ?_ ?_ (updN_1 _ _ _)
       ·have h1 : (l + (hh - l)) * sz ≤ rows.length * sz := Nat.mul_le_mul_right _ (by omega)
        rw [hrsl]
        simp only [Nat.add_mul] at h1 ⊢
        omega
       ·intro r hr
        rw [← hrs] at hr
        exact hrl r (List.mem_of_mem_drop (List.mem_of_mem_take hr))
       ·intro k r j q v hk hj hv
        rw [← hrs, getElem?_cut1] at hk
        split at hk
        ·refine (hcells (l + k) r j q v hk hj ?_).mono hext
         rw [← hv]; congr 1; rw [Nat.add_mul]; omega
        ·cases hk
      ·intro k b' hk _ hc
       have : b' ≠ b := by
        rintro rfl
        rw [hκ] at hc
        rcases hc with hc | hc
        ·cases hc; exact hk rfl
        ·cases hc
       exact ⟨updN_ne _ _ this, rfl⟩
   ·cases h
  ·cases h
 ·cases h
theorem sliceVA_sound (R : RSt M σ a w) {o : Oper} {t : TypeId} {x : Operand} (ho : o.op = .slice t x none none none) {m : Nat} {rs : List (List PV)} {out : Out}
  (h : sliceVA P σ.obj t (σ.ev x) m rs = some out) (hp : All out.ob) :
  Does P o a w fun v w' => ∃ M', Post M σ w out M' v w' := by
 have hx := R.ev x
 have key : ∀ (len e n : Nat) (ps : List PV) (ob : List Obl), P.underlying t = some (.array len e) → σ.ev x = .ref n 0 0 0 → (lk σ.o n).isSome → ¬ len = 0 → ¬ P.cellsOf e = 0 → len * P.cellsOf e = ps.length →
   (∃ b c T, (M.β n).2 = some (b, 0) ∧ (M.κ b = .own n ∨ M.κ b = .frozen) ∧ w.heap[b]? = some (.cells c T (0, 0)) ∧ c.size = ps.length ∧ ∀ (i : Nat) (x : Value) (p : PV), c[i]? = some x → ps[i]? = some p → PRel M w x p) →
   Does P o a w fun v w' => ∃ M', Post M σ w ⟨ob, .pv (.sl (rowsC (P.cellsOf e) len ps)), [(n, .varf ps)]⟩ M' v w' := by
  intro len e n ps ob hu hxe hns hl0 hc0 hlp hob
  rw [hxe] at hx
  obtain ⟨i, hi'⟩ := cells_some hc0
  generalize hy : a.eval x = y at hx
  cases hx with | ref _ _ _ _ b base f1 =>
  obtain ⟨b', c, T, g1, g2, g3, g4, g5⟩ := hob
  rw [f1] at g1; cases g1
  have run : (execOp a.eval o).run P w = .ok (.value (.slice (some ⟨b, 0, none⟩) len len)) w := by
   simp only [execOp, ho, Option.map_none, Instr.sliceAt, Sem.run_bind, run_underlying hu, Result.andThen_ok, hy]
   have : ¬ (len = 0) := hl0
   simp [Instr.sureAddr, asAddr, Instr.sliceBounds, run_sizeOf w hi', Result.andThen, this, add_addr]
  have hext : Ext M w ⟨updN M.κ b .frozen, M.β, M.φ, M.F0⟩ w := by
   refine ⟨rfl, rfl, rfl, Nat.le_refl _, fun _ _ _ => rfl, ?_, ?_, fun _ c _ _ h => ⟨c, h, rfl⟩, fun _ _ _ h => h, fun _ _ _ => rfl, rfl⟩
   ·intro k _ hk
    by_cases e : k = b
    ·subst e; exact updN_self _ _ _
    ·simp only; rw [updN_ne _ _ e]; exact hk
   ·intro k _ hk
    have : k ≠ b := by rintro rfl; rcases g2 with g2 | g2 <;> (rw [g2] at hk; cases hk)
    simp only; rw [updN_ne _ _ this]; exact hk
  have hcs : ∀ {i j : Nat} {r : List PV} {p : PV}, (rowsC (P.cellsOf e) len ps)[i]? = some r → r[j]? = some p → i < len ∧ j < P.cellsOf e ∧ ps[i * P.cellsOf e + j]? = some p := by
   intro i j r p h1 h2
   unfold rowsC at h1
   rw [List.getElem?_map, Option.map_eq_some_iff] at h1
   obtain ⟨q, h1, rfl⟩ := h1
   have hil : i < len := by have := (List.getElem?_eq_some_iff.1 h1).1; simpa using this
   rw [List.getElem?_range hil] at h1
   cases h1
   rw [getElem?_cut1] at h2
   split at h2
   ·rename_i hj; exact ⟨hil, hj, h2⟩
   ·cases h2
  refine Does.value run ⟨⟨updN M.κ b .frozen, M.β, M.φ, M.F0⟩, Post.gone R hns rfl (ORel.varf (M := ⟨updN M.κ b .frozen, M.β, M.φ, M.F0⟩) ps b c T f1 (updN_self _ _ _) g3 g4 fun i x p h1 h2 => (g5 i x p h1 h2).mono hext) rfl hext rfl ?_ (by simp [AV.nms]) ?_⟩
  ·refine .pv _ _ (.sl b 0 (P.cellsOf e) len len _ (fun i j => c.getD (i * P.cellsOf e + j) undef) (by simp [rowsC]) (Nat.le_refl _) ?_ ?_ ?_)
   ·intro i r hr
    unfold rowsC at hr
    rw [List.getElem?_map, Option.map_eq_some_iff] at hr
    obtain ⟨q, h1, rfl⟩ := hr
    have hil : i < len := by have := (List.getElem?_eq_some_iff.1 h1).1; simpa using this
    rw [List.getElem?_range hil] at h1
    cases h1
    exact length_cut1 _ _ _ (by
     rw [← hlp]
     have : (i + 1) * P.cellsOf e ≤ len * P.cellsOf e := Nat.mul_le_mul_right _ hil
     rw [Nat.add_mul] at this; omega)
   ·intro i r j p hr hj
    obtain ⟨k1, k2, k3⟩ := hcs hr hj
    have hlt : i * P.cellsOf e + j < c.size := by rw [g4]; exact (List.getElem?_eq_some_iff.1 k3).1
    refine ⟨updN_self _ _ _, ?_⟩
    rw [cell_block g3]
    simp [hlt, Array.getD]
   ·intro i r j p hr hj
    obtain ⟨k1, k2, k3⟩ := hcs hr hj
    have hlt : i * P.cellsOf e + j < c.size := by rw [g4]; exact (List.getElem?_eq_some_iff.1 k3).1
    refine (g5 _ _ _ ?_ k3).mono hext
    simp [hlt, Array.getD]
  ·intro k b' hk _ hc
   by_cases e : b' = b
   ·subst e
    rcases g2 with g2 | g2
    ·rw [g2] at hc
     rcases hc with hc | hc
     ·cases hc; exact absurd rfl hk
     ·cases hc
    ·rw [g2]; exact updN_self _ _ _
   ·exact updN_ne _ _ e
 unfold sliceVA at h
 split at h
 ·rename_i len e n ps hu hxe hL
  split at h
  ·rename_i hnm hl0 hc0 hlp
   have hnm := nbeq_eq hnm
   subst hnm
   cases h
   obtain ⟨hrs, _⟩ := hp
   subst hrs
   cases R.ob n _ hL with | varp _ b c T g1 g2 g3 g4 g5 =>
   exact key len e n ps _ hu hxe (by rw [show lk σ.o n = _ from hL]; rfl) (beq_false hl0) (beq_false hc0) (nbeq_eq hlp) ⟨b, c, T, g1, .inl g2, g3, g4, g5⟩
  ·cases h
 ·rename_i len e n ps hu hxe hL
  split at h
  ·rename_i hnm hl0 hc0 hlp
   have hnm := nbeq_eq hnm
   subst hnm
   cases h
   obtain ⟨hrs, _⟩ := hp
   subst hrs
   cases R.ob n _ hL with | varf _ b c T g1 g2 g3 g4 g5 =>
   exact key len e n ps _ hu hxe (by rw [show lk σ.o n = _ from hL]; rfl) (beq_false hl0) (beq_false hc0) (nbeq_eq hlp) ⟨b, c, T, g1, .inr g2, g3, g4, g5⟩
  ·cases h
 ·cases h
theorem slBounds_lo {hi : Option AV} {len : Nat} {p : List Obl} {l h : Nat} (e : slBounds none hi len = some (p, l, h)) : l = 0 := by
 cases hi with
 | none => simp [slBounds] at e; exact e.2.1.symm
 | some v =>
  cases v with
  | pv q =>
   cases q with
   | int k n => simp [slBounds] at e; exact e.2.1.symm
   | _ => simp [slBounds] at e
  | _ => simp [slBounds] at e
theorem sliceXA_sound (R : RSt M σ a w) {o : Oper} {t : TypeId} {x : Operand} {lo hi : Option Operand} (ho : o.op = .slice t x lo hi none) {out : Out}
  (h : sliceXA P t (σ.ev x) (lo.map σ.ev) (hi.map σ.ev) = some out) (hp : All out.ob) :
  Does P o a w fun v w' => ∃ M', Post M σ w out M' v w' := by
 have hx := R.ev x
 have hn := R.evn x
 have blo : ∀ v, lo.map σ.ev = some v → ∃ u, lo.map a.eval = some u ∧ VRel M w u v := by
  intro v hv
  simp only [Option.map_eq_some_iff] at hv
  obtain ⟨y, rfl, rfl⟩ := hv
  exact ⟨_, rfl, R.ev y⟩
 have blo0 : lo.map σ.ev = none → lo.map a.eval = none := by simp
 have bhi : ∀ v, hi.map σ.ev = some v → ∃ u, hi.map a.eval = some u ∧ VRel M w u v := by
  intro v hv
  simp only [Option.map_eq_some_iff] at hv
  obtain ⟨y, rfl, rfl⟩ := hv
  exact ⟨_, rfl, R.ev y⟩
 have bhi0 : hi.map σ.ev = none → hi.map a.eval = none := by simp
 unfold sliceXA at h
 split at h
 ·rename_i e n off len sz hu hxe
  rw [hxe] at hx hn
  split at h
  ·rename_i lo' hi' hv p l hh hlo hhi hb hs hs0
   have hs := nbeq_eq hs
   have hs0 := beq_false hs0
   cases h
   simp only [All_append] at hp
   obtain ⟨hp1, rfl, hpos, _⟩ := hp
   obtain ⟨i, hi'⟩ := cells_some (P := P) (t := e) (by rw [← hs]; exact hs0)
   generalize hy : a.eval x = y at hx
   cases hx with
   | hd0 => omega
   | hd _ _ _ _ b base cap c T fr f1 f2 f3 f4 =>
    obtain ⟨b1, b2, b3⟩ := slBounds_sound (P := P) (M := M) (w := w) hb hp1 blo blo0 bhi bhi0 cap f2
    have hl0 : l = 0 := by rw [hlo] at hb; exact slBounds_lo hb
    subst hl0
    have run : (execOp a.eval o).run P w = .ok (.value (.slice (if cap = 0 then some ⟨b, base + 0 * sz, none⟩ else (some (⟨b, base + 0 * sz, none⟩ : Addr)).map (·.add (0 * sz))) (hh - 0) (cap - 0))) w := by
     simp only [execOp, ho, Option.map_none, Instr.sliceAt, Instr.slice, Sem.run_bind, run_underlying hu, Result.andThen_ok, hy]
     rw [b3]
     simp [run_sizeOf w hi', hs]
    refine Does.value run ⟨M, Post.same R rfl ?_ hn⟩
    rw [if_neg (by omega)]
    have := VRel.hx (M := M) (w := w) n hh sz len b base cap c T fr f1 b2 f2 f3 (by rw [Nat.zero_add] at f4; exact f4)
    simpa [add_addr, Addr.add] using this
  ·cases h
 ·rename_i e n sz N hu hxe
  rw [hxe] at hx hn
  split at h
  ·rename_i hi' hv p l hh hhi hb hs hs0
   have hs := nbeq_eq hs
   have hs0 := beq_false hs0
   cases h
   obtain ⟨i, hi'⟩ := cells_some (P := P) (t := e) (by rw [← hs]; exact hs0)
   generalize hy : a.eval x = y at hx
   cases hx with | hv _ _ _ _ hx =>
   generalize hln : (M.β n).1 = ln at hx
   cases hx with
   | hx _ _ _ _ b base cap c T fr f1 f2 f3 f4 f5 =>
    obtain ⟨b1, b2, b3⟩ := slBounds_sound (P := P) (M := M) (w := w) hb hp blo blo0 bhi bhi0 cap f3
    have b4 : (Instr.sliceBounds true ln cap (lo.map a.eval) (hi.map a.eval) none).run P w = .ok (l, hh, cap) w := by
     obtain ⟨u, hu', _⟩ := bhi _ hhi
     rw [hu'] at b3 ⊢
     exact b3
    have run : (execOp a.eval o).run P w = .ok (.value (.slice (if cap = l then some ⟨b, base, none⟩ else (some (⟨b, base, none⟩ : Addr)).map (·.add (l * sz))) (hh - l) (cap - l))) w := by
     simp only [execOp, ho, Option.map_none, Instr.sliceAt, Instr.slice, Sem.run_bind, run_underlying hu, Result.andThen_ok, hy]
     rw [b4]
     simp [run_sizeOf w hi', hs]
    refine Does.value run ⟨M, Post.same R rfl ?_ hn⟩
    by_cases hcl : cap = l
    ·rw [if_pos hcl]
     have e1 : hh - l = 0 := by omega
     have e2 : cap - l = 0 := by omega
     simp only [e1, e2]
     exact .hd0 n _ sz _
    ·rw [if_neg hcl]
     simp only [Option.map_some, add_addr]
     have := VRel.hd (M := M) (w := w) n l (hh - l) sz b base (cap - l) c T fr f1 (by omega) f4 (by
      have : l + (cap - l) = cap := by omega
      rw [this]; exact f5)
     exact this
  ·cases h
 ·cases h
theorem sliceB_sound (R : RSt M σ a w) {o : Oper} {t : TypeId} {x : Operand} {lo hi : Option Operand} (ho : o.op = .slice t x lo hi none) {an : Ann} {out : Out}
  (h : sliceB P σ.obj t (σ.ev x) (lo.map σ.ev) (hi.map σ.ev) an = some out) (hp : All out.ob) :
  Does P o a w fun v w' => ∃ M', Post M σ w out M' v w' := by
 unfold sliceB at h
 split at h
 ·exact sliceOA_sound R ho h hp
 ·split at h
  ·rename_i e1 e2
   simp only [Option.map_eq_none_iff] at e1 e2
   subst e1; subst e2
   exact sliceVA_sound R ho h hp
  ·cases h
 ·exact sliceXA_sound R ho h hp
 ·exact sliceA_sound R ho h hp
theorem Post.born (R : RSt M σ a w) {m : Nat} (hodd : m % 2 = 1) (hm : lk σ.o m = none) {out : Out} {o : AObj} (hw : out.wr = [(m, o)]) {M' : Mm} {w' : World}
  (hext : Ext M w M' w') (hβ : ∀ k, k ≠ m → M'.β k = M.β k) {v : Value} (hv : VRel M' w' v out.v) (ho : ORel M' w' m o) (hvn : ∀ k ∈ out.v.nms, k = m) (hon : o.nms = [])
  (hoth : ∀ (k : Nat) (b : Nat), b < w.heap.size → (M.κ b = .own k ∨ M.κ b = .frozen) → M'.κ b = M.κ b ∧ w'.heap[b]? = w.heap[b]?) (hφ : M'.φ = M.φ := by rfl) : Post M σ w out M' v w' := by
 have e1 : ∀ k, lk (wrO σ.o out.wr) k = if m = k then some o else lk σ.o k := by intro k; rw [hw]; simp only [wrO, lk_up]
 have dom : ∀ k, (lk σ.o k).isSome → (lk (wrO σ.o out.wr) k).isSome := by
  intro k hk
  rw [e1]
  split
  ·rfl
  ·exact hk
 refine ⟨hext, hv, ?_, ?_, fun k hk => hβ k (by omega), ?_, ?_⟩
 ·intro k p hk
  rw [e1] at hk
  split at hk
  ·rename_i e; subst e; cases hk; exact ho
  ·rename_i e1
   refine (R.ob k p hk).mono hext (hβ k fun e => e1 e.symm) ?_ (fun b hb hc => hoth k b hb hc) (fun f _ _ _ _ _ _ => by rw [hφ])
   intro q hq
   exact hβ q (isSome_ne (R.wo k p hk q hq) hm)
 ·intro k hk; exact hβ k (isSome_ne hk hm)
 ·intro k hk
  rw [hvn k hk, e1, if_pos rfl]; rfl
 ·intro k p hk q hq
  rw [e1] at hk
  split at hk
  ·cases hk; rw [hon] at hq; cases hq
  ·exact dom q (R.wo k p hk q hq)
theorem Post.bornRowsC (R : RSt M σ a w) {m sz : Nat} (hodd : m % 2 = 1) (hLm : lk σ.o m = none) (h0 : 0 < sz) {z : Value} (hzc : z.cells.size = sz) {e : TypeId} {news : List Value} {cap : Nat} {rows2 : List (List PV)}
  (hnews : NewsRel M w sz news rows2) (hrl : ∀ r ∈ rows2, r.length = sz) (hge : rows2.length ≤ cap) {ob : List Obl} :
  Post M σ w ⟨ob, .hw m sz, [(m, .sl false sz rows2)]⟩ (M.new w.drew m (.own m) rows2.length) (.slice (some ⟨w.heap.size, 0, none⟩) rows2.length cap)
   (w.drew.alloc (.cells (news.toArray ++ Builtin.zeroCells z.cells (cap - rows2.length)) e)) := by
 have hext : Ext M w (M.new w.drew m (.own m) rows2.length) (w.drew.alloc (.cells (news.toArray ++ Builtin.zeroCells z.cells (cap - rows2.length)) e)) := (Ext.drew M w).trans (Ext.new m _ _ _)
 refine Post.born R hodd hLm rfl hext (fun k hk => updN_ne _ _ hk) ?_ ?_ (by simp [AV.nms]) rfl ?_
 ·refine .hw _ _ _ ?_
  rw [show ((M.new w.drew m (.own m) rows2.length).β m).1 = rows2.length from updN_1 _ _ _]
  have := VRel.hd (M := M.new w.drew m (.own m) rows2.length) (w := w.drew.alloc (.cells (news.toArray ++ Builtin.zeroCells z.cells (cap - rows2.length)) e)) m 0 rows2.length sz w.heap.size 0 (cap) _ e (0, 0) (updN_2 _ _ _) hge (new_block w.drew _) ?_
  ·simpa using this
  ·have hge := grownCap_ge w (0 + rows2.length) 0 e
   simp only [Array.size_append, List.size_toArray, hnews.len, size_zeroCells, hzc]
   rw [Nat.zero_add, Nat.zero_add, ← Nat.add_mul]
   exact Nat.mul_le_mul_right _ (by omega)
 ·refine .sl false sz rows2 w.heap.size 0 _ e h0 (updN_2 _ _ _) (updN_self _ _ _) (new_block w.drew _) ?_ hrl ?_ (updN_1 _ _ _)
  ·simp only [Array.size_append, List.size_toArray, hnews.len]; omega
  ·intro k r j q v hk hj hv
   rw [Nat.zero_add] at hv
   have hjl : j < sz := by
    have := (List.getElem?_eq_some_iff.1 hj).1
    rw [hrl r (List.mem_of_getElem? hk)] at this; exact this
   have hkl : k < rows2.length := (List.getElem?_eq_some_iff.1 hk).1
   refine PRel.mono hext ?_
   refine hnews.cell k r j q v hk hj ?_
   have hlt : k * sz + j < news.length := by rw [hnews.len]; exact row_lt hkl hjl
   rw [Array.getElem?_append_left (by simp; omega), List.getElem?_toArray] at hv
   rw [← hv]
 ·intro k b hb _
  refine ⟨updN_ne _ _ (by show b ≠ w.heap.size; omega), ?_⟩
  exact RowKit.Below.heap_alloc w.drew _ b hb
theorem Post.bornRows (R : RSt M σ a w) {m sz : Nat} (hodd : m % 2 = 1) (hLm : lk σ.o m = none) (h0 : 0 < sz) {z : Value} (hzc : z.cells.size = sz) {e : TypeId} {news : List Value} {rows2 : List (List PV)}
  (hnews : NewsRel M w sz news rows2) (hrl : ∀ r ∈ rows2, r.length = sz) {ob : List Obl} :
  Post M σ w ⟨ob, .hw m sz, [(m, .sl false sz rows2)]⟩ (M.new w.drew m (.own m) rows2.length) (.slice (some ⟨w.heap.size, 0, none⟩) (0 + rows2.length) (grownCap w (0 + rows2.length) 0 e))
   (w.drew.alloc (.cells (([] ++ news).toArray ++ Builtin.zeroCells z.cells (grownCap w (0 + rows2.length) 0 e - (0 + rows2.length))) e)) := by
 have := Post.bornRowsC R hodd hLm h0 hzc (e := e) hnews hrl (cap := grownCap w (0 + rows2.length) 0 e) (by have := grownCap_ge w (0 + rows2.length) 0 e; omega) (ob := ob)
 simpa using this
theorem appendNil_sound (R : RSt M σ a w) {x : Operand} {t tx e e' ty : TypeId} {m sz2 : Nat} {p : List Obl} {rs rows2 : List (List PV)} {whole : Bool} {z0 : AV}
  (ht : P.underlying t = some (.slice e)) (ht' : P.underlying tx = some (.slice e')) (hLm : lk σ.o m = none) (hodd : m % 2 = 1) (hsrc : srcA σ.obj whole (σ.ev x) = some (p, sz2, rows2)) (hp1 : All p)
  (hc0 : P.cellsOf e ≠ 0) (hby : P.bytesOf e ≤ 65536) (hz0 : zeroA P e = some z0) (hzl : (z0.plain && Nat.beq z0.cellsA.length (P.cellsOf e)) = true) (hsz2 : sz2 = 0 ∨ sz2 = P.cellsOf e)
  (hrs : rows2 = rs) (hbig : rs.length ≤ bigLen) (hrl : ∀ r ∈ rows2, r.length = P.cellsOf e) {ob : List Obl} :
  ∃ v w', (Builtin.append_ #[t, tx] ty #[.slice none 0 0, a.eval x]).run P w = .ok v w' ∧ ∃ M', Post M σ w ⟨ob, .hw m (P.cellsOf e), [(m, .sl false (P.cellsOf e) rs)]⟩ M' v w' := by
 subst hrs
 obtain ⟨i, hi⟩ := cells_some hc0
 have hisz : i.size = P.cellsOf e := by simp [Program.cellsOf, hi]
 have hiby : i.bytes = P.bytesOf e := by simp [Program.bytesOf, hi]
 unfold zeroA at hz0
 simp only [hi, Option.map_eq_some_iff, Option.bind_some] at hz0
 obtain ⟨z, hz, rfl⟩ := hz0
 simp only [Bool.and_eq_true] at hzl
 have hzc : z.cells.size = P.cellsOf e := by
  rw [(CRel.of (avOf_rel (M := M) (w := w) z) hzl.1).size]; exact nbeq_eq hzl.2
 generalize hsz : P.cellsOf e = sz at *
 have h0 : 0 < sz := Nat.pos_of_ne_zero hc0
 obtain ⟨news, src, hnews⟩ := srcA_sound (P := P) R hsrc hp1 hrl hsz2 h0 ht'
 rw [← hisz] at src
 by_cases hn0 : rows2 = []
 ·have hnn : news = [] := List.eq_nil_of_length_eq_zero (by rw [hnews.len, hn0]; simp)
  rw [hn0, hnn] at src
  refine ⟨_, _, run_append_nothing (P := P) w t tx ty e i ht hi none 0 0 (Nat.le_refl _) (a.eval x) src, ⟨M.κ, updN M.β m (0, none), M.φ, M.F0⟩, ?_⟩
  refine Post.born (M := M) (M' := ⟨M.κ, updN M.β m (0, none), M.φ, M.F0⟩) R hodd hLm rfl ⟨rfl, rfl, rfl, Nat.le_refl _, fun _ _ _ => rfl, fun _ _ h => h, fun _ _ h => h, fun _ c _ _ h => ⟨c, h, rfl⟩, fun _ _ _ h => h, fun _ _ _ => rfl, rfl⟩ (fun k hk => updN_ne _ _ hk) ?_ ?_ (fun k hk => by simpa [AV.nms] using hk) rfl (fun _ _ _ _ => ⟨rfl, rfl⟩)
  ·refine .hw _ _ _ ?_
   rw [show (updN M.β m (0, none) m).1 = 0 from updN_1 _ _ _]
   exact .hd0 m 0 sz none
  ·rw [hn0]; exact .sl0 false sz h0 (updN_2 _ _ _) (updN_1 _ _ _)
 ·have hcap : 0 < 0 + rows2.length := by have : rows2.length ≠ 0 := fun e => hn0 (List.eq_nil_of_length_eq_zero e); omega
  have hfit : Builtin.nextslicecap (0 + rows2.length) 0 * i.bytes ≤ 281474976710656 := by
   apply growslice_fits hcap
   rw [hiby, Nat.zero_add]
   unfold bigLen at hbig
   calc rows2.length * P.bytesOf e ≤ 1073741824 * 65536 := Nat.mul_le_mul hbig hby
    _ ≤ _ := by decide
  have hrun := run_append_grow_src (P := P) w t tx ty e i z ht hi hz none 0 0 [] (by rfl) (a.eval x) rows2.length news src hcap (by unfold bigLen at hbig; omega) hfit
  exact ⟨_, _, hrun, M.new w.drew m (.own m) rows2.length, Post.bornRows R hodd hLm h0 hzc hnews hrl⟩
theorem appendZ_sound (R : RSt M σ a w) {y : AV} {v : Value} (hy : VRel M w v y) {t tx ty : TypeId} {m : Nat} {rs : List (List PV)} {out : Out} (h : appendZ P σ.obj y t tx m rs = some out) (hp : All out.ob) :
  ∃ r w', (Builtin.append_ #[t, tx] ty #[.slice none 0 0, v]).run P w = .ok r w' ∧ ∃ M', Post M σ w out M' r w' := by
 unfold appendZ at h
 split at h
 ·rename_i e k hLm hodd he hk
  have ht := elemOfP_sound he
  split at h
  ·rename_i l z hz
   split at h
   ·rename_i zc hzc hc0 hby
    have hc0 := beq_false hc0
    have hby : P.bytesOf e ≤ 65536 := Nat.le_of_ble_eq_true hby
    cases h
    obtain ⟨hzl, h0, hlb, hrs, _⟩ := hp
    subst hrs
    unfold zeroA at hz
    simp only [Option.map_eq_some_iff, Option.bind_eq_some_iff] at hz
    obtain ⟨z0, ⟨i, hi, hz0⟩, rfl⟩ := hz
    have hisz : i.size = P.cellsOf e := by simp [Program.cellsOf, hi]
    have hib : i.bytes = P.bytesOf e := by simp [Program.bytesOf, hi]
    have hpl : (avOf z0).plain = true := by
     cases hh : avOf z0 <;> simp [hh, AV.cellsP] at hzc <;> rfl
    have cz := CRel.of (avOf_rel (M := M) (w := w) z0) hpl
    rw [cellsP_A hzc] at cz
    have cz := cz.nz
    have hzl : (zc.map nz).length = P.cellsOf e := by simpa using hzl
    have cz' := cz.pvs
    have hzs : z0.cells.size = P.cellsOf e := by rw [cz'.1, hzl]
    have hzs0 : z0.cells.size ≠ 0 := by rw [hzs]; exact hc0
    obtain rfl := rel_int hy
    have hlb' : l ≤ 1073741824 := hlb
    by_cases hl0 : l = 0
    ·subst hl0
     refine ⟨.slice none 0 0, w, ?_, ⟨M.κ, updN M.β m (0, none), M.φ, M.F0⟩, ?_⟩
     ·simp [Builtin.append_, run_underlying ht, run_underlying hk, sizeOf, typeInfo, hi, asInt, asIntOf, IntKind.wrap_i64]
     ·refine Post.born (M := M) (M' := ⟨M.κ, updN M.β m (0, none), M.φ, M.F0⟩) R hodd hLm rfl ⟨rfl, rfl, rfl, Nat.le_refl _, fun _ _ _ => rfl, fun _ _ h => h, fun _ _ h => h, fun _ c _ _ h => ⟨c, h, rfl⟩, fun _ _ _ h => h, fun _ _ _ => rfl, rfl⟩ (fun k hk => updN_ne _ _ hk) ?_ ?_ (fun k hk => by simpa [AV.nms] using hk) rfl (fun _ _ _ _ => ⟨rfl, rfl⟩)
      ·refine .hw _ _ _ ?_
       rw [show (updN M.β m (0, none) m).1 = 0 from updN_1 _ _ _]
       exact .hd0 m 0 _ none
      ·exact .sl0 false _ (Nat.pos_of_ne_zero hc0) (updN_2 _ _ _) (updN_1 _ _ _)
    ·obtain ⟨n, rfl⟩ := Int.eq_ofNat_of_zero_le h0
     have hn0 : 0 < n := by omega
     have hrun := Lib.run_append_nil_zeros (P := P) w t tx ty e i z0 .i64 k ht hk hi hz0 n hn0 (by omega) (by omega) (by
      rw [hib]
      calc n * P.bytesOf e ≤ 1073741824 * 65536 := Nat.mul_le_mul (by omega) hby
       _ ≤ _ := by decide)
     have hlen : (List.replicate n (zc.map nz)).length = n := List.length_replicate
     have hnews : NewsRel M w (P.cellsOf e) (Builtin.zeroCells z0.cells n).toList (List.replicate n (zc.map nz)) := by
      refine ⟨by rw [Array.length_toList, size_zeroCells, hzs, hlen], ?_⟩
      intro k r j p v hr hj hv
      have hkl : k < n := by have := (List.getElem?_eq_some_iff.1 hr).1; simpa using this
      rw [List.getElem?_replicate, if_pos hkl] at hr
      cases hr
      have hjl : j < P.cellsOf e := by have := (List.getElem?_eq_some_iff.1 hj).1; omega
      rw [Array.getElem?_toList, Builtin.zeroCells, zeros_get _ _ _ hzs0 (by rw [hzs]; exact row_lt hkl hjl), hzs] at hv
      have : (k * P.cellsOf e + j) % P.cellsOf e = j := by
       rw [Nat.mul_comm, Nat.mul_add_mod, Nat.mod_eq_of_lt hjl]
      rw [this] at hv
      exact cz'.2 j v p hv hj
     have hp := Post.bornRows (e := e) R hodd hLm (Nat.pos_of_ne_zero hc0) hzs hnews (fun r hr => by rw [(List.mem_replicate.1 hr).2]; exact hzl) (ob := [.e zc.length (P.cellsOf e), .p (0 ≤ (n : Int)), .p ((n : Int) ≤ (bigLen : Int)), .p (List.replicate (n : Int).toNat (zc.map nz) = List.replicate (n : Int).toNat (zc.map nz))])
     rw [hlen] at hp
     refine ⟨_, _, hrun, M.new w.drew m (.own m) n, ?_⟩
     simpa using hp
   ·cases h
  ·cases h
 ·cases h
theorem appendC_sound (R : RSt M σ a w) {v : Value} {rows : List (List PV)} (hv : VRel M w v (.cp rows)) {x : Operand} {t tx ty : TypeId} {an : Ann} {out : Out} (h : appendC P σ.obj rows (σ.ev x) t tx an = some out) (hp : All out.ob) :
  ∃ r w', (Builtin.append_ #[t, tx] ty #[v, a.eval x]).run P w = .ok r w' ∧ ∃ M', Post M σ w out M' r w' := by
 unfold appendC at h
 split at h
 ·rename_i e e' p sz2 rows2 he he' hsrc
  have ht := elemOfP_sound he
  have ht' := elemOfP_sound he'
  split at h
  ·rename_i z0 hc0 hby hz0
   have hc0 := beq_false hc0
   have hby : P.bytesOf e ≤ 65536 := Nat.le_of_ble_eq_true hby
   split at h
   ·rename_i hsz2 hzl
    simp only [Bool.or_eq_true] at hsz2
    have hsz2 := hsz2.imp nbeq_eq nbeq_eq
    obtain ⟨i, hi⟩ := cells_some hc0
    have hisz : i.size = P.cellsOf e := by simp [Program.cellsOf, hi]
    have hiby : i.bytes = P.bytesOf e := by simp [Program.bytesOf, hi]
    unfold zeroA at hz0
    simp only [hi, Option.map_eq_some_iff, Option.bind_some] at hz0
    obtain ⟨z, hz, rfl⟩ := hz0
    simp only [Bool.and_eq_true] at hzl
    have hzc : z.cells.size = P.cellsOf e := by
     rw [(CRel.of (avOf_rel (M := M) (w := w) z) hzl.1).size]; exact nbeq_eq hzl.2
    have h0 : 0 < P.cellsOf e := Nat.pos_of_ne_zero hc0
    cases hv with | cp ad n _ hn hv =>
    have main : ∀ rs : List (List PV), All p → rows ++ rows2 = rs → rs.length ≤ bigLen → (∀ r ∈ rs, r.length = P.cellsOf e) →
      (rows2 = [] → (Builtin.append_ #[t, tx] ty #[.slice ad n n, a.eval x]).run P w = .ok (.slice ad n n) w) ∧
      (rows2 ≠ [] → ∃ all cap, NewsRel M w (P.cellsOf e) all rs ∧ rs.length ≤ cap ∧ (Builtin.append_ #[t, tx] ty #[.slice ad n n, a.eval x]).run P w =
       .ok (.slice (some ⟨w.heap.size, 0, none⟩) rs.length cap) (w.drew.alloc (.cells (all.toArray ++ Builtin.zeroCells z.cells (cap - rs.length)) e))) := by
     intro rs hp1 hrs hbig hrl
     have hr1 : ∀ r ∈ rows, r.length = P.cellsOf e := fun r hr => hrl r (by rw [← hrs]; simp [hr])
     have hr2 : ∀ r ∈ rows2, r.length = P.cellsOf e := fun r hr => hrl r (by rw [← hrs]; simp [hr])
     obtain ⟨olds, src0, holds⟩ := src_of_sl (P := P) hv hr1 h0 ht
     obtain ⟨news, src, hnews⟩ := srcA_sound (P := P) R hsrc hp1 hr2 hsz2 h0 ht'
     rw [← hisz] at src src0
     constructor
     ·intro hn0
      have hnn : news = [] := List.eq_nil_of_length_eq_zero (by rw [hnews.len, hn0]; simp)
      rw [hn0, hnn] at src
      exact run_append_nothing (P := P) w t tx ty e i ht hi ad n n (Nat.le_refl _) (a.eval x) src
     ·intro hn0
      have hpos : 0 < rows2.length := Nat.pos_of_ne_zero fun e => hn0 (List.eq_nil_of_length_eq_zero e)
      have hrsl : rs.length = n + rows2.length := by rw [← hrs, List.length_append, hn]
      have hcap : n < n + rows2.length := by omega
      have hfit : Builtin.nextslicecap (n + rows2.length) n * i.bytes ≤ 281474976710656 := by
       apply growslice_fits hcap
       rw [hiby, ← hrsl]
       unfold bigLen at hbig
       calc rs.length * P.bytesOf e ≤ 1073741824 * 65536 := Nat.mul_le_mul hbig hby
        _ ≤ _ := by decide
      have hold := src0.cellsD
      rw [hn] at hold
      have hrun := run_append_grow_src (P := P) w t tx ty e i z ht hi hz ad n n olds hold (a.eval x) rows2.length news src hcap (by unfold bigLen at hbig; omega) hfit
      refine ⟨olds ++ news, grownCap w (n + rows2.length) n e, ?_, ?_, ?_⟩
      ·rw [← hrs]; exact holds.append hnews hr1
      ·rw [hrsl]; exact grownCap_ge _ _ _ _
      ·rw [hrun, hrsl]
    split at h
    ·rename_i rs
     cases h
     simp only [All_append] at hp
     obtain ⟨hp1, hrs, hbig, hrl, _⟩ := hp
     obtain ⟨m1, m2⟩ := main rs hp1 hrs hbig hrl
     by_cases hn0 : rows2 = []
     ·refine ⟨_, _, m1 hn0, M, Post.same R rfl ?_ (by simp [AV.nms])⟩
      rw [← hrs, hn0, List.append_nil]
      exact .pv _ _ hv
     ·obtain ⟨all, cap, hall, hcap, hrun⟩ := m2 hn0
      refine ⟨_, _, hrun, ⟨updN M.κ w.heap.size .frozen, M.β, M.φ, M.F0⟩, ?_⟩
      have hext : Ext M w ⟨updN M.κ w.heap.size .frozen, M.β, M.φ, M.F0⟩ (w.drew.alloc (.cells (all.toArray ++ Builtin.zeroCells z.cells (cap - rs.length)) e)) := (Ext.drew M w).trans (Ext.fresh _ _)
      refine ⟨hext, ?_, ?_, fun _ _ => rfl, fun _ _ => rfl, by simp [AV.nms], R.wo⟩
      ·have cell : ∀ {i j : Nat} {r : List PV} {p : PV}, rs[i]? = some r → r[j]? = some p → ∃ u, all[i * P.cellsOf e + j]? = some u ∧ PRel M w u p := by
        intro i j r p e1 e2
        have hil : i < rs.length := (List.getElem?_eq_some_iff.1 e1).1
        have hjl : j < P.cellsOf e := by have := (List.getElem?_eq_some_iff.1 e2).1; rw [hrl r (List.mem_of_getElem? e1)] at this; exact this
        have hlt : i * P.cellsOf e + j < all.length := by rw [hall.len]; exact row_lt hil hjl
        exact ⟨_, List.getElem?_eq_getElem hlt, hall.cell i r j p _ e1 e2 (List.getElem?_eq_getElem hlt)⟩
       refine .pv _ _ (.sl w.heap.size 0 (P.cellsOf e) rs.length cap rs (fun i j => (all[i * P.cellsOf e + j]?).getD undef) rfl hcap (fun i r hr => hrl r (List.mem_of_getElem? hr)) ?_ ?_)
       ·intro i r j p e1 e2
        obtain ⟨u, u1, u2⟩ := cell e1 e2
        refine ⟨updN_self _ _ _, ?_⟩
        have hb0 : (w.drew.alloc (.cells (all.toArray ++ Builtin.zeroCells z.cells (cap - rs.length)) e)).heap[w.heap.size]? = some (.cells (all.toArray ++ Builtin.zeroCells z.cells (cap - rs.length)) e) := new_block w.drew _
        rw [cell_block hb0, Nat.zero_add, u1]
        have := (List.getElem?_eq_some_iff.1 u1).1
        rw [Array.getElem?_append_left (by simpa using this), List.getElem?_toArray, u1]; rfl
       ·intro i r j p e1 e2
        obtain ⟨u, u1, u2⟩ := cell e1 e2
        rw [u1]
        exact u2.mono hext
      ·intro k o hk
       exact (R.ob k o hk).mono hext rfl (fun _ _ => rfl) (fun b hb _ => ⟨updN_ne _ _ (by omega), RowKit.Below.heap_alloc w.drew _ b hb⟩)
    ·rename_i m rs
     split at h
     ·rename_i hLm hodd
      cases h
      simp only [All_append] at hp
      obtain ⟨hp1, hn0, hrs, hbig, hrl, _⟩ := hp
      obtain ⟨m1, m2⟩ := main rs hp1 hrs hbig hrl
      by_cases hn1 : rows2 = []
      ·have hr0 : rows = [] := hn0.resolve_right fun e => e hn1
       subst hn1; subst hr0
       obtain rfl : rs = [] := by rw [← hrs]; rfl
       obtain rfl : n = 0 := by rw [← hn]; rfl
       refine ⟨.slice ad 0 0, w, m1 rfl, ⟨M.κ, updN M.β m (0, none), M.φ, M.F0⟩, ?_⟩
       refine Post.born (M := M) (M' := ⟨M.κ, updN M.β m (0, none), M.φ, M.F0⟩) R hodd hLm rfl ⟨rfl, rfl, rfl, Nat.le_refl _, fun _ _ _ => rfl, fun _ _ h => h, fun _ _ h => h, fun _ c _ _ h => ⟨c, h, rfl⟩, fun _ _ _ h => h, fun _ _ _ => rfl, rfl⟩ (fun k hk => updN_ne _ _ hk) ?_ ?_ (fun k hk => by simpa [AV.nms] using hk) rfl (fun _ _ _ _ => ⟨rfl, rfl⟩)
       ·refine .hw _ _ _ ?_
        rw [show (updN M.β m (0, none) m).1 = 0 from updN_1 _ _ _]
        exact .hd0 m 0 _ ad
       ·exact .sl0 false _ h0 (updN_2 _ _ _) (updN_1 _ _ _)
      ·obtain ⟨all, cap, hall, hcap, hrun⟩ := m2 hn1
       exact ⟨_, _, hrun, _, Post.bornRowsC R hodd hLm h0 hzc hall hrl hcap⟩
     ·cases h
    ·cases h
   ·cases h
  ·cases h
 ·cases h
theorem slice3A_sound (R : RSt M σ a w) {o : Oper} {t : TypeId} {x mx : Operand} {lo hi : Option Operand} (ho : o.op = .slice t x lo hi (some mx)) {an : Ann} {out : Out}
  (h : slice3A P t (σ.ev x) (lo.map σ.ev) (hi.map σ.ev) (σ.ev mx) an = some out) (hp : All out.ob) :
  Does P o a w fun v w' => ∃ M', Post M σ w out M' v w' := by
 unfold slice3A at h
 split at h
 ·rename_i e rows k1 hh k2 m rs hu hxe hlo hhi hmx
  split at h
  ·rename_i hc0
   have hc0 := beq_false hc0
   cases h
   obtain ⟨h0, rfl, hm, hcut, _⟩ := hp
   obtain ⟨i, hi'⟩ := cells_some hc0
   simp only [Option.map_eq_none_iff] at hlo
   subst hlo
   simp only [Option.map_eq_some_iff] at hhi
   obtain ⟨y, rfl, hye⟩ := hhi
   have hx := R.ev x
   have hy := R.ev y
   have hz := R.ev mx
   rw [hxe] at hx
   rw [hye] at hy
   rw [hmx] at hz
   have hy := rel_int hy
   have hz := rel_int hz
   have hcl : (cut1 rows 0 hh.toNat).length = hh.toNat := length_cut1 _ _ _ (by omega)
   generalize hxv : a.eval x = xv at hx
   cases hx with | pv _ _ hx =>
   have run : ∀ (ad : Option Addr) (len cap : Nat), xv = .slice ad len cap → rows.length ≤ cap →
     (execOp a.eval o).run P w = .ok (.value (.slice ad hh.toNat hh.toNat)) w := by
    intro ad len cap h1 h2
    have h3 : hh ≤ (cap : Int) := by omega
    have h5 : hh ≤ (hh.toNat : Int) := by omega
    simp only [execOp, ho, Option.map_none, Option.map_some, Instr.sliceAt, Instr.slice, Sem.run_bind, run_underlying hu, Result.andThen_ok, hxv, h1, hy, hz, Instr.sliceBounds, Instr.sliceBound, asIntOf, Sem.run_pure, Sem.run_ite, h0, h3, h5, and_self, if_true, run_sizeOf w hi', Nat.zero_mul]
    cases ad with
    | none => simp
    | some ad => simp [add_addr, Addr.add]
   cases hx with
   | sl0 ad c =>
    have : hh.toNat = 0 := by simp at hm; omega
    refine Does.value (run ad 0 c rfl (by simp)) ⟨M, Post.same R rfl ?_ (by simp [AV.nms])⟩
    rw [← hcut]
    refine .cp _ _ _ hcl ?_
    rw [this]
    simpa [cut1] using PRel.sl0 ad 0
   | sl b off sz len c _ z h1 hlc h2 h3 h4 =>
    refine Does.value (run _ len c rfl (by omega)) ⟨M, Post.same R rfl ?_ (by simp [AV.nms])⟩
    rw [← hcut]
    refine .cp _ _ _ hcl (.sl b off sz _ _ _ z hcl (Nat.le_refl _) ?_ ?_ ?_)
    ·intro i r hr
     rw [getElem?_cut1] at hr
     split at hr
     ·rw [Nat.zero_add] at hr; exact h2 _ r hr
     ·cases hr
    ·intro i r j p hr hj
     rw [getElem?_cut1] at hr
     split at hr
     ·rw [Nat.zero_add] at hr; exact h3 _ r j p hr hj
     ·cases hr
    ·intro i r j p hr hj
     rw [getElem?_cut1] at hr
     split at hr
     ·rw [Nat.zero_add] at hr; exact h4 _ r j p hr hj
     ·cases hr
  ·cases h
 ·rename_i e n off len sz k1 l k2 hh k3 m bb hu hxe hlo hhi hmx
  split at h
  ·rename_i hc0
   have hc0 := beq_false hc0
   cases h
   obtain ⟨h0, h1, h2, h3, _⟩ := hp
   obtain ⟨i, hi'⟩ := cells_some hc0
   simp only [Option.map_eq_some_iff] at hlo hhi
   obtain ⟨y0, rfl, hye0⟩ := hlo
   obtain ⟨y, rfl, hye⟩ := hhi
   have hx := R.ev x
   have hy0 := R.ev y0
   have hy := R.ev y
   have hz := R.ev mx
   rw [hxe] at hx
   rw [hye0] at hy0
   rw [hye] at hy
   rw [hmx] at hz
   have hy0 := rel_int hy0
   have hy := rel_int hy
   have hz := rel_int hz
   have hcap : ∃ ad cap, a.eval x = .slice ad len cap ∧ len ≤ cap := by
    generalize a.eval x = xv at hx
    cases hx with
    | hd0 _ _ _ ad => exact ⟨ad, 0, rfl, Nat.le_refl _⟩
    | hd _ _ _ _ b base cap c T fr f1 f2 f3 f4 => exact ⟨_, cap, rfl, f2⟩
   obtain ⟨ad, cap, hv, hle⟩ := hcap
   have g1 : 0 ≤ m := by omega
   have g2 : m ≤ (cap : Int) := by omega
   have g3 : 0 ≤ hh := by omega
   have g4 : hh ≤ (m.toNat : Int) := by omega
   have g5 : l ≤ (hh.toNat : Int) := by omega
   have run : ∃ v, (execOp a.eval o).run P w = .ok (.value v) w := by
    refine ⟨.slice (if m.toNat = l.toNat then ad else ad.map (·.add (l.toNat * P.cellsOf e))) (hh.toNat - l.toNat) (m.toNat - l.toNat), ?_⟩
    simp only [execOp, ho, Option.map_some, Instr.sliceAt, Instr.slice, Sem.run_bind, run_underlying hu, Result.andThen_ok, hv, hy0, hy, hz, Instr.sliceBounds, Instr.sliceBound, asIntOf, Sem.run_pure, Sem.run_ite, h0, g1, g2, g3, g4, g5, and_self, if_true, run_sizeOf w hi']
   obtain ⟨v, hrun⟩ := run
   exact Does.value hrun ⟨M, Post.same R rfl (.undef v) (by simp [AV.nms])⟩
  ·cases h
 ·cases h
theorem appendA_sound (R : RSt M σ a w) {whole : Bool} {s x : Operand} {t tx : TypeId} {m : Nat} {rs : List (List PV)} {out : Out}
  (h : appendA P σ.obj whole (σ.ev s) (σ.ev x) t tx m rs = some out) (hp : All out.ob) (ty : TypeId) :
  ∃ v w', (Builtin.append_ #[t, tx] ty #[a.eval s, a.eval x]).run P w = .ok v w' ∧ ∃ M', Post M σ w out M' v w' := by
 have hs := R.ev s
 unfold appendA at h
 split at h
 ·rename_i e e' he he' hLm hodd
  have ht := elemOfP_sound he
  have ht' := elemOfP_sound he'
  split at h
  ·rename_i n off len sz p sz2 rows2 hse hsrc
   split at h
   ·rename_i sz' rows z0 hL hsz hby hz0
    split at h
    ·rename_i hsz' hsz2 hzl
     have hsz := nbeq_eq hsz
     have hsz' := nbeq_eq hsz'
     have hby : P.bytesOf e ≤ 65536 := Nat.le_of_ble_eq_true hby
     have hsz2 : sz2 = 0 ∨ sz2 = sz := by
      simp only [Bool.or_eq_true] at hsz2
      exact hsz2.imp nbeq_eq nbeq_eq
     subst hsz'
     cases h
     simp only [All_append] at hp
     obtain ⟨hp1, hh, hrs, hbig, hrl, _⟩ := hp
     obtain ⟨hol, hhd⟩ := headA_ok hh
     rw [hhd] at hrs
     have hns : (lk σ.o n).isSome := by rw [show lk σ.o n = _ from hL]; rfl
     have h0 : 0 < sz := by
      cases R.ob n _ hL with
      | sl0 => assumption
      | sl => assumption
     have hc0 : P.cellsOf e ≠ 0 := by omega
     obtain ⟨i, hi⟩ := cells_some hc0
     have hisz : i.size = sz := by rw [hsz]; simp [Program.cellsOf, hi]
     have hiby : i.bytes = P.bytesOf e := by simp [Program.bytesOf, hi]
     unfold zeroA at hz0
     simp only [hi, Option.map_eq_some_iff, Option.bind_some] at hz0
     obtain ⟨z, hz, rfl⟩ := hz0
     simp only [Bool.and_eq_true] at hzl
     have hzc : z.cells.size = sz := by
      rw [(CRel.of (avOf_rel (M := M) (w := w) z) hzl.1).size]; exact nbeq_eq hzl.2
     obtain ⟨news, src, hnews⟩ := srcA_sound (P := P) R hsrc hp1 hrl hsz2 h0 ht'
     rw [← hisz] at src
     have hrsl : rs.length = len + rows2.length := by rw [← hrs]; simp; omega
     have hrslen : ∀ r ∈ rs, r.length = sz := by
      intro r hr
      rw [← hrs, List.mem_append] at hr
      rcases hr with hr | hr
      ·cases R.ob n _ hL with
       | sl0 => simp at hr
       | sl _ _ _ b base c T g0 g1 g2 g3 g4 g5 g6 => exact g5 r (List.mem_of_mem_drop hr)
      ·exact hrl r hr
     rw [hse] at hs
     have grow : ∀ (ad : Option Addr) (cap : Nat) (olds : List Value), cap < len + rows2.length → (Builtin.firstCells i.size len (.slice ad len cap)).run P w.drew = .ok olds.toArray w.drew →
       olds.length = len * sz → (∀ (k : Nat) (r : List PV) (j : Nat) (p : PV) (v : Value), (rows.drop off)[k]? = some r → r[j]? = some p → olds[k * sz + j]? = some v → PRel M w v p) →
       ∃ v w', (Builtin.append_ #[t, tx] ty #[.slice ad len cap, a.eval x]).run P w = .ok v w' ∧ ∃ M', Post M σ w ⟨p ++ ((headA whole off len rows).1 ++ [.p ((headA whole off len rows).2 ++ rows2 = rs), .p (rs.length ≤ bigLen), .p (∀ r ∈ rows2, r.length = sz)]), .hw m sz, [(n, .dead), (m, .sl false sz rs)]⟩ M' v w' := by
      intro ad cap olds hcap hfirst hol' hcell
      have hfit : Builtin.nextslicecap (len + rows2.length) cap * i.bytes ≤ 281474976710656 := by
       apply growslice_fits hcap
       rw [hiby, ← hrsl]
       unfold bigLen at hbig
       calc rs.length * P.bytesOf e ≤ 1073741824 * 65536 := Nat.mul_le_mul hbig hby
        _ ≤ _ := by decide
      have hrun := run_append_grow_src (P := P) w t tx ty e i z ht hi hz ad len cap olds hfirst (a.eval x) rows2.length news src hcap (by unfold bigLen at hbig; omega) hfit
      refine ⟨_, _, hrun, M.new w.drew m (.own m) rs.length, ?_⟩
      have hext : Ext M w (M.new w.drew m (.own m) rs.length) (w.drew.alloc (.cells ((olds ++ news).toArray ++ Builtin.zeroCells z.cells (grownCap w (len + rows2.length) cap e - (len + rows2.length))) e)) := (Ext.drew M w).trans (Ext.new m _ _ _)
      refine Post.turn R hodd hns hLm rfl hext (fun k hk => updN_ne _ _ hk) ?_ ?_ (by simp [AV.nms]) rfl ?_
      ·refine .hw _ _ _ ?_
       rw [show ((M.new w.drew m (.own m) rs.length).β m).1 = rs.length from updN_1 _ _ _]
       have := VRel.hd (M := M.new w.drew m (.own m) rs.length) (w := w.drew.alloc (.cells ((olds ++ news).toArray ++ Builtin.zeroCells z.cells (grownCap w (len + rows2.length) cap e - (len + rows2.length))) e)) m 0 rs.length sz w.heap.size 0 (grownCap w (len + rows2.length) cap e) _ e (0, 0) (updN_2 _ _ _) (by rw [hrsl]; exact grownCap_ge _ _ _ _) (new_block w.drew _) ?_
       ·rw [hrsl] at this ⊢; simpa using this
       ·have hge := grownCap_ge w (len + rows2.length) cap e
        simp only [Array.size_append, List.size_toArray, List.length_append, hol', hnews.len, size_zeroCells, hzc]
        rw [Nat.zero_add, Nat.zero_add, ← Nat.add_mul, ← Nat.add_mul]
        exact Nat.mul_le_mul_right _ (by omega)
      ·refine .sl false sz rs w.heap.size 0 _ e h0 (updN_2 _ _ _) (updN_self _ _ _) (new_block w.drew _) ?_ hrslen ?_ (updN_1 _ _ _)
       ·simp only [Array.size_append, List.size_toArray, List.length_append, hol', hnews.len, hrsl, Nat.add_mul]; omega
       ·intro k r j q v hk hj hv
        rw [Nat.zero_add] at hv
        have hjl : j < sz := by
         have := (List.getElem?_eq_some_iff.1 hj).1
         rw [hrslen r (List.mem_of_getElem? hk)] at this; exact this
        have hdl : (rows.drop off).length = len := by simp; omega
        have hkl : k < len + rows2.length := by rw [← hrsl]; exact (List.getElem?_eq_some_iff.1 hk).1
        rw [← hrs] at hk
        refine PRel.mono hext ?_
        by_cases hkk : k < len
        ·rw [List.getElem?_append_left (by omega)] at hk
         refine hcell k r j q v hk hj ?_
         have : k * sz + j < olds.length := by rw [hol']; exact row_lt hkk hjl
         rw [Array.getElem?_append_left (by simp; omega), List.getElem?_toArray, List.getElem?_append_left this] at hv
         exact hv
        ·rw [List.getElem?_append_right (by omega), hdl] at hk
         refine hnews.cell (k - len) r j q v hk hj ?_
         have hlt : (k - len) * sz + j < news.length := by rw [hnews.len]; exact row_lt (by omega) hjl
         have heq : k * sz + j = olds.length + ((k - len) * sz + j) := by
          have : k = len + (k - len) := by omega
          rw [hol']
          conv => lhs; rw [this, Nat.add_mul]
          omega
         rw [heq, Array.getElem?_append_left (by simp; omega), List.getElem?_toArray, List.getElem?_append_right (by omega)] at hv
         rw [← hv]; congr 1; omega
      ·intro k b _ hb _
       refine ⟨updN_ne _ _ (by show b ≠ w.heap.size; omega), ?_⟩
       exact RowKit.Below.heap_alloc w.drew _ b hb
     generalize a.eval s = y at hs ⊢
     cases hs with
     | hd0 _ _ _ ad =>
      have hdn : rows.drop off = [] := by apply List.eq_nil_of_length_eq_zero; simp; omega
      by_cases hn0 : rows2 = []
      ·have hrn : rs = [] := by rw [← hrs, hdn, hn0]; rfl
       have hnn : news = [] := List.eq_nil_of_length_eq_zero (by rw [hnews.len, hn0]; simp)
       rw [hn0, hnn] at src
       refine ⟨_, _, run_append_nothing (P := P) w t tx ty e i ht hi ad 0 0 (Nat.le_refl _) (a.eval x) src, ⟨M.κ, updN M.β m (0, none), M.φ, M.F0⟩, ?_⟩
       refine Post.turn (M := M) (M' := ⟨M.κ, updN M.β m (0, none), M.φ, M.F0⟩) R hodd hns hLm rfl ⟨rfl, rfl, rfl, Nat.le_refl _, fun _ _ _ => rfl, fun _ _ h => h, fun _ _ h => h, fun _ c _ _ h => ⟨c, h, rfl⟩, fun _ _ _ h => h, fun _ _ _ => rfl, rfl⟩ (fun k hk => updN_ne _ _ hk) ?_ ?_ (fun k hk => by simpa [AV.nms] using hk) rfl (fun _ _ _ _ _ => ⟨rfl, rfl⟩)
       ·refine .hw _ _ _ ?_
        rw [show (updN M.β m (0, none) m).1 = 0 from updN_1 _ _ _]
        exact .hd0 m 0 sz ad
       ·rw [hrn]; exact .sl0 false sz h0 (updN_2 _ _ _) (updN_1 _ _ _)
      ·exact grow ad 0 [] (by have : rows2.length ≠ 0 := fun e => hn0 (List.eq_nil_of_length_eq_zero e); omega) (by
        cases ad with
        | none => rfl
        | some ad => simp [Builtin.firstCells, loadCells, loadCellsFrom]) (by simp) (by rw [hdn]; simp)
     | hd _ _ _ _ b base cap c T fr f1 f2 f3 f4 =>
      have hrel : M.κ b = .own n ∧ fr = (0, 0) ∧ base + rows.length * sz ≤ c.size ∧ (∀ (i : Nat) (r : List PV) (j : Nat) (p : PV) (x : Value), rows[i]? = some r → r[j]? = some p → c[base + i * sz + j]? = some x → PRel M w x p) := by
       cases R.ob n _ hL with
       | sl0 _ _ _ g1 => rw [f1] at g1; cases g1
       | sl _ _ _ b' base' c' T' g0 g1 g2 g3 g4 g5 g6 =>
        rw [f1] at g1; cases g1
        rw [f3] at g3; cases g3
        exact ⟨g2, rfl, g4, g6⟩
      obtain ⟨hκ, rfl, hsize, hcells⟩ := hrel
      have hin : base + off * sz + len * sz ≤ c.size := by
       have : (off + len) * sz = off * sz + len * sz := Nat.add_mul _ _ _
       rw [← hol] at hsize; omega
      by_cases hroom : len + rows2.length ≤ cap
      ·-- in place
       have hfit : base + off * sz + len * sz + news.length ≤ c.size := by
        rw [hnews.len]
        have h1 : (off + (len + rows2.length)) * sz ≤ (off + cap) * sz := Nat.mul_le_mul_right _ (by omega)
        simp only [Nat.add_mul] at h1 f4 ⊢
        omega
       have hst := run_storeCells_at (P := P) b (base + off * sz + len * sz) T news 0 c w f3 (by simpa using hfit) src.one
       simp only [Nat.add_zero] at hst
       have hrun : (Builtin.append_ #[t, tx] ty #[.slice (some ⟨b, base + off * sz, none⟩) len cap, a.eval x]).run P w =
         .ok (.slice (some ⟨b, base + off * sz, none⟩) (len + rows2.length) cap) (w.setRow b (splice c.toList (base + off * sz + len * sz) news).toArray) := by
        have hcs := src.cells
        rw [hisz] at hcs
        rcases src.kind with ⟨e', hk⟩ | hk <;>
         simp [hcs, Builtin.append_, run_underlying ht, run_underlying hk, sizeOf, typeInfo, hi, src.len, hroom, Addr.add_lit, hisz, hst, splice]
       have hs' : (splice c.toList (base + off * sz + len * sz) news).toArray.size = c.size := by
        rw [List.size_toArray, length_splice]
        ·simp
        ·simpa using hfit
       have hext1 : Ext M w M (w.setRow b (splice c.toList (base + off * sz + len * sz) news).toArray) := Ext.setRow f3 hκ hs'
       have hext : Ext M w ⟨updN M.κ b (.own m), updN M.β m (rs.length, some (b, base + off * sz)), M.φ, M.F0⟩ (w.setRow b (splice c.toList (base + off * sz + len * sz) news).toArray) := by
        refine ⟨hext1.os, hext1.tape, hext1.output, hext1.size, hext1.keep, ?_, ?_, hext1.shp, hext1.fam, hext1.low, hext1.f0⟩
        ·intro k _ hk
         have : k ≠ b := by rintro rfl; rw [hκ] at hk; cases hk
         simp only; rw [updN_ne _ _ this]; exact hk
        ·intro k _ hk
         have : k ≠ b := by rintro rfl; rw [hκ] at hk; cases hk
         simp only; rw [updN_ne _ _ this]; exact hk
       have hb' := setRow_heap w b c (splice c.toList (base + off * sz + len * sz) news).toArray T (0, 0) f3
       refine ⟨_, _, hrun, ⟨updN M.κ b (.own m), updN M.β m (rs.length, some (b, base + off * sz)), M.φ, M.F0⟩, ?_⟩
       refine Post.turn R hodd hns hLm rfl hext (fun k hk => updN_ne _ _ hk) ?_ ?_ (by simp [AV.nms]) rfl ?_
       ·refine .hw _ _ _ ?_
        rw [show (updN M.β m (rs.length, some (b, base + off * sz)) m).1 = rs.length from updN_1 _ _ _]
        have := VRel.hd (M := ⟨updN M.κ b (.own m), updN M.β m (rs.length, some (b, base + off * sz)), M.φ, M.F0⟩) (w := w.setRow b (splice c.toList (base + off * sz + len * sz) news).toArray) m 0 rs.length sz b (base + off * sz) cap _ T (0, 0) (updN_2 _ _ _) (by omega) hb' (by
         rw [hs']
         simp only [Nat.add_mul, Nat.zero_add] at f4 ⊢; omega)
        rw [← hrsl]; simpa using this
       ·refine .sl false sz rs b (base + off * sz) _ T h0 (updN_2 _ _ _) (updN_self _ _ _) hb' ?_ hrslen ?_ (updN_1 _ _ _)
        ·rw [hs', hrsl, Nat.add_mul]; rw [hnews.len] at hfit; omega
        ·intro k r j q v hk hj hv
         have hjl : j < sz := by
          have := (List.getElem?_eq_some_iff.1 hj).1
          rw [hrslen r (List.mem_of_getElem? hk)] at this; exact this
         have hdl : (rows.drop off).length = len := by simp; omega
         have hkl : k < len + rows2.length := by rw [← hrsl]; exact (List.getElem?_eq_some_iff.1 hk).1
         rw [← hrs] at hk
         refine PRel.mono hext ?_
         rw [List.getElem?_toArray, getElem?_splice _ _ _ (by simpa using hfit)] at hv
         by_cases hkk : k < len
         ·rw [List.getElem?_append_left (by omega), List.getElem?_drop] at hk
          have h1 := row_lt hkk hjl
          rw [if_neg (by omega), Array.getElem?_toList] at hv
          refine hcells (off + k) r j q v hk hj ?_
          rw [← hv]; congr 1; rw [Nat.add_mul]; omega
         ·rw [List.getElem?_append_right (by omega), hdl] at hk
          have hlt : (k - len) * sz + j < rows2.length * sz := row_lt (by omega) hjl
          have heq : k * sz = len * sz + (k - len) * sz := by rw [← Nat.add_mul]; congr 1; omega
          rw [if_pos (by rw [hnews.len]; omega)] at hv
          refine hnews.cell (k - len) r j q v hk hj ?_
          rw [← hv]; congr 1; omega
       ·intro k b' hk hb'' hc
        have : b' ≠ b := by
         rintro rfl
         rw [hκ] at hc
         rcases hc with hc | hc
         ·cases hc; exact hk rfl
         ·cases hc
        exact ⟨updN_ne _ _ this, setRow_other _ _ _ _ this⟩
      ·-- moved
       have hex : (c.extract (base + off * sz) (base + off * sz + len * sz)).toList.length = len * sz := by simp; omega
       refine grow (some ⟨b, base + off * sz, none⟩) cap (c.extract (base + off * sz) (base + off * sz + len * sz)).toList (by omega) ?_ hex ?_
       ·have := run_firstCells_some (P := P) w.drew i.size len ⟨b, base + off * sz, none⟩ len cap (c.extract (base + off * sz) (base + off * sz + len * sz)).toList (by rw [hex, hisz]) (by
         intro j u hj
         rw [Array.getElem?_toList, getElem?_extract' _ _ _ _ hin] at hj
         split at hj
         ·rw [add_addr]
          show w.drew.cell? _ = _
          have : w.drew.heap[b]? = some (.cells c T (0, 0)) := f3
          rw [cell_block this]; exact hj
         ·cases hj)
        exact this
       ·intro k r j q v hk hj hv
        rw [List.getElem?_drop] at hk
        rw [Array.getElem?_toList, getElem?_extract' _ _ _ _ hin] at hv
        split at hv
        ·refine hcells (off + k) r j q v hk hj ?_
         rw [← hv]; congr 1; rw [Nat.add_mul]; omega
        ·cases hv
    ·cases h
   ·cases h
  ·rename_i p sz2 rows2 hse hsrc
   split at h
   ·rename_i z0 hc hby hz0
    split at h
    ·rename_i hsz2 hzl
     cases h
     simp only [All_append] at hp
     obtain ⟨hp1, hrs, hbig, hrl, _⟩ := hp
     rw [hse] at hs
     rw [rel_nilsl hs]
     simp only [Bool.or_eq_true] at hsz2
     exact appendNil_sound R ht ht' hLm (by assumption) hsrc hp1 (beq_false hc) (Nat.le_of_ble_eq_true hby) hz0 hzl (hsz2.imp nbeq_eq nbeq_eq) hrs hbig hrl
    ·cases h
   ·cases h
  ·cases h
 ·cases h
theorem fam_set {n f sz i b base : Nat} {mem : List (List (List PV))} {rows rows' : List (List PV)} {c c' : Array Value} {T : TypeId} (hO : ORel M w n (.fam false f sz mem)) (hm : mem[i]? = some rows) (e : M.fam f i = some (b, base))
  (f3 : w.heap[b]? = some (.cells c T (0, 0))) (hs : c'.size = c.size) (hl : rows'.length = rows.length) (hle : base + rows.length * sz ≤ c.size) (h3 : ∀ q ∈ rows', q.length = sz)
  (h4 : ∀ (k : Nat) (q : List PV) (j : Nat) (p : PV) (x : Value), rows'[k]? = some q → q[j]? = some p → c'[base + k * sz + j]? = some x → PRel M (w.setRow b c') x p)
  (hext : Ext M w M (w.setRow b c')) : ORel M (w.setRow b c') n (.fam false f sz (mem.set i rows')) := by
 have hil : i < mem.length := (List.getElem?_eq_some_iff.1 hm).1
 cases hO with | fam _ _ _ _ bk n1 n2 h0 h1 h2 h3' h4' h5 h6 =>
 have hbk : M.fam f i = some (bk i) := by
  rcases h4' i hil with h4 | ⟨h4, _⟩
  ·rw [h4.1] at e; cases e
  ·exact h4
 have hbk' : bk i = (b, base) := by rw [hbk] at e; exact Option.some.inj e
 refine .fam false f sz _ bk n1 n2 h0 h1 h2 (fun j hj => h3' j (by simpa using hj)) (fun j hj => ?_) (fun j k hj hk => h5 j k (by simpa using hj) (by simpa using hk)) (fun j rs hj hfj => ?_)
 ·have hj : j < mem.length := by simpa using hj
  rcases h4' j hj with h4 | h4
  ·left
   refine ⟨h4.1, ?_⟩
   rw [List.getElem?_set]
   split
   ·rename_i hji; subst hji; rw [hbk] at h4; cases h4.1
   ·exact h4.2
  ·exact .inr h4
 ·rw [List.getElem?_set] at hj
  split at hj
  ·rename_i hij
   subst hij
   simp only [hil, if_true, Option.some.injEq] at hj
   subst hj
   rw [hbk']
   exact ⟨c', T, setRow_heap w b c c' T (0, 0) f3, by rw [hs, hl]; exact hle, h3, h4⟩
  ·rename_i hij
   have hjl : j < mem.length := (List.getElem?_eq_some_iff.1 hj).1
   obtain ⟨c2, T2, q1, q2, q3, q4⟩ := h6 j rs hj hfj
   have hne : (bk j).1 ≠ b := by
    intro hh
    have := h5 j i hjl hil hfj hbk (by rw [hh, hbk'])
    exact hij this.symm
   exact ⟨c2, T2, by rw [setRow_other _ _ _ _ hne]; exact q1, q2, q3, fun k r j p x a1 a2 a3 => (q4 k r j p x a1 a2 a3).mono hext⟩
theorem copyA_sound (R : RSt M σ a w) {t tx ty : TypeId} {x y : AV} {an : Ann} {out : Out} (h : copyA P σ.obj t x y an = some out) (hp : All out.ob) {u v : Value} (hx : VRel M w u x) (hy : VRel M w v y) :
  ∃ z w', (Builtin.copy_ #[t, tx] ty #[u, v]).run P w = .ok z w' ∧ ∃ M', Post M σ w out M' z w' := by
 unfold copyA at h
 split at h
 ·rename_i n rows r0 mem'
  split at h
  ·rename_i e f i off len sz rows2 ht
   split at h
   case h_2 => cases h
   rename_i f' sz' mem hL hs1 hsz
   split at h
   ·rename_i hs2
    have hs1 := nbeq_eq hs1
    have hs2 := nbeq_eq hs2
    subst hs1; subst hs2
    cases h
    obtain ⟨rfl, hmem, hfit, hr2, rfl, _⟩ := hp
    have hO := R.ob n _ hL
    have htl : (rows2.take (min rows2.length len)).length = min rows2.length len := by simp
    have idle : ∀ ob : List Obl, min rows2.length len = 0 → ∀ (dp sp : Option Addr) (dc sc : Nat), u = .slice dp len dc → v = .slice sp rows2.length sc →
      ∃ z w', (Builtin.copy_ #[t, tx] ty #[u, v]).run P w = .ok z w' ∧ ∃ M', Post M σ w ⟨ob, .undef, [(n, .fam false f 1 (mem.set i (splice rows off (rows2.take (min rows2.length len)))))]⟩ M' z w' := by
     intro ob h0 dp sp dc sc hu hv
     subst hu; subst hv
     have hmm : mem.set i (splice rows off (rows2.take (min rows2.length len))) = mem := by
      rw [h0]
      have : splice rows off (rows2.take 0) = rows := by simp [splice]
      rw [this]
      refine List.ext_getElem? fun k => ?_
      rw [List.getElem?_set]
      split
      ·rename_i hk; subst hk
       have := (List.getElem?_eq_some_iff.1 hmem).1
       rw [if_pos this, hmem]
      ·rfl
     have hlk : ∀ k, lk (up σ.o n (.fam false f 1 mem)) k = lk σ.o k := by
      intro k; rw [lk_up]; split
      ·rename_i hk; subst hk; exact hL.symm
      ·rfl
     refine ⟨goInt 0, w, run_copy_none (P := P) w t tx ty e dp sp len dc rows2.length sc ht hsz h0, M, .refl M w, .undef _, ?_, fun _ _ => rfl, fun _ _ => rfl, by simp [AV.nms], ?_⟩
     ·intro k o hk
      simp only [wrO, hmm, hlk] at hk
      exact R.ob k o hk
     ·intro k o hk j hj
      simp only [wrO, hmm, hlk] at hk ⊢
      exact R.wo k o hk j hj
    cases hx with | pv _ _ hx =>
    cases hy with | pv _ _ hy =>
    cases hx with
    | fh0 _ _ _ _ ad c =>
     cases hy with
     | sl0 ad2 c2 => exact idle _ (by simp) _ _ _ _ rfl rfl
     | sl b2 off2 sz2 len2 c2 _ x2 l1 l2 l3 l4 l5 => exact idle _ (by simp) _ _ _ _ rfl (by rw [l1])
    | fh _ _ _ _ _ b base c e1 hlc =>
     cases hy with
     | sl0 ad2 c2 => exact idle _ (by simp) _ _ _ _ rfl rfl
     | sl b2 off2 sz2 len2 c2 _ x2 l1 l2 l3 l4 l5 =>
      by_cases h0 : min rows2.length len = 0
      ·exact idle _ h0 _ _ _ _ rfl (by rw [l1])
      ·obtain ⟨f2, cs, T, f3, f4, f5, f6⟩ := fam_at hO hmem e1
       have hsz2 : sz2 = 1 := by
        have hlt : 0 < rows2.length := by omega
        have := l3 0 _ (List.getElem?_eq_getElem hlt)
        rw [hr2 _ (List.getElem_mem hlt)] at this; exact this.symm
       subst hsz2
       have one : ∀ j, j < rows2.length → ∃ p, rows2[j]? = some [p] := by
        intro j hj
        have hr := hr2 _ (List.getElem_mem hj)
        obtain ⟨p, hp⟩ := List.length_eq_one_iff.1 hr
        exact ⟨p, by rw [List.getElem?_eq_getElem hj, hp]⟩
       obtain ⟨ds, hds⟩ : ∃ ds : List Value, ds = (List.range (min rows2.length len)).map fun j => x2 j 0 := ⟨_, rfl⟩
       have hdl : ds.length = min rows2.length len := by rw [hds]; simp
       have hdg : ∀ (j : Nat) (z : Value), ds[j]? = some z → j < min rows2.length len ∧ z = x2 j 0 := by
        intro j z hj
        have hlt : j < ds.length := (List.getElem?_eq_some_iff.1 hj).1
        rw [hdl] at hlt
        rw [hds] at hj
        simp [hlt] at hj
        exact ⟨hlt, hj.symm⟩
       have hfit2 : base + off * 1 + ds.length ≤ cs.size := by rw [hdl]; omega
       have hrun := run_copy_row (P := P) w t tx ty e b (base + off * 1) len c ⟨b2, off2, none⟩ len2 c2 cs T ds ht hsz f3 (by rw [hdl, l1]) (by
        intro j z hj
        obtain ⟨hj, rfl⟩ := hdg j z hj
        obtain ⟨p, hp⟩ := one j (by omega)
        have := (l4 j [p] 0 p hp rfl).2
        rw [show (⟨b2, off2, none⟩ : Addr).add j = ⟨b2, off2 + j * 1 + 0, none⟩ by unfold Addr.add; split <;> simp_all]
        exact this) hfit2 (by
        intro z hz
        obtain ⟨j, hj⟩ := List.getElem?_of_mem hz
        obtain ⟨hj, rfl⟩ := hdg j z hj
        obtain ⟨p, hp⟩ := one j (by omega)
        exact (l5 j [p] 0 p hp rfl).oneCell)
       have hc' : (cs.toList.take (base + off * 1) ++ ds ++ cs.toList.drop (base + off * 1 + ds.length)).toArray = (splice cs.toList (base + off * 1) ds).toArray := rfl
       rw [hc'] at hrun
       obtain ⟨c', hcc⟩ : ∃ c', c' = (splice cs.toList (base + off * 1) ds).toArray := ⟨_, rfl⟩
       rw [← hcc] at hrun
       have hsz' : c'.size = cs.size := by rw [hcc, List.size_toArray, length_splice _ _ _ (by simpa using hfit2)]; simp
       have hext := Ext.setRow (M := M) f3 f2 hsz'
       have hrl : (splice rows off (rows2.take (min rows2.length len))).length = rows.length := length_splice _ _ _ (by rw [htl]; omega)
       have P0 := Post.write R f3 f2 hsz' (out := ⟨[], .undef, [(n, .fam false f 1 (mem.set i (splice rows off (rows2.take (min rows2.length len)))))]⟩) rfl rfl (by rw [show lk σ.o n = _ from hL]; rfl)
        (fam_set hO hmem e1 f3 hsz' hrl f4 (fun q hq => ?_) (fun k q j p x hk hj hx => ?_) hext) (by simp [AObj.nms])
       ·exact ⟨_, _, hrun, M, P0.ext, .undef _, P0.obj, P0.bet, P0.bev, P0.vnm, P0.onm⟩
       ·obtain ⟨k, hk⟩ := List.getElem?_of_mem hq
        rw [getElem?_splice _ _ _ (by rw [htl]; omega)] at hk
        split at hk
        ·exact hr2 q (List.mem_of_mem_take (List.mem_of_getElem? hk))
        ·exact f5 q (List.mem_of_getElem? hk)
       ·rw [getElem?_splice _ _ _ (by rw [htl]; omega), htl] at hk
        have hx' : (splice cs.toList (base + off * 1) ds)[base + k * 1 + j]? = some x := by rw [hcc] at hx; simpa using hx
        rw [getElem?_splice _ _ _ (by simpa using hfit2), hdl] at hx'
        split at hk
        ·rename_i hb
         have hk2 := hk
         rw [List.getElem?_take] at hk2
         split at hk2
         ·have hq := hr2 q (List.mem_of_getElem? hk2)
          have hj0 : j = 0 := by have := (List.getElem?_eq_some_iff.1 hj).1; omega
          subst hj0
          rw [if_pos (by omega)] at hx'
          rw [show base + k * 1 + 0 - (base + off * 1) = k - off by omega] at hx'
          obtain ⟨_, rfl⟩ := hdg _ _ hx'
          exact (l5 (k - off) q 0 p hk2 hj).mono hext
         ·cases hk2
        ·rename_i hb
         have hq := f5 q (List.mem_of_getElem? hk)
         have hj0 : j = 0 := by have := (List.getElem?_eq_some_iff.1 hj).1; omega
         subst hj0
         rw [if_neg (by omega)] at hx'
         exact (f6 k q 0 p x hk hj (by simpa using hx')).mono hext
   ·cases h
  ·cases h
 ·cases h
theorem appendI_sound (R : RSt M σ a w) {n len sz N : Nat} {s x : Operand} (hse : σ.ev s = .hx n len sz N) {t tx : TypeId} {m : Nat} {rs : List (List PV)} {out : Out}
  (h : appendI P σ.obj n len sz N (σ.ev x) t tx m rs = some out) (hp : All out.ob) (ty : TypeId) :
  ∃ v w', (Builtin.append_ #[t, tx] ty #[a.eval s, a.eval x]).run P w = .ok v w' ∧ ∃ M', Post M σ w out M' v w' := by
 have hs := R.ev s
 unfold appendI at h
 split at h
 ·rename_i e e' sz' rows p sz2 rows2 he he' hL hLm hodd hsrc
  have ht := elemOfP_sound he
  have ht' := elemOfP_sound he'
  split at h
  ·rename_i hsz' hsz hsz2
   have hsz := nbeq_eq hsz
   have hsz' := nbeq_eq hsz'
   have hsz2 : sz2 = 0 ∨ sz2 = sz := by
    simp only [Bool.or_eq_true] at hsz2
    exact hsz2.imp nbeq_eq nbeq_eq
   subst hsz'
   cases h
   simp only [All_append] at hp
   obtain ⟨hp1, hpos, hN, hlen, hrs, hrl, _⟩ := hp
   have hns : (lk σ.o n).isSome := by rw [show lk σ.o n = _ from hL]; rfl
   have hO := R.ob n _ hL
   cases hO with
   | sl0 => simp at hpos
   | sl _ _ _ b base c T h0 g1 g2 g3 g4 g5 g6 g7 =>
   have hκ : M.κ b = .own n := g2
   have hc0 : P.cellsOf e ≠ 0 := by omega
   obtain ⟨i, hi⟩ := cells_some hc0
   have hisz : i.size = sz := by rw [hsz]; simp [Program.cellsOf, hi]
   obtain ⟨news, src, hnews⟩ := srcA_sound (P := P) R hsrc hp1 hrl hsz2 h0 ht'
   rw [← hisz] at src
   have hrsl : rs.length = len + rows2.length := by rw [← hrs]; simp; omega
   have hrslen : ∀ r ∈ rs, r.length = sz := by
    intro r hr
    rw [← hrs, List.mem_append] at hr
    rcases hr with hr | hr
    ·exact g5 r (List.mem_of_mem_take hr)
    ·exact hrl r hr
   rw [hse] at hs
   generalize a.eval s = y at hs ⊢
   cases hs with
   | hx _ _ _ _ b' base' cap c' T' fr f1 f2 f3 f4 f5 =>
    rw [g1] at f1; cases f1
    rw [g3] at f4; cases f4
    have hmul : (len + rows2.length) * sz ≤ cap * sz := Nat.mul_le_mul_right _ (by omega)
    have hfit : base + len * sz + news.length ≤ c.size := by
     rw [hnews.len]
     simp only [Nat.add_mul] at hmul
     omega
    have hroom : len + rows2.length ≤ cap := by omega
    have hst := run_storeCells_at (P := P) b (base + len * sz) T news 0 c w g3 (by simpa using hfit) src.one
    simp only [Nat.add_zero] at hst
    have hrun : (Builtin.append_ #[t, tx] ty #[.slice (some ⟨b, base, none⟩) len cap, a.eval x]).run P w =
      .ok (.slice (some ⟨b, base, none⟩) (len + rows2.length) cap) (w.setRow b (splice c.toList (base + len * sz) news).toArray) := by
     have hcs := src.cells
     rw [hisz] at hcs
     rcases src.kind with ⟨e', hk⟩ | hk <;>
      simp [hcs, Builtin.append_, run_underlying ht, run_underlying hk, sizeOf, typeInfo, hi, src.len, hroom, Addr.add_lit, hisz, hst, splice]
    have hs' : (splice c.toList (base + len * sz) news).toArray.size = c.size := by
     rw [List.size_toArray, length_splice]
     ·simp
     ·simpa using hfit
    have hext1 : Ext M w M (w.setRow b (splice c.toList (base + len * sz) news).toArray) := Ext.setRow g3 hκ hs'
    have hext : Ext M w ⟨updN M.κ b (.own m), updN M.β m (rs.length, some (b, base)), M.φ, M.F0⟩ (w.setRow b (splice c.toList (base + len * sz) news).toArray) := by
     refine ⟨hext1.os, hext1.tape, hext1.output, hext1.size, hext1.keep, ?_, ?_, hext1.shp, hext1.fam, hext1.low, hext1.f0⟩
     ·intro k _ hk
      have : k ≠ b := by rintro rfl; rw [hκ] at hk; cases hk
      simp only; rw [updN_ne _ _ this]; exact hk
     ·intro k _ hk
      have : k ≠ b := by rintro rfl; rw [hκ] at hk; cases hk
      simp only; rw [updN_ne _ _ this]; exact hk
    have hb' := setRow_heap w b c (splice c.toList (base + len * sz) news).toArray T (0, 0) g3
    refine ⟨_, _, hrun, ⟨updN M.κ b (.own m), updN M.β m (rs.length, some (b, base)), M.φ, M.F0⟩, ?_⟩
    refine Post.turn R hodd hns hLm rfl hext (fun k hk => updN_ne _ _ hk) ?_ ?_ (by simp [AV.nms]) rfl ?_
    ·refine .hv _ _ _ _ ?_
     rw [show (updN M.β m (rs.length, some (b, base)) m).1 = rs.length from updN_1 _ _ _, ← hrsl]
     exact VRel.hx (M := ⟨updN M.κ b (.own m), updN M.β m (rs.length, some (b, base)), M.φ, M.F0⟩) m rs.length sz N b base cap _ T (0, 0) (updN_2 _ _ _) (by omega) f3 hb' (by rw [hs']; exact f5)
    ·refine .sl false sz rs b base _ T h0 (updN_2 _ _ _) (updN_self _ _ _) hb' ?_ hrslen ?_ (updN_1 _ _ _)
     ·rw [hs', hrsl, Nat.add_mul]; rw [hnews.len] at hfit; omega
     ·intro k r j q v hk hj hv
      have hjl : j < sz := by
       have := (List.getElem?_eq_some_iff.1 hj).1
       rw [hrslen r (List.mem_of_getElem? hk)] at this; exact this
      have hdl : (rows.take len).length = len := by simp; omega
      have hkl : k < len + rows2.length := by rw [← hrsl]; exact (List.getElem?_eq_some_iff.1 hk).1
      rw [← hrs] at hk
      refine PRel.mono hext ?_
      rw [List.getElem?_toArray, getElem?_splice _ _ _ (by simpa using hfit)] at hv
      by_cases hkk : k < len
      ·rw [List.getElem?_append_left (by omega), List.getElem?_take_of_lt hkk] at hk
       have h1 := row_lt hkk hjl
       rw [if_neg (by omega), Array.getElem?_toList] at hv
       exact g6 k r j q v hk hj hv
      ·rw [List.getElem?_append_right (by omega), hdl] at hk
       have hlt : (k - len) * sz + j < rows2.length * sz := row_lt (by omega) hjl
       have heq : k * sz = len * sz + (k - len) * sz := by rw [← Nat.add_mul]; congr 1; omega
       rw [if_pos (by rw [hnews.len]; omega)] at hv
       refine hnews.cell (k - len) r j q v hk hj ?_
       rw [← hv]; congr 1; omega
    ·intro k b' hk hb'' hc
     have : b' ≠ b := by
      rintro rfl
      rw [hκ] at hc
      rcases hc with hc | hc
      ·cases hc; exact hk rfl
      ·cases hc
     exact ⟨updN_ne _ _ this, setRow_other _ _ _ _ this⟩
  ·cases h
 ·cases h
theorem zeroRows_len (rows : List (List PV)) (off len : Nat) (z : List PV) : (zeroRows rows off len z).length = rows.length := by
 unfold zeroRows
 simp only [List.length_append, List.length_take, List.length_replicate, List.length_drop]
 omega
theorem zeroRows_get {rows : List (List PV)} {off len : Nat} {z : List PV} {k : Nat} {r : List PV} (h : (zeroRows rows off len z)[k]? = some r) : (off ≤ k ∧ k < off + len ∧ r = z) ∨ (¬ (off ≤ k ∧ k < off + len) ∧ rows[k]? = some r) := by
 have hk := (List.getElem?_eq_some_iff.1 h).1
 rw [zeroRows_len] at hk
 unfold zeroRows at h
 by_cases h1 : k < off
 ·rw [List.append_assoc, List.getElem?_append_left (by simp; omega), List.getElem?_take_of_lt h1] at h
  exact .inr ⟨by omega, h⟩
 ·by_cases h2 : k < off + len
  ·rw [List.getElem?_append_left (by simp; omega), List.getElem?_append_right (by simp; omega), List.getElem?_replicate] at h
   split at h
   ·cases h; exact .inl ⟨by omega, h2, rfl⟩
   ·cases h
  ·rw [List.getElem?_append_right (by simp; omega), List.getElem?_drop] at h
   refine .inr ⟨by omega, ?_⟩
   rw [← h]; congr 1
   simp only [List.length_append, List.length_take, List.length_replicate]
   omega
theorem clearA_sound (R : RSt M σ a w) {n off len sz : Nat} {v : Value} (hv : VRel M w v (.hd n off len sz)) {t ty : TypeId} {rs : List (List PV)} {out : Out}
  (h : clearA P σ.obj n off len sz t rs = some out) (hp : All out.ob) :
  ∃ u w', (Builtin.clear_ #[t] ty #[v]).run P w = .ok u w' ∧ ∃ M', Post M σ w out M' u w' := by
 unfold clearA at h
 split at h
 ·rename_i e sz' rows he hL
  have ht := elemOfP_sound he
  split at h
  ·rename_i zc hsz' hsz hz0
   split at h
   ·rename_i hzl
    have hsz := nbeq_eq hsz
    have hsz' := nbeq_eq hsz'
    have hzl := nbeq_eq hzl
    subst hsz'
    cases h
    obtain ⟨hrs, _⟩ := hp
    have hns : (lk σ.o n).isSome := by rw [show lk σ.o n = _ from hL]; rfl
    have hO := R.ob n _ hL
    have nothing : len = 0 → (∃ ad cap, v = .slice ad 0 cap) → ∃ u w', (Builtin.clear_ #[t] ty #[v]).run P w = .ok u w' ∧ ∃ M', Post M σ w ⟨[.p (zeroRows rows off len (zc.map nz) = rs)], .undef, [(n, .sl false sz rs)]⟩ M' u w' := by
     rintro hl0 ⟨ad, cap, rfl⟩
     subst hl0
     have hrr : rs = rows := by
      rw [← hrs]; unfold zeroRows; simp
     subst hrr
     refine ⟨.tuple #[], w, ?_, M, .refl M w, .undef _, ?_, fun _ _ => rfl, fun _ _ => rfl, by simp [AV.nms], ?_⟩
     ·cases ad <;> simp [Builtin.clear_, run_underlying ht]
     ·intro k o hk
      simp only [wrO, lk_up] at hk
      split at hk
      ·rename_i e1; subst e1; cases hk; exact hO
      ·exact R.ob k o hk
     ·intro k o hk q hq
      simp only [wrO, lk_up] at hk ⊢
      split at hk
      ·cases hk; simp [AObj.nms] at hq
      ·split
       ·rfl
       ·exact R.wo k o hk q hq
    cases hv with
    | hd0 _ _ _ ad => exact nothing rfl ⟨ad, 0, rfl⟩
    | hd _ _ _ _ b base cap c T fr f1 f2 f3 f4 =>
     by_cases hl0 : len = 0
     ·exact nothing hl0 ⟨_, cap, by rw [hl0]⟩
     ·cases hO with
      | sl0 _ _ _ g1 => rw [f1] at g1; cases g1
      | sl _ _ _ b' base' c' T' h0 g1 g2 g3 g4 g5 g6 g7 =>
       rw [f1] at g1; cases g1
       rw [f3] at g3; cases g3
       have hκ : M.κ b = .own n := g2
       have hc0 : P.cellsOf e ≠ 0 := by omega
       obtain ⟨i, hi⟩ := cells_some hc0
       unfold zeroA at hz0
       simp only [hi, Option.bind_some, Option.map_eq_some_iff, Option.bind_eq_some_iff] at hz0
       obtain ⟨_, ⟨z0, hz0, rfl⟩, hzc⟩ := hz0
       have hpl : (avOf z0).plain = true := by
        cases hh : avOf z0 <;> simp [hh, AV.cellsP] at hzc <;> rfl
       have cz := CRel.of (avOf_rel (M := M) (w := w) z0) hpl
       rw [cellsP_A hzc] at cz
       have cz := cz.nz
       have cz' := cz.pvs
       have hzs : z0.cells.size = sz := by rw [cz'.1]; simpa using hzl
       have hzs0 : z0.cells.size ≠ 0 := by omega
       have hzn : (Builtin.zeroCells z0.cells len).size = len * sz := by rw [size_zeroCells, hzs]
       have hfit : base + off * sz + len * sz ≤ c.size := by
        have : (off + len) * sz ≤ (off + cap) * sz := Nat.mul_le_mul_right _ (by omega)
        simp only [Nat.add_mul] at this f4
        omega
       have hone : ∀ v ∈ (Builtin.zeroCells z0.cells len).toList, v.oneCell' = true := by
        intro v hv
        obtain ⟨k, hk, rfl⟩ := List.getElem_of_mem hv
        have hk' : k < (Builtin.zeroCells z0.cells len).size := by simpa using hk
        have hk2 : k < len * z0.cells.size := by rw [hzs, ← hzn]; exact hk'
        have hg := zeros_get z0.cells (len * z0.cells.size) k hzs0 hk2
        have : (Builtin.zeroCells z0.cells len)[k]? = some ((Builtin.zeroCells z0.cells len).toList[k]) := by
         rw [← Array.getElem?_toList]; exact List.getElem?_eq_getElem hk
        unfold Builtin.zeroCells at this
        rw [this] at hg
        exact cz.one _ (Array.mem_of_getElem? hg.symm)
       have hst := run_storeCells_at (P := P) b (base + off * sz) T (Builtin.zeroCells z0.cells len).toList 0 c w f3 (by simpa [hzn] using hfit) hone
       simp only [Nat.add_zero] at hst
       have hrun : (Builtin.clear_ #[t] ty #[.slice (some ⟨b, base + off * sz, none⟩) len cap]).run P w = .ok (.tuple #[]) (w.setRow b (splice c.toList (base + off * sz) (Builtin.zeroCells z0.cells len).toList).toArray) := by
        obtain ⟨k, rfl⟩ : ∃ k, len = k + 1 := ⟨len - 1, by omega⟩
        simp [Builtin.clear_, run_underlying ht, zeroValue, typeInfo, hi, hz0, hst, splice]
       have hs' : (splice c.toList (base + off * sz) (Builtin.zeroCells z0.cells len).toList).toArray.size = c.size := by
        rw [List.size_toArray, length_splice]
        ·simp
        ·simpa [hzn] using hfit
       have hb' := setRow_heap w b c (splice c.toList (base + off * sz) (Builtin.zeroCells z0.cells len).toList).toArray T (0, 0) f3
       have hext := Ext.setRow (M := M) f3 hκ hs'
       have hP : Post M σ w ⟨[.p (zeroRows rows off len (zc.map nz) = rs)], .undef, [(n, .sl false sz rs)]⟩ M undef _ := Post.write R f3 hκ hs' rfl rfl hns (o := .sl false sz rs) (by
        subst hrs
        refine .sl false sz _ b base _ T h0 f1 hκ hb' (by rw [hs', zeroRows_len]; exact g4) ?_ ?_ (by rw [zeroRows_len]; exact g7)
        ·intro r hr
         obtain ⟨k, hk⟩ := List.getElem?_of_mem hr
         rcases zeroRows_get hk with ⟨_, _, rfl⟩ | ⟨_, hk⟩
         ·simpa using hzl
         ·exact g5 r (List.mem_of_getElem? hk)
        ·intro k r j q v hk hj hv
         refine PRel.mono hext ?_
         rw [List.getElem?_toArray, getElem?_splice _ _ _ (by simpa [hzn] using hfit)] at hv
         have hkl : k < rows.length := by have := (List.getElem?_eq_some_iff.1 hk).1; rwa [zeroRows_len] at this
         rcases zeroRows_get hk with ⟨k1, k2, rfl⟩ | ⟨k1, hk⟩
         ·have hjl : j < sz := by have := (List.getElem?_eq_some_iff.1 hj).1; simp at this; omega
          have heq : k * sz = off * sz + (k - off) * sz := by rw [← Nat.add_mul]; congr 1; omega
          have hlt : (k - off) * sz + j < len * sz := row_lt (by omega) hjl
          rw [if_pos (by rw [Array.length_toList, hzn]; omega)] at hv
          have hidx : base + k * sz + j - (base + off * sz) = (k - off) * sz + j := by omega
          rw [hidx, Array.getElem?_toList, Builtin.zeroCells, zeros_get _ _ _ hzs0 (by rw [hzs]; exact hlt), hzs] at hv
          have : ((k - off) * sz + j) % sz = j := by rw [Nat.mul_comm, Nat.mul_add_mod, Nat.mod_eq_of_lt hjl]
          rw [this] at hv
          exact cz'.2 j v q hv hj
         ·have hjl : j < sz := by have := (List.getElem?_eq_some_iff.1 hj).1; rw [g5 r (List.mem_of_getElem? hk)] at this; exact this
          rw [if_neg ?_, Array.getElem?_toList] at hv
          ·exact g6 k r j q v hk hj hv
          ·rw [Array.length_toList, hzn]
           rintro ⟨z1, z2⟩
           apply k1
           constructor
           ·apply Classical.byContradiction
            intro hn
            have := row_lt (show k < off by omega) hjl
            omega
           ·apply Classical.byContradiction
            intro hn
            have : (off + len) * sz ≤ k * sz := Nat.mul_le_mul_right _ (by omega)
            rw [Nat.add_mul] at this
            omega) (by simp [AObj.nms])
       exact ⟨_, _, hrun, M, hP.ext, .undef _, hP.obj, hP.bet, hP.bev, by simp [AV.nms], hP.onm⟩
   ·cases h
  ·cases h
 ·cases h
end
end Go.Fx
