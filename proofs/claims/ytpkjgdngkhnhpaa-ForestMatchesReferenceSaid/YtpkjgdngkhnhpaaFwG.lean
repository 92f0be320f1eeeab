/- Append: sound. -/
import Derived.Test.YtpkjgdngkhnhpaaFwF
namespace Go.Fw
section
variable {P : Program} {M : Mm} {w : World} {σ : St} {a : Act}
structure NewsRel (M : Mm) (w : World) (sz : Nat) (news : List Value) (rows : List (List PV)) : Prop where
 len : news.length = rows.length * sz
 cell : ∀ (i : Nat) (r : List PV) (j : Nat) (p : PV) (v : Value), rows[i]? = some r → r[j]? = some p → news[i * sz + j]? = some v → PRel M w v p
theorem srcA_sound (R : RSt M σ a w) {x : Operand} {p : List Prop} {sz2 sz : Nat} {rows2 : List (List PV)} (h : srcA σ.obj (σ.ev x) = some (p, sz2, rows2)) (hp : All p)
  (hr : ∀ r ∈ rows2, r.length = sz) (hz : sz2 = 0 ∨ sz2 = sz) (h0 : 0 < sz) {tx e' : TypeId} (ht : P.underlying tx = some (.slice e')) :
  ∃ news, Src P sz tx (a.eval x) rows2.length news w ∧ NewsRel M w sz news rows2 := by
 have hx := R.ev x
 unfold srcA at h
 split at h
 ·rename_i rows hxe
  cases h
  rw [hxe] at hx
  generalize a.eval x = y at hx
  cases hx with | pv _ _ hx =>
  cases hx with
  | sl0 ad c =>
   refine ⟨[], ?_, by simp, by simp⟩
   cases ad with
   | none => exact Src.ofNil w ht c
   | some ad => exact Src.ofSlice w ht ad 0 c [] (by simp) (by simp) (by simp)
  | sl b off sz' len c _ z h1 hlc h2 h3 h4 =>
   subst h1
   by_cases hnil : rows2 = []
   ·subst hnil
    exact ⟨[], Src.ofSlice w ht _ 0 c [] (by simp) (by simp) (by simp), by simp, by simp⟩
   ·have hsz : sz' = sz := by
     obtain ⟨r, hr'⟩ := List.exists_mem_of_ne_nil _ hnil
     obtain ⟨i, hi⟩ := List.getElem?_of_mem hr'
     rw [← h2 i r hi]; exact hr r hr'
    subst hsz
    have key : ∀ k, k < rows2.length * sz' → ∃ r p, rows2[k / sz']? = some r ∧ r[k % sz']? = some p := by
     intro k hk
     have hi : k / sz' < rows2.length := by
      rw [Nat.div_lt_iff_lt_mul h0]; exact hk
     refine ⟨rows2[k / sz'], ?_⟩
     have hl : rows2[k / sz'].length = sz' := hr _ (List.getElem_mem hi)
     have hj : k % sz' < rows2[k / sz'].length := by rw [hl]; exact Nat.mod_lt _ h0
     exact ⟨rows2[k / sz'][k % sz'], by simp [hi], by simp [hj]⟩
    refine ⟨(List.range (rows2.length * sz')).map fun k => z (k / sz') (k % sz'), ?_, by simp, ?_⟩
    ·refine Src.ofSlice w ht _ _ c _ (by simp) ?_ ?_
     ·intro j u hj
      have hk : j < rows2.length * sz' := by have := (List.getElem?_eq_some_iff.1 hj).1; simpa using this
      simp [hk] at hj
      subst hj
      obtain ⟨r, q, e1, e2⟩ := key j hk
      rw [add_addr, ← (h3 _ r _ q e1 e2).2]
      congr 2
      have := Nat.div_add_mod j sz'
      rw [Nat.mul_comm] at this
      omega
     ·intro u hu
      simp only [List.mem_map, List.mem_range] at hu
      obtain ⟨k, hk, rfl⟩ := hu
      obtain ⟨r, q, e1, e2⟩ := key k hk
      exact (h4 _ r _ q e1 e2).oneCell
    ·intro i r j p v e1 e2 e3
     have hil : i < rows2.length := (List.getElem?_eq_some_iff.1 e1).1
     have hjl : j < sz' := by have := (List.getElem?_eq_some_iff.1 e2).1; rw [hr r (List.mem_of_getElem? e1)] at this; exact this
     have hk := row_lt hil hjl
     simp [hk] at e3
     have d1 : (i * sz' + j) / sz' = i := by rw [Nat.mul_comm, Nat.mul_add_div h0, Nat.div_eq_of_lt hjl]; rfl
     have d2 : (i * sz' + j) % sz' = j := by rw [Nat.mul_comm, Nat.mul_add_mod, Nat.mod_eq_of_lt hjl]
     rw [d1] at e3
     first
      | rw [d2] at e3
      | rw [Nat.mod_eq_of_lt hjl] at e3
     subst e3
     exact h4 i r j p e1 e2
 ·rename_i hxe
  cases h
  rw [hxe] at hx
  rw [rel_nilsl hx]
  exact ⟨[], Src.ofNil w ht 0, by simp, by simp⟩
 ·rename_i n off len sz2 hxe
  rw [hxe] at hx
  split at h
  ·rename_i fz sz' rows hL
   split at h
   ·rename_i hs
    have hs := nbeq_eq hs
    subst hs
    cases h
    obtain ⟨hle, _⟩ := hp
    have hcl : (cut1 rows off len).length = len := length_cut1 _ _ _ hle
    generalize a.eval x = y at hx
    cases hx with
    | hd0 _ _ _ ad =>
     have hnil : cut1 rows off 0 = [] := List.eq_nil_of_length_eq_zero hcl
     rw [hnil]
     refine ⟨[], ?_, by simp, by simp⟩
     cases ad with
     | none => exact Src.ofNil w ht 0
     | some ad => exact Src.ofSlice w ht ad 0 0 [] (by simp) (by simp) (by simp)
    | hd _ _ _ _ b base cap c T fr f1 f2 f3 f4 =>
     rw [hcl]
     by_cases hl0 : len = 0
     ·subst hl0
      have hnil : cut1 rows off 0 = [] := List.eq_nil_of_length_eq_zero hcl
      rw [hnil]
      exact ⟨[], Src.ofSlice w ht _ 0 cap [] (by simp) (by simp) (by simp), by simp, by simp⟩
     ·have hrl : off < rows.length := by omega
      cases R.ob n _ hL with
      | sl0 => simp at hrl
      | sl _ _ _ b' base' c' T' g0 g1 g2 g3 g4 g5 g6 =>
       rw [f1] at g1; cases g1
       rw [f3] at g3; cases g3
       have hsz : sz2 = sz := by
        rw [← g5 rows[off] (List.getElem_mem hrl)]
        apply hr
        have : (cut1 rows off len)[0]? = some rows[off] := by rw [getElem?_cut1, if_pos (by omega)]; simp [hrl]
        exact List.mem_of_getElem? this
       subst hsz
       have hin : base + off * sz2 + len * sz2 ≤ c.size := by
        have : (off + len) * sz2 ≤ rows.length * sz2 := Nat.mul_le_mul_right _ hle
        rw [Nat.add_mul] at this; omega
       have get : ∀ k, (c.extract (base + off * sz2) (base + off * sz2 + len * sz2)).toList[k]? = if k < len * sz2 then c[base + off * sz2 + k]? else none := by
        intro k; rw [Array.getElem?_toList, getElem?_extract' _ _ _ _ hin]
       have hnl : (c.extract (base + off * sz2) (base + off * sz2 + len * sz2)).toList.length = len * sz2 := by
        rw [Array.length_toList, Array.size_extract]; omega
       have hcell : ∀ (i : Nat) (r : List PV) (j : Nat) (p : PV) (v : Value), (cut1 rows off len)[i]? = some r → r[j]? = some p → (c.extract (base + off * sz2) (base + off * sz2 + len * sz2)).toList[i * sz2 + j]? = some v → PRel M w v p := by
        intro i r j p v e1 e2 e3
        rw [getElem?_cut1] at e1
        split at e1
        ·rw [get] at e3
         split at e3
         ·refine g6 (off + i) r j p v e1 e2 ?_
          rw [← e3]; congr 1; rw [Nat.add_mul]; omega
         ·cases e3
        ·cases e1
       refine ⟨(c.extract (base + off * sz2) (base + off * sz2 + len * sz2)).toList, ?_, ⟨by rw [hnl, hcl], hcell⟩⟩
       refine Src.ofSlice w ht _ len cap _ hnl ?_ ?_
       ·intro j u hj
        rw [get] at hj
        split at hj
        ·rw [add_addr, cell_block f3]; exact hj
        ·cases hj
       ·intro u hu
        obtain ⟨k, hk⟩ := List.getElem?_of_mem hu
        have hkl : k < len * sz2 := by have := (List.getElem?_eq_some_iff.1 hk).1; rw [hnl] at this; exact this
        have hi : k / sz2 < len := by rw [Nat.div_lt_iff_lt_mul h0]; exact hkl
        have hil : k / sz2 < (cut1 rows off len).length := by rw [hcl]; exact hi
        have hl : (cut1 rows off len)[k / sz2].length = sz2 := hr _ (List.getElem_mem hil)
        have hj : k % sz2 < (cut1 rows off len)[k / sz2].length := by rw [hl]; exact Nat.mod_lt _ h0
        refine (hcell (k / sz2) (cut1 rows off len)[k / sz2] (k % sz2) ((cut1 rows off len)[k / sz2][k % sz2]) u (List.getElem?_eq_getElem hil) (List.getElem?_eq_getElem hj) ?_).oneCell
        rw [← hk]; congr 1
        have := Nat.div_add_mod k sz2
        rw [Nat.mul_comm] at this; exact this
   ·cases h
  ·cases h
 ·cases h
theorem lk_two (o : List (Nat × AObj)) (n m k : Nat) (x y : AObj) : lk (wrO o [(n, x), (m, y)]) k = if m = k then some y else if n = k then some x else lk o k := by
 simp only [wrO, lk_up]
theorem Post.turn (R : RSt M σ a w) {n m : Nat} (hodd : m % 2 = 1) (hn : (lk σ.o n).isSome) (hm : lk σ.o m = none) {out : Out} {o : AObj} (hw : out.wr = [(n, .dead), (m, o)]) {M' : Mm} {w' : World}
  (hext : Ext M w M' w') (hβ : ∀ k, k ≠ m → M'.β k = M.β k) {v : Value} (hv : VRel M' w' v out.v) (ho : ORel M' w' m o) (hvn : ∀ k ∈ out.v.nms, k = m) (hon : o.nms = [])
  (hoth : ∀ (k : Nat) (b : Nat), k ≠ n → b < w.heap.size → (M.κ b = .own k ∨ M.κ b = .frozen) → M'.κ b = M.κ b ∧ w'.heap[b]? = w.heap[b]?) (hφ : M'.φ = M.φ := by rfl) : Post M σ w out M' v w' := by
 have dom : ∀ k, (lk σ.o k).isSome → (lk (wrO σ.o out.wr) k).isSome := by
  intro k hk
  rw [hw, lk_two]
  split
  ·rfl
  ·split
   ·rfl
   ·exact hk
 have hnm : n ≠ m := isSome_ne hn hm
 refine ⟨hext, hv, ?_, ?_, fun k hk => hβ k (by omega), ?_, ?_⟩
 ·intro k p hk
  rw [hw, lk_two] at hk
  split at hk
  ·rename_i e; subst e; cases hk; exact ho
  ·rename_i e1
   split at hk
   ·cases hk; exact .dead
   ·rename_i e2
    refine (R.ob k p hk).mono hext (hβ k fun e => e1 e.symm) ?_ (fun b hb hc => hoth k b (fun e => e2 e.symm) hb hc) (fun f _ _ _ _ _ _ => by rw [hφ])
    intro q hq
    exact hβ q (isSome_ne (R.wo k p hk q hq) hm)
 ·intro k hk; exact hβ k (isSome_ne hk hm)
 ·intro k hk
  rw [hvn k hk, hw, lk_two, if_pos rfl]; rfl
 ·intro k p hk q hq
  rw [hw, lk_two] at hk
  split at hk
  ·cases hk; rw [hon] at hq; cases hq
  ·split at hk
   ·cases hk; simp [AObj.nms] at hq
   ·exact dom q (R.wo k p hk q hq)
theorem appendA_sound (R : RSt M σ a w) {s x : Operand} {t tx : TypeId} {m : Nat} {rs : List (List PV)} {out : Out}
  (h : appendA P σ.obj (σ.ev s) (σ.ev x) t tx m rs = some out) (hp : All out.ob) (ty : TypeId) :
  ∃ v w', (Builtin.append_ #[t, tx] ty #[a.eval s, a.eval x]).run P w = .ok v w' ∧ ∃ M', Post M σ w out M' v w' := by
 have hs := R.ev s
 unfold appendA at h
 split at h
 ·rename_i e e' he he' hLm hodd
  have ht := elemOfP_sound he
  have ht' := elemOfP_sound he'
  split at h
  ·rename_i n off len sz p sz2 rows2 hse hsrc
   split at h
   ·rename_i sz' rows z0 hL hsz hby hz0
    split at h
    ·rename_i hsz' hsz2 hzl
     have hsz := nbeq_eq hsz
     have hsz' := nbeq_eq hsz'
     have hby : P.bytesOf e ≤ 65536 := Nat.le_of_ble_eq_true hby
     have hsz2 : sz2 = 0 ∨ sz2 = sz := by
      simp only [Bool.or_eq_true] at hsz2
      exact hsz2.imp nbeq_eq nbeq_eq
     subst hsz'
     cases h
     simp only [All_append] at hp
     obtain ⟨hp1, hol, hrs, hbig, hrl, _⟩ := hp
     have hns : (lk σ.o n).isSome := by rw [show lk σ.o n = _ from hL]; rfl
     have h0 : 0 < sz := by
      cases R.ob n _ hL with
      | sl0 => assumption
      | sl => assumption
     have hc0 : P.cellsOf e ≠ 0 := by omega
     obtain ⟨i, hi⟩ := cells_some hc0
     have hisz : i.size = sz := by rw [hsz]; simp [Program.cellsOf, hi]
     have hiby : i.bytes = P.bytesOf e := by simp [Program.bytesOf, hi]
     unfold zeroA at hz0
     simp only [hi, Option.map_eq_some_iff, Option.bind_some] at hz0
     obtain ⟨z, hz, rfl⟩ := hz0
     simp only [Bool.and_eq_true] at hzl
     have hzc : z.cells.size = sz := by
      rw [(CRel.of (avOf_rel (M := M) (w := w) z) hzl.1).size]; exact nbeq_eq hzl.2
     obtain ⟨news, src, hnews⟩ := srcA_sound (P := P) R hsrc hp1 hrl hsz2 h0 ht'
     rw [← hisz] at src
     have hrsl : rs.length = len + rows2.length := by rw [← hrs]; simp; omega
     have hrslen : ∀ r ∈ rs, r.length = sz := by
      intro r hr
      rw [← hrs, List.mem_append] at hr
      rcases hr with hr | hr
      ·cases R.ob n _ hL with
       | sl0 => simp at hr
       | sl _ _ _ b base c T g0 g1 g2 g3 g4 g5 g6 => exact g5 r (List.mem_of_mem_drop hr)
      ·exact hrl r hr
     rw [hse] at hs
     have grow : ∀ (ad : Option Addr) (cap : Nat) (olds : List Value), cap < len + rows2.length → (Builtin.firstCells i.size len (.slice ad len cap)).run P w.drew = .ok olds.toArray w.drew →
       olds.length = len * sz → (∀ (k : Nat) (r : List PV) (j : Nat) (p : PV) (v : Value), (rows.drop off)[k]? = some r → r[j]? = some p → olds[k * sz + j]? = some v → PRel M w v p) →
       ∃ v w', (Builtin.append_ #[t, tx] ty #[.slice ad len cap, a.eval x]).run P w = .ok v w' ∧ ∃ M', Post M σ w ⟨p ++ [off + len = rows.length, rows.drop off ++ rows2 = rs, rs.length ≤ bigLen, ∀ r ∈ rows2, r.length = sz], .hd m 0 rs.length sz, [(n, .dead), (m, .sl false sz rs)]⟩ M' v w' := by
      intro ad cap olds hcap hfirst hol' hcell
      have hfit : Builtin.nextslicecap (len + rows2.length) cap * i.bytes ≤ 281474976710656 := by
       apply growslice_fits hcap
       rw [hiby, ← hrsl]
       unfold bigLen at hbig
       calc rs.length * P.bytesOf e ≤ 1073741824 * 65536 := Nat.mul_le_mul hbig hby
        _ ≤ _ := by decide
      have hrun := run_append_grow_src (P := P) w t tx ty e i z ht hi hz ad len cap olds hfirst (a.eval x) rows2.length news src hcap (by unfold bigLen at hbig; omega) hfit
      refine ⟨_, _, hrun, M.new w.drew m (.own m), ?_⟩
      have hext : Ext M w (M.new w.drew m (.own m)) (w.drew.alloc (.cells ((olds ++ news).toArray ++ Builtin.zeroCells z.cells (grownCap w (len + rows2.length) cap e - (len + rows2.length))) e)) := (Ext.drew M w).trans (Ext.new m _ _)
      refine Post.turn R hodd hns hLm rfl hext (fun k hk => updN_ne _ _ hk) ?_ ?_ (by simp [AV.nms]) rfl ?_
      ·have := VRel.hd (M := M.new w.drew m (.own m)) (w := w.drew.alloc (.cells ((olds ++ news).toArray ++ Builtin.zeroCells z.cells (grownCap w (len + rows2.length) cap e - (len + rows2.length))) e)) m 0 rs.length sz w.heap.size 0 (grownCap w (len + rows2.length) cap e) _ e (0, 0) (updN_self _ _ _) (by rw [hrsl]; exact grownCap_ge _ _ _ _) (new_block w.drew _) ?_
       ·rw [hrsl] at this ⊢; simpa using this
       ·have hge := grownCap_ge w (len + rows2.length) cap e
        simp only [Array.size_append, List.size_toArray, List.length_append, hol', hnews.len, size_zeroCells, hzc]
        rw [Nat.zero_add, Nat.zero_add, ← Nat.add_mul, ← Nat.add_mul]
        exact Nat.mul_le_mul_right _ (by omega)
      ·refine .sl false sz rs w.heap.size 0 _ e h0 (updN_self _ _ _) (updN_self _ _ _) (new_block w.drew _) ?_ hrslen ?_
       ·simp only [Array.size_append, List.size_toArray, List.length_append, hol', hnews.len, hrsl, Nat.add_mul]; omega
       ·intro k r j q v hk hj hv
        rw [Nat.zero_add] at hv
        have hjl : j < sz := by
         have := (List.getElem?_eq_some_iff.1 hj).1
         rw [hrslen r (List.mem_of_getElem? hk)] at this; exact this
        have hdl : (rows.drop off).length = len := by simp; omega
        have hkl : k < len + rows2.length := by rw [← hrsl]; exact (List.getElem?_eq_some_iff.1 hk).1
        rw [← hrs] at hk
        refine PRel.mono hext ?_
        by_cases hkk : k < len
        ·rw [List.getElem?_append_left (by omega)] at hk
         refine hcell k r j q v hk hj ?_
         have : k * sz + j < olds.length := by rw [hol']; exact row_lt hkk hjl
         rw [Array.getElem?_append_left (by simp; omega), List.getElem?_toArray, List.getElem?_append_left this] at hv
         exact hv
        ·rw [List.getElem?_append_right (by omega), hdl] at hk
         refine hnews.cell (k - len) r j q v hk hj ?_
         have hlt : (k - len) * sz + j < news.length := by rw [hnews.len]; exact row_lt (by omega) hjl
         have heq : k * sz + j = olds.length + ((k - len) * sz + j) := by
          have : k = len + (k - len) := by omega
          rw [hol']
          conv => lhs; rw [this, Nat.add_mul]
          omega
         rw [heq, Array.getElem?_append_left (by simp; omega), List.getElem?_toArray, List.getElem?_append_right (by omega)] at hv
         rw [← hv]; congr 1; omega
      ·intro k b _ hb _
       refine ⟨updN_ne _ _ (by show b ≠ w.heap.size; omega), ?_⟩
       exact RowKit.Below.heap_alloc w.drew _ b hb
     generalize a.eval s = y at hs ⊢
     cases hs with
     | hd0 _ _ _ ad =>
      have hdn : rows.drop off = [] := by apply List.eq_nil_of_length_eq_zero; simp; omega
      by_cases hn0 : rows2 = []
      ·have hrn : rs = [] := by rw [← hrs, hdn, hn0]; rfl
       have hnn : news = [] := List.eq_nil_of_length_eq_zero (by rw [hnews.len, hn0]; simp)
       rw [hn0, hnn] at src
       refine ⟨_, _, run_append_nothing (P := P) w t tx ty e i ht hi ad 0 0 (Nat.le_refl _) (a.eval x) src, ⟨M.κ, updN M.β m none, M.φ, M.F0⟩, ?_⟩
       refine Post.turn (M := M) (M' := ⟨M.κ, updN M.β m none, M.φ, M.F0⟩) R hodd hns hLm rfl ⟨rfl, rfl, rfl, Nat.le_refl _, fun _ _ _ => rfl, fun _ _ h => h, fun _ _ h => h, fun _ c _ _ h => ⟨c, h, rfl⟩, fun _ _ _ h => h, fun _ _ _ => rfl, rfl⟩ (fun k hk => updN_ne _ _ hk) ?_ ?_ (fun k hk => by simpa [AV.nms] using hk) rfl (fun _ _ _ _ _ => ⟨rfl, rfl⟩)
       ·rw [hrn]; exact .hd0 m 0 sz ad
       ·rw [hrn]; exact .sl0 false sz h0 (updN_self _ _ _)
      ·exact grow ad 0 [] (by have : rows2.length ≠ 0 := fun e => hn0 (List.eq_nil_of_length_eq_zero e); omega) (by
        cases ad with
        | none => rfl
        | some ad => simp [Builtin.firstCells, loadCells, loadCellsFrom]) (by simp) (by rw [hdn]; simp)
     | hd _ _ _ _ b base cap c T fr f1 f2 f3 f4 =>
      have hrel : M.κ b = .own n ∧ fr = (0, 0) ∧ base + rows.length * sz ≤ c.size ∧ (∀ (i : Nat) (r : List PV) (j : Nat) (p : PV) (x : Value), rows[i]? = some r → r[j]? = some p → c[base + i * sz + j]? = some x → PRel M w x p) := by
       cases R.ob n _ hL with
       | sl0 _ _ _ g1 => rw [f1] at g1; cases g1
       | sl _ _ _ b' base' c' T' g0 g1 g2 g3 g4 g5 g6 =>
        rw [f1] at g1; cases g1
        rw [f3] at g3; cases g3
        exact ⟨g2, rfl, g4, g6⟩
      obtain ⟨hκ, rfl, hsize, hcells⟩ := hrel
      have hin : base + off * sz + len * sz ≤ c.size := by
       have : (off + len) * sz = off * sz + len * sz := Nat.add_mul _ _ _
       rw [← hol] at hsize; omega
      by_cases hroom : len + rows2.length ≤ cap
      ·-- in place
       have hfit : base + off * sz + len * sz + news.length ≤ c.size := by
        rw [hnews.len]
        have h1 : (off + (len + rows2.length)) * sz ≤ (off + cap) * sz := Nat.mul_le_mul_right _ (by omega)
        simp only [Nat.add_mul] at h1 f4 ⊢
        omega
       have hst := run_storeCells_at (P := P) b (base + off * sz + len * sz) T news 0 c w f3 (by simpa using hfit) src.one
       simp only [Nat.add_zero] at hst
       have hrun : (Builtin.append_ #[t, tx] ty #[.slice (some ⟨b, base + off * sz, none⟩) len cap, a.eval x]).run P w =
         .ok (.slice (some ⟨b, base + off * sz, none⟩) (len + rows2.length) cap) (w.setRow b (splice c.toList (base + off * sz + len * sz) news).toArray) := by
        have hcs := src.cells
        rw [hisz] at hcs
        rcases src.kind with ⟨e', hk⟩ | hk <;>
         simp [hcs, Builtin.append_, run_underlying ht, run_underlying hk, sizeOf, typeInfo, hi, src.len, hroom, Addr.add_lit, hisz, hst, splice]
       have hs' : (splice c.toList (base + off * sz + len * sz) news).toArray.size = c.size := by
        rw [List.size_toArray, length_splice]
        ·simp
        ·simpa using hfit
       have hext1 : Ext M w M (w.setRow b (splice c.toList (base + off * sz + len * sz) news).toArray) := Ext.setRow f3 hκ hs'
       have hext : Ext M w ⟨updN M.κ b (.own m), updN M.β m (some (b, base + off * sz)), M.φ, M.F0⟩ (w.setRow b (splice c.toList (base + off * sz + len * sz) news).toArray) := by
        refine ⟨hext1.os, hext1.tape, hext1.output, hext1.size, hext1.keep, ?_, ?_, hext1.shp, hext1.fam, hext1.low, hext1.f0⟩
        ·intro k _ hk
         have : k ≠ b := by rintro rfl; rw [hκ] at hk; cases hk
         simp only; rw [updN_ne _ _ this]; exact hk
        ·intro k _ hk
         have : k ≠ b := by rintro rfl; rw [hκ] at hk; cases hk
         simp only; rw [updN_ne _ _ this]; exact hk
       have hb' := setRow_heap w b c (splice c.toList (base + off * sz + len * sz) news).toArray T (0, 0) f3
       refine ⟨_, _, hrun, ⟨updN M.κ b (.own m), updN M.β m (some (b, base + off * sz)), M.φ, M.F0⟩, ?_⟩
       refine Post.turn R hodd hns hLm rfl hext (fun k hk => updN_ne _ _ hk) ?_ ?_ (by simp [AV.nms]) rfl ?_
       ·have := VRel.hd (M := ⟨updN M.κ b (.own m), updN M.β m (some (b, base + off * sz)), M.φ, M.F0⟩) (w := w.setRow b (splice c.toList (base + off * sz + len * sz) news).toArray) m 0 rs.length sz b (base + off * sz) cap _ T (0, 0) (updN_self _ _ _) (by omega) hb' (by
         rw [hs']
         simp only [Nat.add_mul, Nat.zero_add] at f4 ⊢; omega)
        rw [← hrsl]; simpa using this
       ·refine .sl false sz rs b (base + off * sz) _ T h0 (updN_self _ _ _) (updN_self _ _ _) hb' ?_ hrslen ?_
        ·rw [hs', hrsl, Nat.add_mul]; rw [hnews.len] at hfit; omega
        ·intro k r j q v hk hj hv
         have hjl : j < sz := by
          have := (List.getElem?_eq_some_iff.1 hj).1
          rw [hrslen r (List.mem_of_getElem? hk)] at this; exact this
         have hdl : (rows.drop off).length = len := by simp; omega
         have hkl : k < len + rows2.length := by rw [← hrsl]; exact (List.getElem?_eq_some_iff.1 hk).1
         rw [← hrs] at hk
         refine PRel.mono hext ?_
         rw [List.getElem?_toArray, getElem?_splice _ _ _ (by simpa using hfit)] at hv
         by_cases hkk : k < len
         ·rw [List.getElem?_append_left (by omega), List.getElem?_drop] at hk
          have h1 := row_lt hkk hjl
          rw [if_neg (by omega), Array.getElem?_toList] at hv
          refine hcells (off + k) r j q v hk hj ?_
          rw [← hv]; congr 1; rw [Nat.add_mul]; omega
         ·rw [List.getElem?_append_right (by omega), hdl] at hk
          have hlt : (k - len) * sz + j < rows2.length * sz := row_lt (by omega) hjl
          have heq : k * sz = len * sz + (k - len) * sz := by rw [← Nat.add_mul]; congr 1; omega
          rw [if_pos (by rw [hnews.len]; omega)] at hv
          refine hnews.cell (k - len) r j q v hk hj ?_
          rw [← hv]; congr 1; omega
       ·intro k b' hk hb'' hc
        have : b' ≠ b := by
         rintro rfl
         rw [hκ] at hc
         rcases hc with hc | hc
         ·cases hc; exact hk rfl
         ·cases hc
        exact ⟨updN_ne _ _ this, setRow_other _ _ _ _ this⟩
      ·-- moved
       have hex : (c.extract (base + off * sz) (base + off * sz + len * sz)).toList.length = len * sz := by simp; omega
       refine grow (some ⟨b, base + off * sz, none⟩) cap (c.extract (base + off * sz) (base + off * sz + len * sz)).toList (by omega) ?_ hex ?_
       ·have := run_firstCells_some (P := P) w.drew i.size len ⟨b, base + off * sz, none⟩ len cap (c.extract (base + off * sz) (base + off * sz + len * sz)).toList (by rw [hex, hisz]) (by
         intro j u hj
         rw [Array.getElem?_toList, getElem?_extract' _ _ _ _ hin] at hj
         split at hj
         ·rw [add_addr]
          show w.drew.cell? _ = _
          have : w.drew.heap[b]? = some (.cells c T (0, 0)) := f3
          rw [cell_block this]; exact hj
         ·cases hj)
        exact this
       ·intro k r j q v hk hj hv
        rw [List.getElem?_drop] at hk
        rw [Array.getElem?_toList, getElem?_extract' _ _ _ _ hin] at hv
        split at hv
        ·refine hcells (off + k) r j q v hk hj ?_
         rw [← hv]; congr 1; rw [Nat.add_mul]; omega
        ·cases hv
    ·cases h
   ·cases h
  ·cases h
 ·cases h
end
end Go.Fw
