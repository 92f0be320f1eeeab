/- Cells of which some are told as arrays. -/
import Derived.Test.YtpdjphpjejjkpaaFxD
namespace Go.Fx
section
variable {M : Mm} {w : World}
theorem nz_rel {v : Value} {p : PV} (h : PRel M w v p) : PRel M w v (nz p) := by
 unfold nz
 split
 ·cases h; exact .sl0 none 0
 ·exact h
end
theorem flat_len {α : Type} {sz : Nat} : ∀ {rows : List (List α)}, (∀ r ∈ rows, r.length = sz) → rows.flatten.length = rows.length * sz
 | [], _ => by simp
 | r :: rs, h => by
  rw [List.flatten_cons, List.length_append, h r (.head _), flat_len fun x hx => h x (.tail _ hx), List.length_cons, Nat.add_mul]; omega
theorem flat_split {α : Type} {sz : Nat} {rows : List (List α)} (h : ∀ r ∈ rows, r.length = sz) {i : Nat} {r : List α} (hi : rows[i]? = some r) :
  ∃ pre post, rows.flatten = pre ++ (r ++ post) ∧ pre.length = i * sz ∧ ∀ r', (rows.set i r').flatten = pre ++ (r' ++ post) := by
 induction rows generalizing i with
 | nil => simp at hi
 | cons x xs ih =>
  cases i with
  | zero =>
   simp only [List.getElem?_cons_zero, Option.some.injEq] at hi
   subst hi
   exact ⟨[], xs.flatten, by simp, by simp, by simp⟩
  | succ i =>
   simp only [List.getElem?_cons_succ] at hi
   obtain ⟨pre, post, h1, h2, h3⟩ := ih (fun r hr => h r (.tail _ hr)) hi
   refine ⟨x ++ pre, post, by simp [h1], ?_, fun r' => by simp [h3]⟩
   rw [List.length_append, h x (.head _), h2, Nat.add_mul]; omega
theorem splice_mid {α : Type} (pre r post ps : List α) (rem : Nat) (h : rem + ps.length ≤ r.length) : splice (pre ++ (r ++ post)) (pre.length + rem) ps = pre ++ (splice r rem ps ++ post) := by
 unfold splice
 rw [List.take_length_add_append, Nat.add_assoc, List.drop_length_add_append, List.take_append_of_le_length (by omega), List.drop_append_of_le_length h]
 simp
theorem cut1_mid {α : Type} (pre r post : List α) (rem n : Nat) (h : rem + n ≤ r.length) : cut1 (pre ++ (r ++ post)) (pre.length + rem) n = cut1 r rem n := by
 unfold cut1
 rw [List.drop_length_add_append, List.drop_append_of_le_length (by omega), List.take_append_of_le_length (by simp; omega)]
theorem get_mid {α : Type} (pre r post : List α) (rem : Nat) (h : rem < r.length) : (pre ++ (r ++ post))[pre.length + rem]? = r[rem]? := by
 rw [List.getElem?_append_right (by omega), List.getElem?_append_left (by omega)]; congr 1; omega
theorem SegOk.tail {v : AV} {r : List AV} (h : SegOk (v :: r)) : SegOk r := fun n sz rows hm => h n sz rows (.tail _ hm)
theorem flatC_len : ∀ {cs : List AV}, SegOk cs → (flatC cs).length = segN cs
 | [], _ => rfl
 | v :: r, h => by
  cases hv : isArV v with
  | false =>
   have : segN (v :: r) = 1 + segN r := by cases v <;> first | rfl | simp [isArV] at hv
   rw [flatC_cons hv, this, List.length_cons, flatC_len h.tail]; omega
  | true =>
   cases v <;> simp [isArV] at hv
   rename_i n sz rows
   have := h n sz rows (.head _)
   rw [flatC, segN, List.length_append, List.length_map, flat_len this.2, this.1, flatC_len h.tail]
theorem segAt_ar {n sz : Nat} {rows : List (List PV)} {rem : Nat} : ∀ {cs : List AV} {off : Nat}, SegOk cs → segAt cs off = some (.ar n sz rows, rem) →
  ∃ pre post, flatC cs = pre ++ (rows.flatten.map .pv ++ post) ∧ off = pre.length + rem ∧ rem < n * sz ∧ .ar n sz rows ∈ cs ∧
   ∀ rs : List (List PV), rs.length = n → (∀ r ∈ rs, r.length = sz) → flatC (segPut cs off rs) = pre ++ (rs.flatten.map .pv ++ post) ∧ SegOk (segPut cs off rs)
 | [], _, _, h => by simp [segAt] at h
 | v :: r, off, hs, h => by
  cases hv : isArV v with
  | false =>
   have e : segAt (v :: r) off = match Nat.beq off 0 with
    | true => some (v, 0)
    | false => segAt r (off - 1) := by cases v <;> first | rfl | simp [isArV] at hv
   rw [e] at h
   split at h
   ·cases h; simp [isArV] at hv
   ·rename_i h0
    have h0 : off ≠ 0 := fun e => by subst e; simp at h0
    obtain ⟨pre, post, g1, g2, g3, g4, g5⟩ := segAt_ar hs.tail h
    refine ⟨v :: pre, post, by rw [flatC_cons hv, g1]; rfl, by simp; omega, g3, .tail _ g4, fun rs hl hr => ?_⟩
    obtain ⟨k1, k2⟩ := g5 rs hl hr
    have e2 : segPut (v :: r) off rs = v :: segPut r (off - 1) rs := by cases v <;> first | rfl | simp [isArV] at hv
    rw [e2]
    refine ⟨by rw [flatC_cons hv, k1]; rfl, fun a b c hm => ?_⟩
    cases hm with
    | head => simp [isArV] at hv
    | tail _ hm => exact k2 a b c hm
  | true =>
   cases v <;> simp [isArV] at hv
   rename_i n' sz' rows'
   have hh := hs n' sz' rows' (.head _)
   simp only [segAt] at h
   split at h
   ·rename_i hb
    cases h
    have hb : rem < n * sz := Nat.lt_of_not_le fun e => by rw [Nat.ble_eq_true_of_le e] at hb; cases hb
    refine ⟨[], flatC r, by simp [flatC], by simp, hb, .head _, fun rs hl hr => ?_⟩
    have e2 : segPut (.ar n sz rows :: r) rem rs = .ar n sz rs :: r := by
     simp only [segPut]; split
     ·rfl
     ·rename_i h9; have := Nat.le_of_ble_eq_true h9; omega
    rw [e2]
    refine ⟨by simp [flatC], fun a b c hm => ?_⟩
    cases hm with
    | head => exact ⟨hl, hr⟩
    | tail _ hm => exact hs a b c (.tail _ hm)
   ·rename_i hb
    have hb := Nat.le_of_ble_eq_true hb
    obtain ⟨pre, post, g1, g2, g3, g4, g5⟩ := segAt_ar hs.tail h
    have hl' : rows'.flatten.length = n' * sz' := by rw [flat_len hh.2, hh.1]
    refine ⟨rows'.flatten.map .pv ++ pre, post, by rw [flatC, g1]; simp, by rw [List.length_append, List.length_map, hl']; omega, g3, .tail _ g4, fun rs hl hr => ?_⟩
    obtain ⟨k1, k2⟩ := g5 rs hl hr
    have e2 : segPut (.ar n' sz' rows' :: r) off rs = .ar n' sz' rows' :: segPut r (off - n' * sz') rs := by
     simp only [segPut]; split
     ·rename_i h9; rw [Nat.ble_eq_true_of_le hb] at h9; cases h9
     ·rfl
    rw [e2]
    refine ⟨by rw [flatC, k1]; simp, fun a b c hm => ?_⟩
    cases hm with
    | head => exact hh
    | tail _ hm => exact k2 a b c hm
theorem segAt_one {v : AV} {rem : Nat} (hv' : isArV v = false) : ∀ {cs : List AV} {off : Nat}, SegOk cs → segAt cs off = some (v, rem) → rem = 0 ∧ (flatC cs)[off]? = some v
 | [], _, _, h => by simp [segAt] at h
 | x :: r, off, hs, h => by
  cases hv : isArV x with
  | false =>
   have e : segAt (x :: r) off = match Nat.beq off 0 with
    | true => some (x, 0)
    | false => segAt r (off - 1) := by cases x <;> first | rfl | simp [isArV] at hv
   rw [e] at h
   rw [flatC_cons hv]
   split at h
   ·rename_i h0
    have h0 := nbeq_eq h0
    cases h; subst h0; exact ⟨rfl, rfl⟩
   ·rename_i h0
    have h0 : off ≠ 0 := fun e => by subst e; simp at h0
    obtain ⟨g1, g2⟩ := segAt_one hv' hs.tail h
    refine ⟨g1, ?_⟩
    rw [← g2]
    cases off with
    | zero => exact absurd rfl h0
    | succ k => simp
  | true =>
   cases x <;> simp [isArV] at hv
   rename_i n' sz' rows'
   have hh := hs n' sz' rows' (.head _)
   simp only [segAt] at h
   split at h
   ·cases h; simp [isArV] at hv'
   ·rename_i hb
    have hb := Nat.le_of_ble_eq_true hb
    obtain ⟨g1, g2⟩ := segAt_one hv' hs.tail h
    refine ⟨g1, ?_⟩
    have hl' : (rows'.flatten.map AV.pv).length = n' * sz' := by rw [List.length_map, flat_len hh.2, hh.1]
    rw [flatC, List.getElem?_append_right (by omega), hl', g2]
theorem chunk_ok : ∀ {n sz : Nat} {l : List PV}, l.length = n * sz → (chunk n sz l).flatten = l ∧ (chunk n sz l).length = n ∧ ∀ r ∈ chunk n sz l, r.length = sz
 | 0, sz, l, h => by simp at h; subst h; simp [chunk]
 | n + 1, sz, l, h => by
  rw [Nat.add_mul, Nat.one_mul] at h
  obtain ⟨h1, h2, h3⟩ := chunk_ok (n := n) (sz := sz) (l := l.drop sz) (by simp; omega)
  refine ⟨by simp [chunk, h1], by simp [chunk, h2], fun r hr => ?_⟩
  simp only [chunk, List.mem_cons] at hr
  rcases hr with rfl | hr
  ·simp; omega
  ·exact h3 r hr
theorem splice_nil {α : Type} (l : List α) (off : Nat) : splice l off [] = l := by simp [splice]
structure Nzd (l l' : List AV) : Prop where
 len : l.length = l'.length
 at_ : ∀ (i : Nat) (x : AV), l'[i]? = some x → ∃ y, l[i]? = some y ∧ (x = y ∨ x = nzV y)
theorem Nzd.nil : Nzd [] [] := ⟨rfl, by simp⟩
theorem Nzd.refl (l : List AV) : Nzd l l := ⟨rfl, fun _ x h => ⟨x, h, .inl rfl⟩⟩
theorem Nzd.cons {x : AV} {l l' : List AV} (h : Nzd l l') : Nzd (x :: l) (x :: l') := by
 refine ⟨by simp [h.len], fun i y hy => ?_⟩
 cases i with
 | zero => exact ⟨x, rfl, .inl (by simpa using hy.symm)⟩
 | succ i => simpa using h.at_ i y (by simpa using hy)
theorem Nzd.app {a b l l' : List AV} (k : Nzd a b) (h : Nzd l l') : Nzd (a ++ l) (b ++ l') := by
 refine ⟨by simp [h.len, k.len], fun i y hy => ?_⟩
 by_cases hi : i < b.length
 ·rw [List.getElem?_append_left hi] at hy
  rw [List.getElem?_append_left (by rw [k.len]; exact hi)]
  exact k.at_ i y hy
 ·rw [List.getElem?_append_right (by omega)] at hy
  rw [List.getElem?_append_right (by rw [k.len]; omega), k.len]
  exact h.at_ _ y hy
theorem Nzd.map (l : List AV) : Nzd l (l.map nzV) := by
 refine ⟨by simp, fun i x h => ?_⟩
 simp only [List.getElem?_map, Option.map_eq_some_iff] at h
 obtain ⟨y, h, rfl⟩ := h
 exact ⟨y, h, .inr rfl⟩
theorem nzV_nms (v : AV) : (nzV v).nms = v.nms := by cases v <;> rfl
theorem Nzd.nms {l l' : List AV} (h : Nzd l l') {n : Nat} (hn : n ∈ nmsL l') : n ∈ nmsL l := by
 rw [nmsL_iff] at hn
 obtain ⟨c, h1, h2⟩ := hn
 obtain ⟨i, hi⟩ := List.getElem?_of_mem h1
 obtain ⟨y, hy, e⟩ := h.at_ i c hi
 refine nmsL_mem (List.mem_of_getElem? hy) ?_
 rcases e with rfl | rfl
 ·exact h2
 ·rwa [nzV_nms] at h2
theorem nzV_rel {M : Mm} {w : World} {v : Value} {a : AV} (h : VRel M w v a) : VRel M w v (nzV a) := by
 cases a with
 | pv p => cases h with | pv _ _ h => exact .pv _ _ (nz_rel h)
 | _ => exact h
theorem Nzd.rel {M : Mm} {w : World} {c : Array Value} {l l' : List AV} (h : Nzd l l') (r : CRel M w c l) : CRel M w c l' := by
 refine ⟨by rw [r.size, h.len], r.one, fun i v x e1 e2 => ?_⟩
 obtain ⟨y, hy, e⟩ := h.at_ i x e2
 have := r.cell i v y e1 hy
 rcases e with rfl | rfl
 ·exact this
 ·exact nzV_rel this
theorem Nzd.splice {l ps ps' : List AV} (h : Nzd ps ps') (off : Nat) : Nzd (splice l off ps) (splice l off ps') := by
 unfold Fx.splice
 rw [← h.len]
 exact ((Nzd.refl _).app h).app (Nzd.refl _)
theorem nzS_nzd : ∀ (cs l : List AV), Nzd l (nzS cs l)
 | [], l => by unfold nzS; exact .refl l
 | v :: r, l => by
  cases hv : isArV v with
  | false =>
   cases l with
   | nil =>
    have : nzS (v :: r) [] = [] := by cases v <;> first | rfl | simp [isArV] at hv
    rw [this]; exact .nil
   | cons x l =>
    have : nzS (v :: r) (x :: l) = x :: nzS r l := by cases v <;> first | rfl | simp [isArV] at hv
    rw [this]; exact (nzS_nzd r l).cons
  | true =>
   cases v <;> simp [isArV] at hv
   rename_i n sz rows
   have := (Nzd.map (l.take (n * sz))).app (nzS_nzd r (l.drop (n * sz)))
   rw [List.take_append_drop] at this
   exact this
theorem segSpl_ok : ∀ {cs : List AV} {off : Nat} {ps ds : List AV}, SegOk cs → segSpl cs off ps = some ds →
  ∃ ps', Nzd ps ps' ∧ flatC ds = splice (flatC cs) off ps' ∧ SegOk ds ∧ (ps ≠ [] → off + ps.length ≤ (flatC cs).length)
 | cs, off, [], ds, hs, h => by simp [segSpl] at h; subst h; exact ⟨[], .nil, (splice_nil _ _).symm, hs, by simp⟩
 | [], off, p :: ps, ds, hs, h => by simp [segSpl] at h
 | v :: r, off, p :: ps, ds, hs, h => by
  cases hv : isArV v with
  | false =>
   have e : segSpl (v :: r) off (p :: ps) = match Nat.beq off 0, isArV p with
    | true, false => (segSpl r 0 ps).map (p :: ·)
    | true, true => none
    | false, _ => (segSpl r (off - 1) (p :: ps)).map (v :: ·) := by cases v <;> first | rfl | simp [isArV] at hv
   rw [e] at h
   split at h
   ·rename_i h0 hp
    have h0 := nbeq_eq h0
    subst h0
    simp only [Option.map_eq_some_iff] at h
    obtain ⟨d, h, rfl⟩ := h
    obtain ⟨ps', hz, g1, g2, g3⟩ := segSpl_ok hs.tail h
    refine ⟨p :: ps', hz.cons, by rw [flatC_cons hp, flatC_cons hv, g1]; simp [splice, Nat.add_comm], fun a b c hm => ?_, fun _ => ?_⟩
    ·cases hm with
     | head => simp [isArV] at hp
     | tail _ hm => exact g2 a b c hm
    ·rw [flatC_cons hv]
     cases ps with
     | nil => simp
     | cons q qs => have := g3 (by simp); simp at this ⊢; omega
   ·cases h
   ·rename_i h0
    have h0 : off ≠ 0 := fun e => by subst e; simp at h0
    simp only [Option.map_eq_some_iff] at h
    obtain ⟨d, h, rfl⟩ := h
    obtain ⟨ps', hz, g1, g2, g3⟩ := segSpl_ok hs.tail h
    refine ⟨ps', hz, ?_, fun a b c hm => ?_, fun _ => ?_⟩
    ·rw [flatC_cons hv, flatC_cons hv, g1]
     have := splice_mid [v] (flatC r) [] ps' (off - 1) (by rw [← hz.len]; exact g3 (by simp))
     simp only [List.append_nil, List.length_singleton] at this
     rw [show 1 + (off - 1) = off by omega] at this
     exact this.symm
    ·cases hm with
     | head => simp [isArV] at hv
     | tail _ hm => exact g2 a b c hm
    ·have := g3 (by simp)
     rw [flatC_cons hv]
     simp only [List.length_cons] at this ⊢
     omega
  | true =>
   cases v <;> simp [isArV] at hv
   rename_i n sz rows
   have hh := hs n sz rows (.head _)
   have hl' : rows.flatten.length = n * sz := by rw [flat_len hh.2, hh.1]
   simp only [segSpl] at h
   split at h
   ·rename_i h0
    have h0 := nbeq_eq h0
    subst h0
    split at h
    ·rename_i qs h1 h2 h3
     have h1 := Nat.le_of_ble_eq_true h1
     simp only [Option.map_eq_some_iff] at h
     obtain ⟨d, h, rfl⟩ := h
     obtain ⟨ps', hz, g1, g2, g3⟩ := segSpl_ok hs.tail h
     have hq := toPVs_map h2
     have hql : qs.length = n * sz := by
      have := congrArg List.length hq
      rw [List.length_take, List.length_map] at this; omega
     obtain ⟨c1, c2, c3⟩ := chunk_ok (l := qs.map nz) (by rw [List.length_map]; exact hql)
     have hps : p :: ps = qs.map .pv ++ (p :: ps).drop (n * sz) := by rw [← hq, List.take_append_drop]
     have hdl : (p :: ps).length = n * sz + ((p :: ps).drop (n * sz)).length := by rw [List.length_drop]; omega
     generalize (p :: ps).drop (n * sz) = rest at *
     refine ⟨(qs.map nz).map .pv ++ ps', ?_, ?_, fun a b c hm => ?_, fun _ => ?_⟩
     ·rw [hps]
      refine Nzd.app ?_ hz
      have := Nzd.map (qs.map AV.pv)
      simpa [List.map_map, Function.comp_def, nzV] using this
     ·rw [flatC, flatC, c1, g1]
      simp only [splice, List.take_zero, List.nil_append, Nat.zero_add, List.length_append, List.length_map, hql, List.append_assoc]
      congr 2
      rw [show n * sz + ps'.length = (rows.flatten.map AV.pv).length + ps'.length by rw [List.length_map, hl'], List.drop_length_add_append]
     ·cases hm with
      | head => exact ⟨c2, c3⟩
      | tail _ hm => exact g2 a b c hm
     ·rw [flatC, List.length_append, List.length_map, hl', hdl]
      cases rest with
      | nil => simp
      | cons q qs' => have := g3 (by simp); omega
    ·cases h
   ·rename_i h0 hb
    have hb := Nat.le_of_ble_eq_true hb
    simp only [Option.map_eq_some_iff] at h
    obtain ⟨d, h, rfl⟩ := h
    obtain ⟨ps', hz, g1, g2, g3⟩ := segSpl_ok hs.tail h
    refine ⟨ps', hz, ?_, fun a b c hm => ?_, fun _ => ?_⟩
    ·rw [flatC, flatC, g1]
     have := splice_mid (rows.flatten.map AV.pv) (flatC r) [] ps' (off - n * sz) (by rw [← hz.len]; exact g3 (by simp))
     simp only [List.append_nil, List.length_map, hl'] at this
     rw [show n * sz + (off - n * sz) = off by omega] at this
     exact this.symm
    ·cases hm with
     | head => exact hh
     | tail _ hm => exact g2 a b c hm
    ·have := g3 (by simp)
     rw [flatC, List.length_append, List.length_map, hl']; omega
   ·cases h
termination_by cs off ps => (cs.length, ps.length)
end Go.Fx
