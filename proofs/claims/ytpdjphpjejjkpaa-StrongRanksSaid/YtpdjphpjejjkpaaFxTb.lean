/- Steps that the code does not make: variables get slices of their own, these are taken out and put back, and frozen at last. -/
import Derived.Test.YtpdjphpjejjkpaaFxT
namespace Go.Fx
abbrev Gst := St → Option (List Obl × St)
def GsOk (g : Gst) : Prop := ∀ (P : Program) (fid : Fid) (k : List Item) (r : AV) (outs : List AObj) (σ : St) (l : List Obl) (σ' : St), g σ = some (l, σ') → All l → WK P fid k σ' r outs → WK P fid k σ r outs
def Gst.seq (g h : Gst) : Gst := fun σ => match g σ with
 | some (l, σ1) => match h σ1 with
  | some (l', σ2) => some (l ++ l', σ2)
  | none => none
 | none => none
theorem GsOk.seq {g h : Gst} (hg : GsOk g) (hh : GsOk h) : GsOk (g.seq h) := by
 intro P fid k r outs σ l σ' e ha hk
 unfold Gst.seq at e
 split at e
 ·rename_i l1 σ1 e1
  split at e
  ·rename_i l2 σ2 e2
   cases e
   rw [All_append] at ha
   exact hg P fid k r outs σ _ _ e1 ha.1 (hh P fid k r outs _ _ _ e2 ha.2 hk)
  ·cases e
 ·cases e
def gOwn (f : Nat) : Gst := fun σ => match lk σ.o f with
 | some (.svar cs) => some ([], { σ with o := up σ.o f (.own cs [] [] []) })
 | _ => none
def ascB (gs : List (Nat × Nat × Nat)) (off base : Nat) : Bool := gs.all fun s => Nat.ble (s.1 + s.2.2) off && Nat.ble (s.2.1 + s.2.2) base
def gBorn (f off base : Nat) : Gst := fun σ => match lk σ.o f with
 | some (.own cs gs mem []) => match segAt cs off, ascB gs off base with
  | some (.ar n 1 rows, 0), true => some ([.e rows (List.replicate n [.nilsl]), .e mem.length base], { σ with o := up σ.o f (.own (segPut cs off (List.replicate n [.ow 0])) ((off, base, n) :: gs) (mem ++ List.replicate n []) []) })
  | _, _ => none
 | _ => none
def gOpen (f m off ri : Nat) (rows : List (List PV)) : Gst := fun σ => match lk σ.o f, lk σ.o m, m % 2 with
 | some (.own cs gs mem os), none, 1 => match fseg gs off, segAt cs off with
  | some (base, n), some (.ar n' 1 _, 0) => match Nat.beq n n' with
   | true => some ([.p (ri < n), .p (mem[base + ri]? = some rows), .p (base + ri ∉ os.map Prod.fst)], { σ with o := up (up σ.o f (.own cs gs mem ((base + ri, m) :: os))) m (.sl false 1 rows) })
   | false => none
  | _, _ => none
 | _, _, _ => none
def gClose (f : Nat) (mem' : List (List (List PV))) : Gst := fun σ => match lk σ.o f with
 | some (.own cs gs mem ((i, m) :: os)) => match lk σ.o m, allNat m (os.map Prod.snd) && !(Nat.beq m f) with
  | some (.sl false 1 rows), true => some ([.p (rows ≠ []), .p (mem.set i rows = mem')], { σ with o := up (up σ.o f (.own cs gs mem' os)) m .dead })
  | _, _ => none
 | _ => none
def Seg (mem : List (List (List PV))) (base n : Nat) (rws : List (List PV)) : Prop := rws.length = n ∧ ∀ r, r < n → ∃ rows, mem[base + r]? = some rows ∧ rws[r]? = some [.sl rows]
def disB (gs : List (Nat × Nat × Nat)) (off n : Nat) : Bool := gs.all fun s => Nat.ble (s.1 + s.2.2) off || Nat.ble (off + n) s.1
def gFrz (f : Nat) (rws : List (List PV)) : Gst := fun σ => match lk σ.o f with
 | some (.own cs ((off, base, n) :: gs) mem []) => match segAt cs off with
  | some (.ar n' 1 _, 0) => match Nat.beq n n' && disB gs off n with
   | true => some ([.p (Seg mem base n rws)], { σ with o := up σ.o f (.own (segPut cs off rws) gs mem []) })
   | false => none
  | _ => none
 | _ => none
def gVar (f : Nat) : Gst := fun σ => match lk σ.o f with
 | some (.own cs _ _ _) => some ([], { σ with o := up σ.o f (.svar cs) })
 | _ => none
def gMv (f n m : Nat) : Gst := fun σ => match lk σ.o f, lk σ.o n, lk σ.o m, m % 2 with
 | some (.var [.hw n' sz]), some (.sl false sz' rows), none, 1 => match Nat.beq n n' && Nat.beq sz sz' && !(Nat.beq f n) with
  | true => some ([], { σ with o := up (up (up σ.o f (.var [.hw m sz])) n .dead) m (.sl false sz rows) })
  | false => none
 | _, _, _, _ => none
def nilVar : AObj → Bool
 | .var [.pv .nilsl] => true
 | .varp [.nilsl] => true
 | _ => false
def gNil (f m sz : Nat) : Gst := fun σ => match lk σ.o f, lk σ.o m, m % 2, Nat.beq sz 0 with
 | some o, none, 1, false => match nilVar o with
  | true => some ([], { σ with o := up (up σ.o m (.sl false sz [])) f (.var [.hw m sz]) })
  | false => none
 | _, _, _, _ => none
section
variable {P : Program} {M : Mm} {w : World} {σ : St} {a : Act}
theorem nilVar_rel {n : Nat} {o : AObj} (ho : nilVar o = true) (h : ORel M w n o) : ∃ b c T, (M.β n).2 = some (b, 0) ∧ M.κ b = .own n ∧ w.heap[b]? = some (.cells c T (0, 0)) ∧ c.size = 1 ∧ ∀ (i : Nat) (x : Value), c[i]? = some x → x = .slice none 0 0 := by
 have idx : ∀ {c : Array Value} {i : Nat} {x : Value}, c.size = 1 → c[i]? = some x → i = 0 := by
  intro c i x hc hi
  have := (Array.getElem?_eq_some_iff.1 hi).1
  omega
 unfold nilVar at ho
 split at ho
 ·cases h with | var _ b c T e1 e2 e3 e4 e5 e6 =>
  refine ⟨b, c, T, e1, e2, e3, by simpa using e4, fun i x hx => ?_⟩
  have := idx (by simpa using e4) hx; subst this
  exact rel_nilsl (e6 0 x _ hx rfl)
 ·cases h with | varp _ b c T e1 e2 e3 e4 e5 =>
  refine ⟨b, c, T, e1, e2, e3, by simpa using e4, fun i x hx => ?_⟩
  have := idx (by simpa using e4) hx; subst this
  exact rel_nilsl (.pv _ _ (e5 0 x _ hx rfl))
 ·cases ho
theorem RSt.retell1 (R : RSt M σ a w) {f : Nat} {o o' : AObj} (hf : lk σ.o f = some o) (hO : ORel M w f o → ORel M w f o') (hn : ∀ k ∈ o'.nms, k ∈ o.nms) : RSt M { σ with o := up σ.o f o' } a w := by
 have dom : ∀ k, (lk σ.o k).isSome → (lk (up σ.o f o') k).isSome := by
  intro k hk; rw [lk_up]; split
  ·rfl
  ·exact hk
 refine ⟨R.sz, R.df, R.tm, ?_, fun t v hv k hk => dom k (R.wt t v hv k hk), ?_⟩
 ·intro m o2 hm
  rw [lk_up] at hm
  split at hm
  ·rename_i e; subst e; cases hm; exact hO (R.ob f o hf)
  ·exact R.ob m o2 hm
 ·intro m o2 hm k hk
  rw [lk_up] at hm
  split at hm
  ·cases hm; exact dom k (R.wo f o hf k (hn k hk))
  ·exact dom k (R.wo m o2 hm k hk)
theorem gOwn_ok (f : Nat) : GsOk (gOwn f) := by
 intro P fid k r outs σ l σ' e _ hk M a w R b cs hb
 unfold gOwn at e
 split at e
 ·rename_i cs0 hf
  cases e
  refine hk M a w (R.retell1 hf (fun h => ?_) fun q hq => by simpa [AObj.nms] using hq) b cs hb
  have h0 := h
  cases h with | svar _ hv hS =>
  cases hv with | var _ b2 c T g1 g2 g3 g4 g5 g6 =>
  have no : ∀ k i, ¬ TokAt [] k i := by rintro k i ⟨_, _, _, _, h, _⟩; cases h
  exact .own cs0 [] [] [] b2 c T h0 g1 g2 g3 (fun k _ i h => (no k i h).elim) (fun k i _ h => (no k i h).elim) (by simp) (fun k i _ h => (no k i h).elim) (fun k _ i _ _ _ _ _ _ _ _ h => (no k i h).elim)
 ·cases e
theorem gVar_ok (f : Nat) : GsOk (gVar f) := by
 intro P fid k r outs σ l σ' e _ hk M a w R b cs hb
 unfold gVar at e
 split at e
 ·rename_i cs0 _ _ _ hf
  cases e
  refine hk M a w (R.retell1 hf (fun h => ?_) fun q hq => by simp only [AObj.nms, List.mem_append] at hq ⊢; exact .inl hq) b cs hb
  cases h with | own _ _ _ _ _ _ _ f0 => exact f0
 ·cases e
theorem ascB_ok {gs : List (Nat × Nat × Nat)} {off base : Nat} (h : ascB gs off base = true) {k i : Nat} (t : TokAt gs k i) : k < off ∧ i < base := by
 obtain ⟨o, b, n, r, h1, h2, rfl, rfl⟩ := t
 unfold ascB at h
 rw [List.all_eq_true] at h
 have := h _ h1
 simp only [Bool.and_eq_true] at this
 have h3 := Nat.le_of_ble_eq_true this.1
 have h4 := Nat.le_of_ble_eq_true this.2
 omega
theorem TokAt.cons {gs : List (Nat × Nat × Nat)} {off base n k i : Nat} (t : TokAt ((off, base, n) :: gs) k i) : (∃ r, r < n ∧ k = off + r ∧ i = base + r) ∨ TokAt gs k i := by
 obtain ⟨o, b, n', r, h1, h2, h3, h4⟩ := t
 rcases List.mem_cons.1 h1 with e | h1
 ·cases e; exact .inl ⟨r, h2, h3, h4⟩
 ·exact .inr ⟨o, b, n', r, h1, h2, h3, h4⟩
theorem gBorn_ok (f off base : Nat) : GsOk (gBorn f off base) := by
 intro P fid k r outs σ l σ' e ha hk M a w R b cs hb
 unfold gBorn at e
 split at e
 ·rename_i cs0 gs mem hf
  split at e
  ·rename_i n rows hseg hasc
   cases e
   obtain ⟨hrows, hlen, _⟩ := ha
   refine hk M a w (R.retell1 hf (fun h => ?_) fun q hq => ?_) b cs hb
   ·cases h with | own _ _ _ _ b2 c T f0 f1 f2 f3 f4 f4' f5 f6 f7 =>
    cases f0 with | svar _ hv hS =>
    cases hv with | var _ b3 c3 T3 g1 g2 g3 g4 g5 g6 =>
    rw [f1] at g1; cases g1
    rw [f3] at g3; cases g3
    have hseg0 := hseg
    obtain ⟨pre, post, q1, q2, q3, q4, q5⟩ := segAt_ar hS hseg
    have hr := hS _ _ _ q4
    obtain ⟨k1, k2⟩ := q5 (List.replicate n [.ow 0]) (by simp) (fun x hx => by rw [(List.mem_replicate.1 hx).2]; rfl)
    have hnil : ∀ r x, r < n → c[off + r]? = some x → x = .slice none 0 0 := by
     intro r x hrn hx
     have := g6 _ x (.pv .nilsl) hx (seg_get hS hseg0 (by rw [hrows, List.getElem?_replicate, if_pos hrn]))
     cases this with | pv _ _ hp => cases hp; rfl
    have hfl : ∀ (p : PV), (List.replicate n [p]).flatten = List.replicate n p := fun p => by
     induction n with
     | zero => rfl
     | succ n ih => simp [List.replicate_succ]
    have hflat : flatC (segPut cs0 off (List.replicate n [.ow 0])) = pre ++ ((List.replicate n (PV.ow 0)).map .pv ++ post) := by rw [k1, hfl]
    have hold : flatC cs0 = pre ++ ((List.replicate n PV.nilsl).map .pv ++ post) := by rw [q1, hrows, hfl]
    refine .own _ _ _ [] b2 c T (.svar _ (.var _ b2 c T f1 f2 f3 ?_ g5 ?_) k2) f1 f2 f3 ?_ ?_ (by simp) ?_ ?_
    ·rw [g4, hold, hflat]; simp
    ·intro i x v hx hv
     rw [hflat] at hv
     by_cases h1 : i < pre.length
     ·rw [List.getElem?_append_left h1] at hv
      exact g6 i x v hx (by rw [hold, List.getElem?_append_left h1]; exact hv)
     ·rw [List.getElem?_append_right (by omega)] at hv
      by_cases h2 : i - pre.length < n
      ·rw [List.getElem?_append_left (by simpa using h2)] at hv
       simp [h2] at hv
       subst hv
       have := hnil (i - pre.length) x h2 (by rw [← hx]; congr 1; omega)
       subst this
       exact .pv _ _ (.ow _ _ _ _)
      ·rw [List.getElem?_append_right (by simp; omega)] at hv
       refine g6 i x v hx ?_
       rw [hold, List.getElem?_append_right (by omega), List.getElem?_append_right (by simp; omega)]
       simpa using hv
    ·intro k k' i t t'
     rcases t.cons with ⟨r, h1, h2, h3⟩ | t
     ·rcases t'.cons with ⟨r', h1', h2', h3'⟩ | t'
      ·omega
      ·have := ascB_ok hasc t'; omega
     ·rcases t'.cons with ⟨r', h1', h2', h3'⟩ | t'
      ·have := ascB_ok hasc t; omega
      ·exact f4 k k' i t t'
    ·intro k i i' t t'
     rcases t.cons with ⟨r, h1, h2, h3⟩ | t
     ·rcases t'.cons with ⟨r', h1', h2', h3'⟩ | t'
      ·omega
      ·have := ascB_ok hasc t'; omega
     ·rcases t'.cons with ⟨r', h1', h2', h3'⟩ | t'
      ·have := ascB_ok hasc t; omega
      ·exact f4' k i i' t t'
    ·intro k i x t hx
     refine ⟨fun m hm => (by cases hm), fun _ rows' hr' => ?_⟩
     rcases t.cons with ⟨r, h1, h2, h3⟩ | t
     ·left
      subst h2; subst h3
      rw [← hlen, List.getElem?_append_right (by omega), List.getElem?_replicate] at hr'
      split at hr'
      ·cases hr'; exact ⟨rfl, hnil r x h1 hx⟩
      ·cases hr'
     ·have := ascB_ok hasc t
      rw [List.getElem?_append_left (by omega)] at hr'
      exact (f6 k i x t hx).2 (by simp) rows' hr'
    ·intro k k' i i' a1 a2 l1 l2 p1 p2 hkk t t' _ _ n1 n2 v1 v2
     have none0 : ∀ k i, (∃ r, r < n ∧ k = off + r ∧ i = base + r) → ¬ ∃ r, (mem ++ List.replicate n [])[i]? = some r ∧ r ≠ [] := by
      rintro k i ⟨r, h1, h2, rfl⟩ ⟨r', h3, h4⟩
      rw [← hlen, List.getElem?_append_right (by omega), List.getElem?_replicate] at h3
      split at h3
      ·cases h3; exact h4 rfl
      ·cases h3
     rcases t.cons with t | t
     ·exact (none0 k i t n1).elim
     ·rcases t'.cons with t' | t'
      ·exact (none0 k' i' t' n2).elim
      ·have := ascB_ok hasc t
       have := ascB_ok hasc t'
       rw [List.getElem?_append_left (by omega)] at n1 n2
       exact f7 k k' i i' a1 a2 l1 l2 p1 p2 hkk t t' (by simp) (by simp) n1 n2 v1 v2
   ·have h0 := R.ob f _ hf
    cases h0 with | own _ _ _ _ b2 c T f0 =>
    cases f0 with | svar _ hv hS =>
    obtain ⟨pre, post, q1, q2, q3, q4, q5⟩ := segAt_ar hS hseg
    obtain ⟨k1, k2⟩ := q5 (List.replicate n [.ow 0]) (by simp) (fun x hx => by rw [(List.mem_replicate.1 hx).2]; rfl)
    simp only [AObj.nms, List.map_nil, List.append_nil] at hq ⊢
    rw [← flatC_nms, k1] at hq
    rw [← flatC_nms, q1]
    simp only [nmsL_append, nmsL_pvs] at hq ⊢
    simpa using hq
  ·cases e
 ·cases e
theorem gOpen_ok (f m off ri : Nat) (rows : List (List PV)) : GsOk (gOpen f m off ri rows) := by
 intro P fid k r outs σ l σ' e ha hk M a w R b cs hb
 unfold gOpen at e
 split at e
 case h_2 => cases e
 rename_i cs0 gs mem os hf hm hodd
 split at e
 case h_2 => cases e
 rename_i base n n' rws hfs hseg
 split at e
 case h_2 => cases e
 rename_i hnn
 have hnn := nbeq_eq hnn
 subst hnn
 cases e
 obtain ⟨hri, hmem, hnew, _⟩ := ha
 have hfm : f ≠ m := by rintro rfl; rw [hf] at hm; cases hm
 have h0 := R.ob f _ hf
 cases h0 with | own _ _ _ _ b2 c T f0 f1 f2 f3 f4 f4' f5 f6 f7 =>
 have f0' := f0
 cases f0' with | svar _ hv hS =>
 cases hv with | var _ b3 c3 T3 g1 g2 g3 g4 g5 g6 =>
 rw [f1] at g1; cases g1
 rw [f3] at g3; cases g3
 have ht : TokAt gs (off + ri) (base + ri) := ⟨off, base, n, ri, fseg_mem hfs, hri, rfl, rfl⟩
 have hlt : off + ri < c.size := by rw [g4]; exact seg_lt hS hseg hri
 have hx : c[off + ri]? = some c[off + ri] := by simp [hlt]
 have hown := (f6 _ _ _ ht hx).2 hnew rows hmem
 have key : ∀ (M₁ : Mm) (E : Ext M w M₁ w), M₁.φ = M.φ → (∀ q, q ≠ m → M₁.β q = M.β q) → (∀ x, M.κ x = .own f → (∀ b' base cap, c[off + ri]? = some (.slice (some ⟨b', base, none⟩) rows.length cap) → rows ≠ [] → x ≠ b') → M₁.κ x = .own f) →
   (∀ x q, q ≠ f → M.κ x = .own q → M₁.κ x = .own q) → VRel M₁ w c[off + ri] (.hw m 1) → ORel M₁ w m (.sl false 1 rows) →
   RSt M₁ { σ with o := up (up σ.o f (.own cs0 gs mem ((base + ri, m) :: os))) m (.sl false 1 rows) } a w := by
  intro M₁ E hφ hβ hκf hκo hval hobj
  have dom : ∀ q, (lk σ.o q).isSome → (lk (up (up σ.o f (.own cs0 gs mem ((base + ri, m) :: os))) m (.sl false 1 rows)) q).isSome := by
   intro q hq; rw [lk_up]; split
   ·rfl
   ·rw [lk_up]; split
    ·rfl
    ·exact hq
  have hne : ∀ q, (lk σ.o q).isSome → q ≠ m := fun q hq => isSome_ne hq hm
  have hb2m : ∀ b' base cap, c[off + ri]? = some (.slice (some ⟨b', base, none⟩) rows.length cap) → rows ≠ [] → b2 ≠ b' := by
   intro b' bs cap hc hr0
   rcases hown with ⟨h1, _⟩ | ⟨b4, bs4, cap4, c4, T4, h1, h2, h3, h4, h5, _⟩
   ·exact absurd h1 hr0
   ·rw [hx, h2] at hc
    simp only [Option.some.injEq, Value.slice.injEq, Addr.mk.injEq] at hc
    rw [← hc.1.1]; exact h5.symm
  refine ⟨R.sz, R.df, fun t v hv => (R.tm t v hv).mono E fun q hq => hβ q (hne q (R.wt t v hv q hq)), ?_, fun t v hv q hq => dom q (R.wt t v hv q hq), ?_⟩
  ·intro q o hq
   rw [lk_up] at hq
   split at hq
   ·rename_i e; subst e; cases hq; exact hobj
   ·rw [lk_up] at hq
    split at hq
    ·rename_i e; subst e; cases hq
     have k1 := hκf b2 f2 hb2m
     refine .own cs0 gs mem _ b2 c T (.svar cs0 (.var _ b2 c T (by rw [hβ f hfm]; exact f1) k1 f3 g4 g5 ?_) hS) (by rw [hβ f hfm]; exact f1) k1 f3 f4 f4' ?_ ?_ ?_
     ·intro i x v h1 h2
      exact (g6 i x v h1 h2).mono E fun q hq => hβ q (hne q (R.wo f _ hf q (by simp only [AObj.nms, List.mem_append]; exact .inl (flatC_nms.1 (nmsL_mem (List.mem_of_getElem? h2) hq)))))
     ·simp only [List.map_cons, List.nodup_cons]; exact ⟨hnew, f5⟩
     ·intro k2 i2 x t2 hx2
      refine ⟨fun m2 hm2 => ?_, fun hi rows2 hr2 => ?_⟩
      ·rcases List.mem_cons.1 hm2 with e | hm2
       ·cases e
        have := f4 _ _ _ t2 ht
        subst this
        rw [hx] at hx2; cases hx2
        exact hval
       ·exact ((f6 k2 i2 x t2 hx2).1 m2 hm2).mono E fun q hq => by
         simp only [AV.nms, List.mem_singleton] at hq
         subst hq
         exact hβ q (hne q (R.wo f _ hf q (by simp only [AObj.nms, List.mem_append]; exact .inr (List.mem_map.2 ⟨_, hm2, rfl⟩))))
      ·simp only [List.map_cons, List.mem_cons, not_or] at hi
       rcases (f6 k2 i2 x t2 hx2).2 hi.2 rows2 hr2 with h | ⟨b4, bs4, cap4, c4, T4, h1, h2, h3, h4, h5, h6, h7, h8, h9⟩
       ·exact .inl h
       ·refine .inr ⟨b4, bs4, cap4, c4, T4, h1, h2, h3, hκf b4 h4 (fun b' bs cap hc hr0 => ?_), h5, h6, h7, h8, fun i r j p v e1 e2 e3 => (h9 i r j p v e1 e2 e3).mono E⟩
        have hk : k2 ≠ off + ri := by rintro rfl; exact hi.1 (f4' _ _ _ t2 ht)
        have := f7 k2 (off + ri) i2 (base + ri) _ _ _ _ _ _ hk t2 ht hi.2 hnew ⟨rows2, hr2, h1⟩ ⟨rows, hmem, hr0⟩ (by rw [hx2, h2]) hc
        exact this
     ·intro k2 k3 i2 i3 a1 a2 l1 l2 p1 p2 hkk t2 t3 n1 n2
      simp only [List.map_cons, List.mem_cons, not_or] at n1 n2
      exact f7 k2 k3 i2 i3 a1 a2 l1 l2 p1 p2 hkk t2 t3 n1.2 n2.2
    ·rename_i hqm hqf
     refine (R.ob q o hq).mono E (hβ q (Ne.symm hqm)) (fun p hp => hβ p (hne p (R.wo q o hq p hp))) (fun x _ hx => ⟨?_, rfl⟩) (fun _ _ _ _ _ _ _ => by rw [hφ])
     rcases hx with hx | hx
     ·rw [hx]; exact hκo x q (Ne.symm hqf) hx
     ·rw [hx]; exact E.fro x (by assumption) hx
  ·intro q o hq p hp
   rw [lk_up] at hq
   split at hq
   ·cases hq; simp [AObj.nms] at hp
   ·rw [lk_up] at hq
    split at hq
    ·cases hq
     simp only [AObj.nms, List.map_cons, List.mem_append, List.mem_cons] at hp
     rcases hp with hp | rfl | hp
     ·exact dom p (R.wo f _ hf p (by simp only [AObj.nms, List.mem_append]; exact .inl hp))
     ·rw [lk_up, if_pos rfl]; rfl
     ·exact dom p (R.wo f _ hf p (by simp only [AObj.nms, List.mem_append]; exact .inr hp))
    ·exact dom p (R.wo q o hq p hp)
 have fin : ∀ M₁, Ext M w M₁ w → (∀ q, q ≠ m → M₁.β q = M.β q) → RSt M₁ { σ with o := up (up σ.o f (.own cs0 gs mem ((base + ri, m) :: os))) m (.sl false 1 rows) } a w → ∃ v M' w', Ends P fid (lone (b.at2 a k) cs w) cs v w' ∧ Go2 fid.ni (XB b) M w M' w' ∧ VRel M' w' v r ∧ (∀ (k : Nat) (o : AObj), outs[k]? = some o → ORel M' w' (2 * k) o) ∧ (∀ n ∈ r.nms, evenBelow outs.length n) ∧ (∀ o ∈ outs, ∀ n ∈ o.nms, evenBelow outs.length n) := fun M₁ E hβ R₁ => by
  have g : Go1 M w M₁ w := ⟨E, fun q hq => hβ q (by rintro rfl; omega)⟩
  obtain ⟨v, M', w', h1, h4, h5⟩ := hk M₁ a w R₁ b cs (hb.mono g)
  exact ⟨v, M', w', h1, g.trans2 h4, h5⟩
 rcases hown with ⟨h1, h2⟩ | ⟨b4, bs4, cap4, c4, T4, h1, h2, h3, h4, h5, h6, h7, h8, h9⟩
 ·let M₁ : Mm := ⟨M.κ, updN M.β m (0, none), M.φ, M.F0⟩
  have E : Ext M w M₁ w := ⟨rfl, rfl, rfl, Nat.le_refl _, fun _ _ _ => rfl, fun _ _ h => h, fun _ _ h => h, fun _ c _ _ h => ⟨c, h, rfl⟩, fun _ _ _ h => h, fun _ _ _ => rfl, rfl⟩
  have hβ : ∀ q, q ≠ m → M₁.β q = M.β q := fun q hq => updN_ne _ _ hq
  have hβm : M₁.β m = (0, none) := updN_self _ _ _
  refine fin M₁ E hβ (key M₁ E rfl hβ (fun x hx _ => hx) (fun x q _ hx => hx) ?_ ?_)
  ·rw [h2]
   refine .hw _ _ _ ?_
   rw [hβm]; exact .hd0 _ _ _ _
  ·subst h1
   exact .sl0 false 1 (by decide) (by rw [hβm]) (by rw [hβm])
 ·let M₁ : Mm := ⟨updN M.κ b4 (.own m), updN M.β m (rows.length, some (b4, bs4)), M.φ, M.F0⟩
  have hκ4 : ∀ x, x ≠ b4 → M₁.κ x = M.κ x := fun x hx => updN_ne _ _ hx
  have E : Ext M w M₁ w := by
   refine ⟨rfl, rfl, rfl, Nat.le_refl _, fun _ _ _ => rfl, fun x _ h => (hκ4 x ?_).trans h, fun x _ h => (hκ4 x ?_).trans h, fun _ c _ _ h => ⟨c, h, rfl⟩, fun _ _ _ h => h, fun _ _ _ => rfl, rfl⟩
   ·rintro rfl; rw [h4] at h; cases h
   ·rintro rfl; rw [h4] at h; cases h
  have hβ : ∀ q, q ≠ m → M₁.β q = M.β q := fun q hq => updN_ne _ _ hq
  have hβm : M₁.β m = (rows.length, some (b4, bs4)) := updN_self _ _ _
  refine fin M₁ E hβ (key M₁ E rfl hβ (fun x hx' hne => ?_) (fun x q hq hx' => ?_) ?_ ?_)
  ·exact (hκ4 x (hne b4 bs4 cap4 (by rw [hx, h2]) h1)).trans hx'
  ·exact (hκ4 x (by rintro rfl; rw [h4] at hx'; cases hx'; exact hq rfl)).trans hx'
  ·rw [h2]
   refine .hw _ _ _ ?_
   rw [hβm]
   exact VRel.hd (M := M₁) m 0 rows.length 1 b4 bs4 cap4 c4 T4 (0, 0) (by rw [hβm]) h3 h6 (by omega)
  ·exact .sl false 1 rows b4 bs4 c4 T4 (by decide) (by rw [hβm]) (updN_self _ _ _) h6 (by omega) h8 (fun i r j p x e1 e2 e3 => (h9 i r j p x e1 e2 (by rw [Nat.mul_one] at e3; exact e3)).mono E) (by rw [hβm])
theorem gClose_ok (f : Nat) (mem' : List (List (List PV))) : GsOk (gClose f mem') := by
 intro P fid k r outs σ l σ' e ha hk M a w R b cs hb
 unfold gClose at e
 split at e
 case h_2 => cases e
 rename_i cs0 gs mem i m os hf
 split at e
 case h_2 => cases e
 rename_i rows hm hnd
 simp only [Bool.and_eq_true, Bool.not_eq_true'] at hnd
 obtain ⟨hnd, hmf⟩ := hnd
 cases e
 obtain ⟨hne0, hmem', _⟩ := ha
 have hfm : f ≠ m := by rintro rfl; simp at hmf
 have hom : ∀ q ∈ os.map Prod.snd, q ≠ m := by
  intro q hq e
  subst e
  have : ∀ l : List Nat, allNat q l = true → q ∉ l := fun l => by
   induction l with
   | nil => intro _ h; cases h
   | cons x r ih =>
    intro h hq
    simp only [allNat] at h
    split at h
    ·cases h
    ·rename_i e
     rcases List.mem_cons.1 hq with rfl | hq
     ·simp at e
     ·exact ih h hq
  exact this _ hnd hq
 have h0 := R.ob f _ hf
 cases h0 with | own _ _ _ _ b2 c T f0 f1 f2 f3 f4 f4' f5 f6 f7 =>
 have f0' := f0
 cases f0' with | svar _ hv hS =>
 cases hv with | var _ b3 c3 T3 g1 g2 g3 g4 g5 g6 =>
 rw [f1] at g1; cases g1
 rw [f3] at g3; cases g3
 have hm0 := R.ob m _ hm
 cases hm0 with
 | sl0 => exact absurd rfl hne0
 | sl _ _ _ b4 bs4 c4 T4 s0 s1 s2 s3 s4 s5 s6 s7 =>
 have s2 : M.κ b4 = .own m := s2
 let M₁ : Mm := ⟨updN M.κ b4 (.own f), M.β, M.φ, M.F0⟩
 have hκ4 : ∀ x, x ≠ b4 → M₁.κ x = M.κ x := fun x hx => updN_ne _ _ hx
 have E : Ext M w M₁ w := by
  refine ⟨rfl, rfl, rfl, Nat.le_refl _, fun _ _ _ => rfl, fun x _ h => (hκ4 x ?_).trans h, fun x _ h => (hκ4 x ?_).trans h, fun _ c _ _ h => ⟨c, h, rfl⟩, fun _ _ _ h => h, fun _ _ _ => rfl, rfl⟩
  ·rintro rfl; rw [s2] at h; cases h
  ·rintro rfl; rw [s2] at h; cases h
 have hof : ∀ x, M.κ x = .own f → M₁.κ x = .own f := fun x hx => (hκ4 x (by rintro rfl; rw [s2] at hx; cases hx; exact hfm rfl)).trans hx
 have hb24 : b4 ≠ b2 := by rintro rfl; rw [f2] at s2; cases s2; exact hfm rfl
 have hlen : ∀ q, q ≠ i → mem'[q]? = mem[q]? := fun q hq => by rw [← hmem', List.getElem?_set_ne (Ne.symm hq)]
 have hi' : ∀ rows', mem'[i]? = some rows' → rows' = rows := fun rows' h => by
  rw [← hmem', List.getElem?_set] at h
  simp only [if_true] at h
  split at h
  ·cases h; rfl
  ·cases h
 have hnotin : i ∉ os.map Prod.fst := by
  have := f5; simp only [List.map_cons, List.nodup_cons] at this; exact this.1
 have hval : ∀ k x, TokAt gs k i → c[k]? = some x → ∃ cap, x = .slice (some ⟨b4, bs4, none⟩) rows.length cap ∧ rows.length ≤ cap ∧ bs4 + cap ≤ c4.size := by
  intro k x t hx
  have := (f6 k i x t hx).1 m (.head _)
  cases this with | hw _ _ _ h =>
  rw [s7] at h
  generalize hz : rows.length = z at h
  cases h with
  | hd0 => exact absurd (List.eq_nil_of_length_eq_zero hz) hne0
  | hd _ _ _ _ bb base cap cc TT fr h1 h2 h3 h4 =>
   rw [s1] at h1; cases h1
   rw [s3] at h3; cases h3
   exact ⟨cap, by simp, h2, by omega⟩
 have dom : ∀ q, (lk σ.o q).isSome → (lk (up (up σ.o f (.own cs0 gs mem' os)) m .dead) q).isSome := by
  intro q hq; rw [lk_up]; split
  ·rfl
  ·rw [lk_up]; split
   ·rfl
   ·exact hq
 have R₁ : RSt M₁ { σ with o := up (up σ.o f (.own cs0 gs mem' os)) m .dead } a w := by
  refine ⟨R.sz, R.df, fun t v hv => (R.tm t v hv).mono E fun _ _ => rfl, ?_, fun t v hv q hq => dom q (R.wt t v hv q hq), ?_⟩
  ·intro q o hq
   rw [lk_up] at hq
   split at hq
   ·cases hq; exact .dead
   ·rw [lk_up] at hq
    split at hq
    ·rename_i e; subst e; cases hq
     refine .own cs0 gs mem' os b2 c T (.svar cs0 (.var _ b2 c T f1 (hof _ f2) f3 g4 g5 fun i x v h1 h2 => (g6 i x v h1 h2).mono E fun _ _ => rfl) hS) f1 (hof _ f2) f3 f4 f4' ?_ ?_ ?_
     ·have := f5; simp only [List.map_cons, List.nodup_cons] at this; exact this.2
     ·intro k2 i2 x t2 hx2
      refine ⟨fun m2 hm2 => ((f6 k2 i2 x t2 hx2).1 m2 (.tail _ hm2)).mono E fun _ _ => rfl, fun hi rows2 hr2 => ?_⟩
      by_cases hii : i2 = i
      ·subst hii
       obtain rfl := hi' _ hr2
       obtain ⟨cap, h1, h2, h3⟩ := hval k2 x t2 hx2
       exact .inr ⟨b4, bs4, cap, c4, T4, hne0, h1, h2, updN_self _ _ _, hb24, s3, h3, s5, fun i r j p v e1 e2 e3 => (s6 i r j p v e1 e2 (by rw [Nat.mul_one]; exact e3)).mono E⟩
      ·rw [hlen i2 hii] at hr2
       rcases (f6 k2 i2 x t2 hx2).2 (by simp only [List.map_cons, List.mem_cons, not_or]; exact ⟨hii, hi⟩) rows2 hr2 with h | ⟨b5, bs5, cap5, c5, T5, h1, h2, h3, h4, h5, h6, h7, h8, h9⟩
       ·exact .inl h
       ·exact .inr ⟨b5, bs5, cap5, c5, T5, h1, h2, h3, hof _ h4, h5, h6, h7, h8, fun i r j p v e1 e2 e3 => (h9 i r j p v e1 e2 e3).mono E⟩
     ·intro k2 k3 i2 i3 a1 a2 l1 l2 p1 p2 hkk t2 t3 n1 n2 r1 r2 v1 v2
      have other : ∀ k i2 a1 l1 p1, TokAt gs k i2 → i2 ≠ i → i2 ∉ os.map Prod.fst → (∃ r, mem'[i2]? = some r ∧ r ≠ []) → c[k]? = some (.slice (some a1) l1 p1) → a1.block ≠ b4 := by
       rintro k i2 a1 l1 p1 t hii n1 ⟨r, h1, h2⟩ hx
       rw [hlen i2 hii] at h1
       rcases (f6 k i2 _ t hx).2 (by simp only [List.map_cons, List.mem_cons, not_or]; exact ⟨hii, n1⟩) r h1 with h | ⟨b5, bs5, cap5, c5, T5, q1, q2, q3, q4, _⟩
       ·exact absurd h.1 h2
       ·cases q2
        rintro rfl
        rw [s2] at q4; cases q4; exact hfm rfl
      by_cases e2 : i2 = i
      ·by_cases e3 : i3 = i
       ·subst e2; subst e3; exact absurd (f4 _ _ _ t2 t3) hkk
       ·subst e2
        obtain ⟨cap, h1, _⟩ := hval k2 _ t2 v1
        cases h1
        exact (other k3 i3 a2 l2 p2 t3 e3 n2 r2 v2).symm
      ·by_cases e3 : i3 = i
       ·subst e3
        obtain ⟨cap, h1, _⟩ := hval k3 _ t3 v2
        cases h1
        exact other k2 i2 a1 l1 p1 t2 e2 n1 r1 v1
       ·rw [hlen _ e2] at r1
        rw [hlen _ e3] at r2
        exact f7 k2 k3 i2 i3 a1 a2 l1 l2 p1 p2 hkk t2 t3 (by simp only [List.map_cons, List.mem_cons, not_or]; exact ⟨e2, n1⟩) (by simp only [List.map_cons, List.mem_cons, not_or]; exact ⟨e3, n2⟩) r1 r2 v1 v2
    ·rename_i hqm hqf
     refine (R.ob q o hq).mono E rfl (fun _ _ => rfl) (fun x _ hx => ⟨hκ4 x ?_, rfl⟩)
     rintro rfl
     rw [s2] at hx
     rcases hx with hx | hx
     ·cases hx; exact hqm rfl
     ·cases hx
  ·intro q o hq p hp
   rw [lk_up] at hq
   split at hq
   ·cases hq; simp [AObj.nms] at hp
   ·rw [lk_up] at hq
    split at hq
    ·cases hq
     simp only [AObj.nms, List.mem_append] at hp
     exact dom p (R.wo f _ hf p (by simp only [AObj.nms, List.map_cons, List.mem_append, List.mem_cons]; exact hp.imp id .inr))
    ·exact dom p (R.wo q o hq p hp)
 have g : Go1 M w M₁ w := ⟨E, fun _ _ => rfl⟩
 obtain ⟨v, M', w', h1, h4, h5⟩ := hk M₁ a w R₁ b cs (hb.mono g)
 exact ⟨v, M', w', h1, g.trans2 h4, h5⟩
theorem gFrz_ok (f : Nat) (rws : List (List PV)) : GsOk (gFrz f rws) := by
 intro P fid k r outs σ l σ' e ha hk M a w R b cs hb
 unfold gFrz at e
 split at e
 case h_2 => cases e
 rename_i cs0 off base n gs mem hf
 split at e
 case h_2 => cases e
 rename_i n' rws0 hseg
 split at e
 case h_2 => cases e
 rename_i hnn
 simp only [Bool.and_eq_true] at hnn
 obtain ⟨hnn, hdis⟩ := hnn
 have hnn := nbeq_eq hnn
 subst hnn
 cases e
 obtain ⟨⟨hl, hrw⟩, _⟩ := ha
 have h0 := R.ob f _ hf
 cases h0 with | own _ _ _ _ b2 c T f0 f1 f2 f3 f4 f4' f5 f6 f7 =>
 cases f0 with | svar _ hv hS =>
 cases hv with | var _ b3 c3 T3 g1 g2 g3 g4 g5 g6 =>
 rw [f1] at g1; cases g1
 rw [f3] at g3; cases g3
 obtain ⟨pre, post, q1, q2, q3, q4, q5⟩ := segAt_ar hS hseg
 have hr := hS _ _ _ q4
 have hone : ∀ x ∈ rws, x.length = 1 := by
  intro x hx
  obtain ⟨j, hj⟩ := List.getElem?_of_mem hx
  have hjn : j < n := by rw [← hl]; exact (List.getElem?_eq_some_iff.1 hj).1
  obtain ⟨rows, _, h2⟩ := hrw j hjn
  rw [hj] at h2; cases h2; rfl
 obtain ⟨k1, k2⟩ := q5 rws hl hone
 have tok0 : ∀ r, r < n → TokAt ((off, base, n) :: gs) (off + r) (base + r) := fun r h => ⟨off, base, n, r, .head _, h, rfl, rfl⟩
 have tokS : ∀ k i, TokAt gs k i → TokAt ((off, base, n) :: gs) k i := fun k i ⟨o, b, n', r, h1, h2, h3, h4⟩ => ⟨o, b, n', r, .tail _ h1, h2, h3, h4⟩
 let Q : Nat → Prop := fun x => ∃ r ad l cp rows, r < n ∧ c[off + r]? = some (.slice (some ad) l cp) ∧ mem[base + r]? = some rows ∧ rows ≠ [] ∧ x = ad.block
 haveI : DecidablePred Q := fun x => Classical.propDecidable _
 let M₁ : Mm := ⟨fun x => if Q x then .frozen else M.κ x, M.β, M.φ, M.F0⟩
 have hQ : ∀ x, Q x → M.κ x = .own f ∧ x ≠ b2 := by
  rintro x ⟨r, ad, l, cp, rows, h1, h2, h3, h4, rfl⟩
  rcases (f6 _ _ _ (tok0 r h1) h2).2 (by simp) rows h3 with h | ⟨b4, bs4, cap4, c4, T4, p1, p2, p3, p4, p5, _⟩
  ·exact absurd h.1 h4
  ·cases p2; exact ⟨p4, p5⟩
 have hκ : ∀ x, ¬ Q x → M₁.κ x = M.κ x := fun x hx => if_neg hx
 have E : Ext M w M₁ w := by
  refine ⟨rfl, rfl, rfl, Nat.le_refl _, fun _ _ _ => rfl, fun x _ h => (hκ x ?_).trans h, fun x _ h => (hκ x ?_).trans h, fun _ c _ _ h => ⟨c, h, rfl⟩, fun _ _ _ h => h, fun _ _ _ => rfl, rfl⟩
  ·intro hx; rw [(hQ x hx).1] at h; cases h
  ·intro hx; rw [(hQ x hx).1] at h; cases h
 have hb2 : M₁.κ b2 = .own f := (hκ b2 fun h => (hQ b2 h).2 rfl).trans f2
 have dom : ∀ q, (lk σ.o q).isSome → (lk (up σ.o f (.own (segPut cs0 off rws) gs mem [])) q).isSome := by
  intro q hq; rw [lk_up]; split
  ·rfl
  ·exact hq
 have hfl : ∀ (l : List (List PV)), (∀ x ∈ l, x.length = 1) → l.flatten.length = l.length := fun l => by
  induction l with
  | nil => intro _; rfl
  | cons x r ih => intro h; simp only [List.flatten_cons, List.length_append, List.length_cons, h x (.head _), ih fun y hy => h y (.tail _ hy)]; omega
 have hflr := hfl rws hone
 have hfl0 := hfl rws0 hr.2
 have hS2 : SegOk (segPut cs0 off rws) := k2
 have R₁ : RSt M₁ { σ with o := up σ.o f (.own (segPut cs0 off rws) gs mem []) } a w := by
  refine ⟨R.sz, R.df, fun t v hv => (R.tm t v hv).mono E fun _ _ => rfl, ?_, fun t v hv q hq => dom q (R.wt t v hv q hq), ?_⟩
  ·intro q o hq
   rw [lk_up] at hq
   split at hq
   ·rename_i e; subst e; cases hq
    refine .own _ gs mem [] b2 c T (.svar _ (.var _ b2 c T f1 hb2 f3 ?_ g5 ?_) k2) f1 hb2 f3 (fun k k' i t t' => f4 k k' i (tokS _ _ t) (tokS _ _ t')) (fun k i i' t t' => f4' k i i' (tokS _ _ t) (tokS _ _ t')) (by simp) ?_ ?_
    ·rw [g4, q1, k1]; simp only [List.length_append, List.length_map, hflr, hfl0, hl, hr.1]
    ·intro i x v hx hv
     rw [k1] at hv
     by_cases h1 : i < pre.length
     ·rw [List.getElem?_append_left h1] at hv
      exact (g6 i x v hx (by rw [q1, List.getElem?_append_left h1]; exact hv)).mono E fun _ _ => rfl
     ·rw [List.getElem?_append_right (by omega)] at hv
      by_cases h2 : i - pre.length < n
      ·rw [List.getElem?_append_left (by simp only [List.length_map, hflr, hl]; exact h2)] at hv
       obtain ⟨rows, p1, p2⟩ := hrw _ h2
       obtain ⟨pre2, post2, u1, u2, u3⟩ := flat_split hone p2
       have hv2 : v = .pv (.sl rows) := by
        rw [u1] at hv
        have hpl : (i - pre.length) = pre2.length := by omega
        rw [hpl] at hv
        simp at hv
        exact hv.symm
       subst hv2
       refine .pv _ _ ?_
       have hki : off + (i - pre.length) = i := by omega
       have t := tok0 _ h2
       rw [hki] at t
       rcases (f6 _ _ _ t hx).2 (by simp) rows p1 with ⟨rfl, rfl⟩ | ⟨b4, bs4, cap4, c4, T4, w1, w2, w3, w4, w5, w6, w7, w8, w9⟩
       ·exact .sl0 _ _
       ·subst w2
        have hQ4 : Q b4 := ⟨i - pre.length, ⟨b4, bs4, none⟩, _, _, rows, h2, by rw [hki]; exact hx, p1, w1, rfl⟩
        refine .sl b4 bs4 1 rows.length cap4 rows (fun r j => c4.getD (bs4 + r * 1 + j) undef) rfl w3 (fun i r h => w8 r (List.mem_of_getElem? h)) ?_ ?_
        ·intro r row j p e1 e2
         refine ⟨if_pos hQ4, ?_⟩
         have hj : j < 1 := by rw [← w8 row (List.mem_of_getElem? e1)]; exact (List.getElem?_eq_some_iff.1 e2).1
         have hrl := (List.getElem?_eq_some_iff.1 e1).1
         rw [cell_block w6]
         rw [Array.getD_eq_getD_getElem?, Array.getElem?_eq_getElem (by omega)]; rfl
        ·intro r row j p e1 e2
         have hj : j < 1 := by rw [← w8 row (List.mem_of_getElem? e1)]; exact (List.getElem?_eq_some_iff.1 e2).1
         have hrl := (List.getElem?_eq_some_iff.1 e1).1
         have hlt : bs4 + r * 1 + j < c4.size := by omega
         refine (w9 r row j p _ e1 e2 ?_).mono E
         rw [Array.getD_eq_getD_getElem?, Array.getElem?_eq_getElem hlt]
         rw [Option.getD_some, ← Array.getElem?_eq_getElem hlt]
         congr 1; omega
      ·rw [List.getElem?_append_right (by simp only [List.length_map, hflr, hl]; omega)] at hv
       refine (g6 i x v hx ?_).mono E fun _ _ => rfl
       rw [q1, List.getElem?_append_right (by omega), List.getElem?_append_right (by simp only [List.length_map, hfl0, hr.1]; omega)]
       simp only [List.length_map, hflr, hl, hfl0, hr.1] at hv ⊢
       exact hv
    ·intro k2 i2 x t2 hx2
     refine ⟨fun m2 hm2 => (by cases hm2), fun _ rows2 hr2 => ?_⟩
     rcases (f6 k2 i2 x (tokS _ _ t2) hx2).2 (by simp) rows2 hr2 with h | ⟨b4, bs4, cap4, c4, T4, h1, h2, h3, h4, h5, h6, h7, h8, h9⟩
     ·exact .inl h
     ·refine .inr ⟨b4, bs4, cap4, c4, T4, h1, h2, h3, (hκ b4 ?_).trans h4, h5, h6, h7, h8, fun i r j p v e1 e2 e3 => (h9 i r j p v e1 e2 e3).mono E⟩
      rintro ⟨r, ad, l, cp, rows, p1, p2, p3, p4, p5⟩
      have hne : k2 ≠ off + r := by
       rintro rfl
       obtain ⟨o', bb', n', r', y1, y2, y3, y4⟩ := t2
       unfold disB at hdis
       rw [List.all_eq_true] at hdis
       have := hdis _ y1
       simp only [Bool.or_eq_true] at this
       rcases this with h | h
       ·have := Nat.le_of_ble_eq_true h; omega
       ·have := Nat.le_of_ble_eq_true h; omega
      exact f7 k2 (off + r) i2 (base + r) _ _ _ _ _ _ hne (tokS _ _ t2) (tok0 r p1) (by simp) (by simp) ⟨rows2, hr2, h1⟩ ⟨rows, p3, p4⟩ (by rw [hx2, h2]) p2 p5
    ·intro k k' i i' a1 a2 l1 l2 p1 p2 hkk t t' _ _
     exact f7 k k' i i' a1 a2 l1 l2 p1 p2 hkk (tokS _ _ t) (tokS _ _ t') (by simp) (by simp)
   ·rename_i hqf
    refine (R.ob q o hq).mono E rfl (fun _ _ => rfl) (fun x _ hx => ⟨hκ x ?_, rfl⟩)
    intro hx2
    rw [(hQ x hx2).1] at hx
    rcases hx with hx | hx
    ·cases hx; exact hqf rfl
    ·cases hx
  ·intro q o hq p hp
   rw [lk_up] at hq
   split at hq
   ·cases hq
    refine dom p (R.wo f _ hf p ?_)
    simp only [AObj.nms, List.map_nil, List.append_nil] at hp ⊢
    rw [← flatC_nms, k1] at hp
    rw [← flatC_nms, q1]
    simp only [nmsL_append, nmsL_pvs] at hp ⊢
    simpa using hp
   ·exact dom p (R.wo q o hq p hp)
 have g : Go1 M w M₁ w := ⟨E, fun _ _ => rfl⟩
 obtain ⟨v, M', w', h1, h4, h5⟩ := hk M₁ a w R₁ b cs (hb.mono g)
 exact ⟨v, M', w', h1, g.trans2 h4, h5⟩
theorem gMv_ok (f n m : Nat) : GsOk (gMv f n m) := by
 intro P fid k r outs σ l σ' e _ hk M a w R b cs hb
 unfold gMv at e
 split at e
 case h_2 => cases e
 rename_i n' sz sz' rows hf hn hm hodd
 split at e
 case h_2 => cases e
 rename_i hc
 simp only [Bool.and_eq_true, Bool.not_eq_true'] at hc
 obtain ⟨⟨c1, c2⟩, c3⟩ := hc
 have c1 := nbeq_eq c1
 have c2 := nbeq_eq c2
 subst c1; subst c2
 have hfn : f ≠ n := by rintro rfl; simp at c3
 have hfm : f ≠ m := by rintro rfl; rw [hf] at hm; cases hm
 have hnm : n ≠ m := by rintro rfl; rw [hn] at hm; cases hm
 cases e
 have dom : ∀ q, (lk σ.o q).isSome → (lk (up (up (up σ.o f (.var [.hw m sz])) n .dead) m (.sl false sz rows)) q).isSome := by
  intro q hq; rw [lk_up]; split
  ·rfl
  ·rw [lk_up]; split
   ·rfl
   ·rw [lk_up]; split
    ·rfl
    ·exact hq
 have hne : ∀ q, (lk σ.o q).isSome → q ≠ m := fun q hq => isSome_ne hq hm
 have key : ∀ (M₁ : Mm) (E : Ext M w M₁ w), M₁.φ = M.φ → M₁.β = updN M.β m (M.β n) → (∀ x q, q ≠ n → M.κ x = .own q → M₁.κ x = .own q) → ORel M₁ w m (.sl false sz rows) →
   ∃ v M' w', Ends P fid (lone (b.at2 a k) cs w) cs v w' ∧ Go2 fid.ni (XB b) M w M' w' ∧ VRel M' w' v r ∧ (∀ (k : Nat) (o : AObj), outs[k]? = some o → ORel M' w' (2 * k) o) ∧ (∀ n ∈ r.nms, evenBelow outs.length n) ∧ (∀ o ∈ outs, ∀ n ∈ o.nms, evenBelow outs.length n) := by
  intro M₁ E hφ hβ0 hκ hobj
  have hβ : ∀ q, q ≠ m → M₁.β q = M.β q := fun q hq => by rw [hβ0]; exact updN_ne _ _ hq
  have hβm : M₁.β m = M.β n := by rw [hβ0]; exact updN_self _ _ _
  have R₁ : RSt M₁ { σ with o := up (up (up σ.o f (.var [.hw m sz])) n .dead) m (.sl false sz rows) } a w := by
   refine ⟨R.sz, R.df, fun t v hv => (R.tm t v hv).mono E fun q hq => hβ q (hne q (R.wt t v hv q hq)), ?_, fun t v hv q hq => dom q (R.wt t v hv q hq), ?_⟩
   ·intro q o hq
    rw [lk_up] at hq
    split at hq
    ·rename_i e; subst e; cases hq; exact hobj
    ·rw [lk_up] at hq
     split at hq
     ·cases hq; exact .dead
     ·rw [lk_up] at hq
      split at hq
      ·rename_i e; subst e; cases hq
       cases R.ob f _ hf with | var _ b' c T e1 e2 e3 e4 e5 e6 =>
       refine .var _ b' c T (by rw [hβ f hfm]; exact e1) (hκ b' f hfn e2) e3 e4 e5 fun i x v h1 h2 => ?_
       cases i with
       | succ i => simp at h2
       | zero =>
        simp only [List.getElem?_cons_zero, Option.some.injEq] at h2
        subst h2
        have := e6 0 x _ h1 rfl
        cases this with | hw _ _ _ h =>
        refine .hw _ _ _ ?_
        rw [hβm]
        generalize (M.β n).1 = z at h ⊢
        cases h with
        | hd0 _ _ _ ad => exact .hd0 _ _ _ ad
        | hd _ _ _ _ bb base cap cc TT fr k1 k2 k3 k4 => exact .hd m 0 _ sz bb base cap cc TT fr (by rw [hβm]; exact k1) k2 k3 k4
      ·rename_i hqm hqn hqf
       refine (R.ob q o hq).mono E (hβ q (Ne.symm hqm)) (fun p hp => hβ p (hne p (R.wo q o hq p hp))) (fun x _ hx => ⟨?_, rfl⟩) (fun _ _ _ _ _ _ _ => by rw [hφ])
       rcases hx with hx | hx
       ·rw [hx]; exact hκ x q (Ne.symm hqn) hx
       ·rw [hx]; exact E.fro x (by assumption) hx
   ·intro q o hq p hp
    rw [lk_up] at hq
    split at hq
    ·cases hq; simp [AObj.nms] at hp
    ·rw [lk_up] at hq
     split at hq
     ·cases hq; simp [AObj.nms] at hp
     ·rw [lk_up] at hq
      split at hq
      ·cases hq
       simp only [AObj.nms, nmsL, AV.nms, List.append_nil, List.mem_singleton] at hp
       subst hp
       rw [lk_up, if_pos rfl]; rfl
      ·exact dom p (R.wo q o hq p hp)
  have g : Go1 M w M₁ w := ⟨E, fun q hq => hβ q (by rintro rfl; omega)⟩
  obtain ⟨v, M', w', h1, h4, h5⟩ := hk M₁ a w R₁ b cs (hb.mono g)
  exact ⟨v, M', w', h1, g.trans2 h4, h5⟩
 cases R.ob n _ hn with
 | sl0 _ _ s0 s1 s2 =>
  exact key ⟨M.κ, updN M.β m (M.β n), M.φ, M.F0⟩ ⟨rfl, rfl, rfl, Nat.le_refl _, fun _ _ _ => rfl, fun _ _ h => h, fun _ _ h => h, fun _ c _ _ h => ⟨c, h, rfl⟩, fun _ _ _ h => h, fun _ _ _ => rfl, rfl⟩ rfl rfl (fun _ _ _ h => h)
   (.sl0 false sz s0 ((congrArg Prod.snd (updN_self _ _ _)).trans s1) ((congrArg Prod.fst (updN_self _ _ _)).trans s2))
 | sl _ _ _ b4 bs4 c4 T4 s0 s1 s2 s3 s4 s5 s6 s7 =>
  have s2 : M.κ b4 = .own n := s2
  have hκ4 : ∀ x, x ≠ b4 → updN M.κ b4 (.own m) x = M.κ x := fun x hx => updN_ne _ _ hx
  have E : Ext M w ⟨updN M.κ b4 (.own m), updN M.β m (M.β n), M.φ, M.F0⟩ w := by
   refine ⟨rfl, rfl, rfl, Nat.le_refl _, fun _ _ _ => rfl, fun x _ h => (hκ4 x ?_).trans h, fun x _ h => (hκ4 x ?_).trans h, fun _ c _ _ h => ⟨c, h, rfl⟩, fun _ _ _ h => h, fun _ _ _ => rfl, rfl⟩
   ·rintro rfl; rw [s2] at h; cases h
   ·rintro rfl; rw [s2] at h; cases h
  have hβm : updN M.β m (M.β n) m = M.β n := updN_self _ _ _
  refine key _ E rfl rfl (fun x q hq hx => (hκ4 x ?_).trans hx) (.sl false sz rows b4 bs4 c4 T4 s0 ((congrArg Prod.snd hβm).trans s1) (updN_self _ _ _) s3 s4 s5 (fun i r j p x e1 e2 e3 => (s6 i r j p x e1 e2 e3).mono E) ((congrArg Prod.fst hβm).trans s7))
  rintro rfl
  rw [s2] at hx; cases hx; exact hq rfl
theorem gNil_ok (f m sz : Nat) : GsOk (gNil f m sz) := by
 intro P fid k r outs σ l σ' e _ hk M a w R b cs hb
 unfold gNil at e
 split at e
 case h_2 => cases e
 rename_i o hf hm hodd hsz
 split at e
 case h_2 => cases e
 rename_i ho
 cases e
 obtain ⟨R', E, hβ⟩ := R.ghost (n := m) (sz := sz) hm hodd (by rintro rfl; simp at hsz)
 have hfm : f ≠ m := by rintro rfl; rw [hf] at hm; cases hm
 have hf' : lk (up σ.o m (.sl false sz [])) f = some o := by rw [lk_up, if_neg (Ne.symm hfm)]; exact hf
 have dom : ∀ q, (lk (up σ.o m (.sl false sz [])) q).isSome → (lk (up (up σ.o m (.sl false sz [])) f (.var [.hw m sz])) q).isSome := by
  intro q hq; rw [lk_up]; split
  ·rfl
  ·exact hq
 have R₁ : RSt ⟨M.κ, updN M.β m (0, none), M.φ, M.F0⟩ { σ with o := up (up σ.o m (.sl false sz [])) f (.var [.hw m sz]) } a w := by
  refine ⟨R'.sz, R'.df, R'.tm, ?_, fun t v hv q hq => dom q (R'.wt t v hv q hq), ?_⟩
  ·intro q x hq
   rw [lk_up] at hq
   split at hq
   ·rename_i e; subst e; cases hq
    obtain ⟨b', c, T, e1, e2, e3, e4, e5⟩ := nilVar_rel ho (R'.ob f o hf')
    refine .var _ b' c T e1 e2 e3 (by simpa using e4) ?_ fun i x v h1 h2 => ?_
    ·intro v hv
     obtain ⟨i, hi⟩ := Array.getElem?_of_mem hv
     rw [e5 i v hi]; rfl
    ·cases i with
     | succ i => simp at h2
     | zero =>
      simp only [List.getElem?_cons_zero, Option.some.injEq] at h2
      subst h2
      rw [e5 0 x h1]
      refine .hw _ _ _ ?_
      rw [show (updN M.β m (0, none) m).1 = 0 from updN_1 _ _ _]
      exact .hd0 m 0 sz none
   ·exact R'.ob q x hq
  ·intro q x hq p hp
   rw [lk_up] at hq
   split at hq
   ·cases hq
    simp only [AObj.nms, nmsL, AV.nms, List.append_nil, List.mem_singleton] at hp
    subst hp
    exact dom p (by rw [lk_up, if_pos rfl]; rfl)
   ·exact dom p (R'.wo q x hq p hp)
 have g : Go1 M w ⟨M.κ, updN M.β m (0, none), M.φ, M.F0⟩ w := ⟨E, hβ⟩
 obtain ⟨v, M', w', h1, h4, h5⟩ := hk _ a w R₁ b cs (hb.mono g)
 exact ⟨v, M', w', h1, g.trans2 h4, h5⟩
end
end Go.Fx
