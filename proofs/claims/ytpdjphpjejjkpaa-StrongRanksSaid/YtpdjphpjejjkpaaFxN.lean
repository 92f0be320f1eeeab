/- Regions in which an order is drawn: whatever the order, the same comes of it. -/
import Derived.Test.YtpdjphpjejjkpaaFxJ
import Derived.OrdersIn
namespace Go.Fx
/-! What an operation does depends on what it looks at alone. -/
section
variable {P : Program} {SP : SpecT}
theorem eff_congrρ {L : Nat → Option AObj} {op : Op} {ρ ρ' : Operand → AV} {an : Ann} (h : ∀ x ∈ op.operands, ρ x = ρ' x) : eff P SP L op ρ an = eff P SP L op ρ' an := by
 unfold eff
 split
 ·rw [effR_congrρ h]
 ·rw [effR_congrρ h]
 ·rename_i frz an'
  have e1 : op.operands.toList.map ρ = op.operands.toList.map ρ' := List.map_congr_left fun x hx => h x (by simpa using hx)
  have e2 : ∀ x ∈ op.operands, preF L frz ρ x = preF L frz ρ' x := by
   intro x hx
   cases x with
   | tmp t => simp only [preF, h _ hx]
   | const v => exact h _ hx
   | func g => exact h _ hx
   | global g => exact h _ hx
  rw [e1]
  split
  ·rw [effR_congrρ e2]
  ·rfl
 ·exact effR_congrρ h
variable {L L' : Nat → Option AObj}
theorem frzArg_congr {frz : List Nat} {v : AV} (h : ∀ n ∈ v.nms, L n = L' n) : frzArg L frz v = frzArg L' frz v := by
 unfold frzArg
 cases v
 case hw n a => simp only [h n (by simp [AV.nms])]
 case hd n a b c => simp only [h n (by simp [AV.nms])]
 case mp n => simp only [h n (by simp [AV.nms])]
 all_goals rfl
theorem frzArgs1_congr {frz : List Nat} : ∀ {vs : List AV}, (∀ n ∈ nmsL vs, L n = L' n) → frzArgs1 L frz vs = frzArgs1 L' frz vs
 | [], _ => rfl
 | v :: vs, h => by
  simp only [nmsL, List.mem_append] at h
  simp only [frzArgs1, frzArg_congr (frz := frz) fun n hn => h n (.inl hn), frzArgs1_congr (frz := frz) (vs := vs) fun n hn => h n (.inr hn)]
theorem frzArg2_congr {frz : List Nat} {v : AV} (h : ∀ n ∈ v.nms, L n = L' n) : frzArg2 L frz v = frzArg2 L' frz v := by
 unfold frzArg2
 cases v
 case agg cs => simp only [frzArgs1_congr (frz := frz) (vs := cs) fun n hn => h n (by simpa [AV.nms] using hn)]
 all_goals exact frzArg_congr h
theorem frzArgs_congr {frz : List Nat} : ∀ {vs : List AV}, (∀ n ∈ nmsL vs, L n = L' n) → frzArgs L frz vs = frzArgs L' frz vs
 | [], _ => rfl
 | v :: vs, h => by
  simp only [nmsL, List.mem_append] at h
  simp only [frzArgs, frzArg2_congr (frz := frz) fun n hn => h n (.inl hn), frzArgs_congr (frz := frz) (vs := vs) fun n hn => h n (.inr hn)]
theorem frzObjs_congr : ∀ {ns : List Nat}, (∀ n ∈ ns, L n = L' n) → frzObjs L ns = frzObjs L' ns
 | [], _ => rfl
 | n :: ns, h => by simp only [frzObjs, h n (.head _), frzObjs_congr (ns := ns) fun m hm => h m (.tail _ hm)]
theorem objsAt_congr : ∀ {ns : List Nat}, (∀ n ∈ ns, L n = L' n) → objsAt L ns = objsAt L' ns
 | [], _ => rfl
 | n :: ns, h => by simp only [objsAt, h n (.head _), objsAt_congr (ns := ns) fun m hm => h m (.tail _ hm)]
theorem newNames_congr : ∀ {ns : List Nat}, (∀ n ∈ ns, L n = L' n) → newNames L ns = newNames L' ns
 | [], _ => rfl
 | n :: ns, h => by simp only [newNames, h n (.head _), newNames_congr (ns := ns) fun m hm => h m (.tail _ hm)]
theorem keepOb_congr {wr : List (Nat × AObj)} : ∀ {keep : List Nat}, (∀ n ∈ keep, L n = L' n) → keepOb L wr keep = keepOb L' wr keep
 | [], _ => rfl
 | n :: r, h => by simp only [keepOb, h n (.head _), keepOb_congr (keep := r) fun m hm => h m (.tail _ hm)]
theorem callA_congr {g : Nat} {args : List AV} {an : Ann} (h : ∀ n ∈ nmsL args ++ an.nms, L n = L' n) : callA SP L g args an = callA SP L' g args an := by
 unfold callA callA0
 cases an <;> try rfl
 rename_i frz imps xs es r outs news keep
 simp only [Ann.nms, List.mem_append] at h
 have hk : ∀ out, keepA L keep out = keepA L' keep out := by
  intro out
  unfold keepA
  split
  ·rfl
  ·simp only [keepOb_congr (wr := out.wr) fun n hn => h n (.inr (.inr (.inr (.inr hn))))]
 simp only [hk]
 simp only [frzArgs_congr (frz := frz) (vs := args) fun n hn => h n (.inl hn), frzObjs_congr (ns := frz) fun n hn => h n (.inr (.inl hn)),
  objsAt_congr (ns := imps) fun n hn => h n (.inr (.inr (.inl hn))), newNames_congr (ns := news) fun n hn => h n (.inr (.inr (.inr (.inl hn))))]
theorem srcA_congr {b : Bool} {x : AV} (h : ∀ n ∈ x.nms, L n = L' n) : srcA L b x = srcA L' b x := by
 unfold srcA
 cases x
 case hd n a b c => simp only [h n (by simp [AV.nms])]
 case pv c => cases c <;> rfl
 all_goals rfl
theorem appendA_congr {b : Bool} {s x : AV} {t tx : TypeId} {m : Nat} {rs : List (List PV)} (hm : L m = L' m) (hs : ∀ n ∈ s.nms, L n = L' n) (hx : ∀ n ∈ x.nms, L n = L' n) :
  appendA P L b s x t tx m rs = appendA P L' b s x t tx m rs := by
 unfold appendA
 rw [srcA_congr hx, hm]
 generalize srcA L' b x = sx
 cases s
 case hd n a b c => cases sx with
  | none => rfl
  | some sx => simp only [hs n (by simp [AV.nms])]
 case pv c => cases c <;> cases sx <;> rfl
 all_goals rfl
theorem loadA_congr {t : TypeId} {p : AV} {an : Ann} (h : ∀ n ∈ p.nms ++ an.nms, L n = L' n) : loadA P L t p an = loadA P L' t p an := by
 unfold loadA
 cases p
 case ref n a b c => simp only [h n (by simp [AV.nms])]
 case fr f i a b c =>
  cases an <;> try rfl
  rename_i n rows r
  simp only [h n (by simp [Ann.nms])]
 all_goals rfl
theorem storeA_congr {t : TypeId} {p x : AV} {an : Ann} (h : ∀ n ∈ p.nms ++ an.nms, L n = L' n) : storeA P L t p x an = storeA P L' t p x an := by
 unfold storeA
 generalize hx : x.plain = b
 cases p
 case ref n a e c => cases b with
  | false => rfl
  | true => simp only [h n (by simp [AV.nms])]
 case fr f i a e c => cases b with
  | false => rfl
  | true =>
   cases an <;> try rfl
   rename_i n rows r mem
   simp only [h n (by simp [Ann.nms])]
 all_goals rfl
theorem mapOf_congr {et : TypeId} {m : AV} (h : ∀ n ∈ m.nms, L n = L' n) : mapOf P L et m = mapOf P L' et m := by
 unfold mapOf
 split
 ·rename_i n; simp only [h n (by simp [AV.nms])]
 ·rfl
 ·rfl
 ·rfl
theorem lookupA_congr {t : TypeId} {m k : AV} {ok : Bool} {an : Ann} (h : ∀ n ∈ m.nms, L n = L' n) : lookupA P L t m k ok an = lookupA P L' t m k ok an := by
 unfold lookupA
 cases an <;> try rfl
 ·simp only [mapOf_congr h]
 ·simp only [lookupZ, mapOf_congr h]
 ·simp only [lookupZ, mapOf_congr h]
theorem mapUpdateZ_congr {z : PV → PV} {t : TypeId} {m k x : AV} {ks : List PV} {rows : List (List PV)} (h : ∀ n ∈ m.nms, L n = L' n) : mapUpdateZ z P L t m k x ks rows = mapUpdateZ z P L' t m k x ks rows := by
 unfold mapUpdateZ
 split
 ·rename_i b _; simp only [h b (by simp [AV.nms])]
 ·rfl
theorem mapUpdateA_congr {t : TypeId} {m k x : AV} {an : Ann} (h : ∀ n ∈ m.nms, L n = L' n) : mapUpdateA P L t m k x an = mapUpdateA P L' t m k x an := by
 unfold mapUpdateA
 split
 ·exact mapUpdateZ_congr h
 ·exact mapUpdateZ_congr h
 ·rfl
theorem rangeA_congr {t : TypeId} {x : AV} {an : Ann} (h : ∀ n ∈ x.nms ++ an.nms, L n = L' n) : rangeA P L t x an = rangeA P L' t x an := by
 unfold rangeA
 split
 ·rename_i n
  rw [h n (by simp [Ann.nms])]
  split
  ·rename_i m _ _ _; simp only [h m (by simp [AV.nms])]
  ·rfl
 ·rfl
theorem entryA_congr {x : AV} {an : Ann} (h : ∀ n ∈ x.nms ++ an.nms, L n = L' n) : entryA L x an = entryA L' x an := by
 unfold entryA
 split
 ·rename_i m i k r n
  simp only [h n (by simp [AV.nms]), h m (by simp [Ann.nms])]
 ·rfl
theorem cvC_congr {x v : AV} (h : ∀ n ∈ v.nms, L n = L' n) : cvC L x v = cvC L' x v := by
 unfold cvC
 split
 ·rfl
 ·rfl
 ·rename_i n _
  rw [h n (by simp [AV.nms])]
 ·rename_i n _
  rw [h n (by simp [AV.nms])]
 ·rfl
theorem cvCs_congr : ∀ {xs vs : List AV}, (∀ n ∈ nmsL vs, L n = L' n) → cvCs L xs vs = cvCs L' xs vs
 | [], [], _ => rfl
 | [], _ :: _, _ => rfl
 | _ :: _, [], _ => rfl
 | x :: xs, v :: vs, h => by
  simp only [nmsL, List.mem_append] at h
  simp only [cvCs, cvC_congr (x := x) (v := v) fun n hn => h n (.inl hn), cvCs_congr (xs := xs) (vs := vs) fun n hn => h n (.inr hn)]
theorem cvA0_congr {x v : AV} (h : ∀ n ∈ v.nms, L n = L' n) : cvA0 L x v = cvA0 L' x v := by
 unfold cvA0
 split
 ·exact cvCs_congr (by simpa [AV.nms] using h)
 ·exact cvCs_congr (by simpa [AV.nms] using h)
 ·exact cvCs_congr (by rename_i qs; rw [pvs_nms]; simp)
 ·exact cvC_congr h
theorem cvA_congr {x v : AV} (h : ∀ n ∈ v.nms, L n = L' n) : cvA L x v = cvA L' x v := by
 unfold cvA
 split
 ·rfl
 ·rfl
 ·exact cvA0_congr h
theorem effO_congrL {op : Op} {ρ : Operand → AV} {an : Ann} (h : ∀ n ∈ nmsL (op.operands.toList.map ρ) ++ an.nms, L n = L' n) : effO P SP L op ρ an = effO P SP L' op ρ an := by
 cases op <;> simp only [effO] <;> simp only [Op.operands] at h
 case assign x =>
  unfold assignA; cases an <;> try rfl
  rename_i n sz; simp only [h n (by simp [Ann.nms])]
 case alloc t =>
  unfold allocA; cases an <;> try rfl
  ·rename_i n; simp only [h n (by simp [Ann.nms])]
  ·rename_i n v; simp only [h n (by simp [Ann.nms]), cvA_congr (x := _) (v := v) fun k hk => h k (by simp [Ann.nms, hk])]
 case box t x =>
  unfold boxA; cases an <;> try rfl
  ·rename_i n; simp only [h n (by simp [Ann.nms])]
  ·rename_i n v; simp only [h n (by simp [Ann.nms]), cvA_congr (x := _) (v := v) fun k hk => h k (by simp [Ann.nms, hk])]
  ·rename_i n cs; simp only [h n (by simp [Ann.nms])]
 case buildSlice t len ps =>
  unfold bsA; cases an <;> try rfl
  ·rename_i n; unfold bsB; simp only [h n (by simp [Ann.nms])]
  ·rename_i n _; unfold bsB; simp only [h n (by simp [Ann.nms])]
 case makeSlice t x y =>
  unfold msA; cases an <;> try rfl
  rename_i n rs; simp only [h n (by simp [Ann.nms])]
 case load t p =>
  have key : loadA P (fun n => (L n).map stripO) t (ρ p) an = loadA P (fun n => (L' n).map stripO) t (ρ p) an := loadA_congr fun n hn => by rw [h n (by simpa [nmsL] using hn)]
  cases an
  case opn j =>
   simp only
   unfold ldO
   generalize hp : ρ p = v at h
   cases v <;> try rfl
   rename_i n a b c
   simp only [h n (by simp [nmsL, hp, AV.nms])]
  all_goals exact key
 case store t p x =>
  have key : storeA P L t (ρ p) (ρ x) an = storeA P L' t (ρ p) (ρ x) an := storeA_congr fun n hn => h n (by simp [nmsL] at hn ⊢; rcases hn with hn | hn <;> simp [hn])
  split
  ·cases an
   case opn j =>
    simp only
    unfold stO
    generalize hp : ρ p = v at h
    generalize hx : ρ x = u at h
    cases v <;> try rfl
    cases u <;> try rfl
    rename_i n a b c _ _
    simp only [h n (by simp [nmsL, hp, AV.nms])]
   all_goals exact key
  ·rfl
 case slice t x lo hi mx =>
  cases mx <;> try rfl
  have hx : ∀ n ∈ (ρ x).nms, L n = L' n := fun n hn => h n (by simp [nmsL, hn])
  unfold sliceB
  cases an <;> try rfl
  ·rename_i m rs
   simp only
   unfold sliceOA
   rw [h m (by simp [Ann.nms])]
   generalize ρ x = v at hx
   split
   ·rename_i e n off len sz _
    rw [hx n (by simp [AV.nms])]
   ·rfl
  ·rename_i m rs
   simp only
   unfold sliceVA
   rw [h m (by simp [Ann.nms])]
 case makeMap t r =>
  cases r <;> try rfl
  unfold makeMapA; cases an <;> try rfl
  rename_i n; simp only [h n (by simp [Ann.nms])]
 case lookup t m k ok => exact lookupA_congr fun n hn => h n (by simp [nmsL, hn])
 case mapUpdate t m k x => exact mapUpdateA_congr fun n hn => h n (by simp [nmsL, hn])
 case insert t m k x => exact mapUpdateA_congr fun n hn => h n (by simp [nmsL, hn])
 case range t x => exact rangeA_congr fun n hn => h n (by simpa [nmsL] using hn)
 case entry x => exact entryA_congr fun n hn => h n (by simpa [nmsL] using hn)
 case call c =>
  cases hc : c.callee with
  | value f =>
   simp only
   unfold callOpA
   split
   ·rename_i g caps hf
    split
    ·split
     ·refine callA_congr fun n hn => h n ?_
      simp only [List.mem_append] at hn ⊢
      rcases hn with hn | hn
      ·refine .inl ?_
       obtain ⟨v, hv, hvn⟩ := nmsL_iff.1 hn
       rw [nmsL_iff]
       rw [List.mem_append] at hv
       rcases hv with hv | hv
       ·refine ⟨v, ?_, hvn⟩
        simp only [List.mem_map] at hv ⊢
        obtain ⟨y, hy, rfl⟩ := hv
        exact ⟨y, by simp [Call.operands] at hy ⊢; exact .inr hy, rfl⟩
       ·refine ⟨ρ f, ?_, ?_⟩
        ·simp only [List.mem_map]; exact ⟨f, by simp [Call.operands, hc], rfl⟩
        ·rw [← clA_nms, hf]; simp only [AV.nms]; exact nmsL_mem hv hvn
      ·exact .inr hn
     ·rfl
    ·rfl
   ·rename_i g r hf
    split
    ·split
     ·refine callA_congr fun n hn => h n ?_
      simp only [List.mem_append] at hn ⊢
      rcases hn with hn | hn
      ·refine .inl ?_
       obtain ⟨v, hv, hvn⟩ := nmsL_iff.1 hn
       rw [nmsL_iff]
       rw [List.mem_cons] at hv
       rcases hv with rfl | hv
       ·refine ⟨ρ f, ?_, ?_⟩
        ·simp only [List.mem_map]; exact ⟨f, by simp [Call.operands, hc], rfl⟩
        ·rw [← clA_nms, hf]; simpa only [AV.nms] using hvn
       ·refine ⟨v, ?_, hvn⟩
        simp only [List.mem_map] at hv ⊢
        obtain ⟨y, hy, rfl⟩ := hv
        exact ⟨y, by simp [Call.operands] at hy ⊢; exact .inr hy, rfl⟩
      ·exact .inr hn
     ·rfl
    ·rfl
   ·rename_i m hf
    split
    ·refine callA_congr fun n hn => h n ?_
     simp only [List.mem_append] at hn ⊢
     rcases hn with hn | hn
     ·refine .inl ?_
      obtain ⟨v, hv, hvn⟩ := nmsL_iff.1 hn
      rw [nmsL_iff]
      rw [List.mem_cons] at hv
      rcases hv with rfl | hv
      ·refine ⟨ρ f, ?_, ?_⟩
       ·simp only [List.mem_map]; exact ⟨f, by simp [Call.operands, hc], rfl⟩
       ·rw [← clA_nms, hf]; exact hvn
      ·refine ⟨v, ?_, hvn⟩
       simp only [List.mem_map] at hv ⊢
       obtain ⟨y, hy, rfl⟩ := hv
       exact ⟨y, by simp [Call.operands] at hy ⊢; exact .inr hy, rfl⟩
     ·exact .inr hn
    ·rfl
   ·rfl
  | invoke r m => rfl
  | builtin b =>
   simp only
   have app : ∀ {x y : AV} {t tx : TypeId} {m : Nat} {rs : List (List PV)} {b : Bool}, c.args.toList.map ρ = [x, y] → (L m = L' m) → appendA P L b x y t tx m rs = appendA P L' b x y t tx m rs := by
    intro x y t tx m rs b e1 hm
    refine appendA_congr hm ?_ ?_
    ·intro n hn
     refine h n (List.mem_append.2 (.inl (nmsL_iff.2 ⟨x, ?_, hn⟩)))
     have : x ∈ c.args.toList.map ρ := by rw [e1]; simp
     simp only [List.mem_map] at this ⊢
     obtain ⟨y, hy, rfl⟩ := this
     exact ⟨y, by simp [Call.operands] at hy ⊢; exact .inr hy, rfl⟩
    ·intro n hn
     refine h n (List.mem_append.2 (.inl (nmsL_iff.2 ⟨y, ?_, hn⟩)))
     have : y ∈ c.args.toList.map ρ := by rw [e1]; simp
     simp only [List.mem_map] at this ⊢
     obtain ⟨y, hy, rfl⟩ := this
     exact ⟨y, by simp [Call.operands] at hy ⊢; exact .inr hy, rfl⟩
   have oth : bltA P L b (c.args.toList.map ρ) c.argTypes.toList an = bltA P L' b (c.args.toList.map ρ) c.argTypes.toList an := by
    unfold bltA
    split
    ·rename_i e1 e2
     unfold appendZ
     simp only [h _ (List.mem_append.2 (.inr (List.mem_cons_self ..)))]
    ·rename_i an0 _ _ _ _ rows y t tx e1 e2
     unfold appendC
     rw [srcA_congr (L := L) (L' := L') (x := y) fun n hn => by
      refine h n (List.mem_append.2 (.inl (nmsL_iff.2 ⟨y, ?_, hn⟩)))
      have : y ∈ c.args.toList.map ρ := by rw [e1]; simp
      simp only [List.mem_map] at this ⊢
      obtain ⟨y, hy, rfl⟩ := this
      exact ⟨y, by simp [Call.operands] at hy ⊢; exact .inr hy, rfl⟩]
     cases an0 <;> try rfl
     rename_i m rs
     simp only [h m (by simp [Ann.nms])]
    ·rename_i e1 e2; exact app e1 (h _ (by simp [Ann.nms]))
    ·rename_i e1 e2; exact app e1 (h _ (by simp [Ann.nms]))
    ·rename_i n t e1 e2
     have hn : L n = L' n := by
      refine h n (List.mem_append.2 (.inl (nmsL_iff.2 ⟨.mp n, ?_, by simp [AV.nms]⟩)))
      have : AV.mp n ∈ c.args.toList.map ρ := by rw [e1]; simp
      simp only [List.mem_map] at this ⊢
      obtain ⟨y, hy, hy'⟩ := this
      exact ⟨y, by simp [Call.operands] at hy ⊢; exact .inr hy, hy'⟩
     simp only [hn]
    ·rfl
    ·rfl
    ·rename_i n k t tk ks' rows' e1 e2
     have hn : L n = L' n := by
      refine h n (List.mem_append.2 (.inl (nmsL_iff.2 ⟨.mp n, ?_, by simp [AV.nms]⟩)))
      have : AV.mp n ∈ c.args.toList.map ρ := by rw [e1]; simp
      simp only [List.mem_map] at this ⊢
      obtain ⟨y, hy, hy'⟩ := this
      exact ⟨y, by simp [Call.operands] at hy ⊢; exact .inr hy, hy'⟩
     unfold deleteA
     simp only [hn]
    ·rename_i an0 _ _ _ _ x y t tx e1 e2
     unfold copyA
     cases an0 <;> try rfl
     rename_i n rows r mem
     simp only [h n (by simp [Ann.nms])]
    ·rfl
   unfold bltB
   split
   ·rename_i n len sz N y t tx m rs e1 e2
    have hn : L n = L' n := h n (List.mem_append.2 (.inl (nmsL_iff.2 ⟨.hx n len sz N, by
      have : .hx n len sz N ∈ c.args.toList.map ρ := by rw [e1]; simp
      simp only [List.mem_map] at this ⊢
      obtain ⟨y', hy', he⟩ := this
      exact ⟨y', by simp [Call.operands] at hy' ⊢; exact .inr hy', he⟩, by simp [AV.nms]⟩)))
    have hm : L m = L' m := h m (List.mem_append.2 (.inr (by simp [Ann.nms])))
    unfold appendI
    rw [hn, hm, srcA_congr (L := L) (L' := L') (x := y) fun k hk => by
     refine h k (List.mem_append.2 (.inl (nmsL_iff.2 ⟨y, ?_, hk⟩)))
     have : y ∈ c.args.toList.map ρ := by rw [e1]; simp
     simp only [List.mem_map] at this ⊢
     obtain ⟨y', hy', rfl⟩ := this
     exact ⟨y', by simp [Call.operands] at hy' ⊢; exact .inr hy', rfl⟩]
   ·rename_i n sz N t e1 e2
    have hn : L n = L' n := h n (List.mem_append.2 (.inl (nmsL_iff.2 ⟨.hv n sz N, by
      have : .hv n sz N ∈ c.args.toList.map ρ := by rw [e1]; simp
      simp only [List.mem_map] at this ⊢
      obtain ⟨y', hy', he⟩ := this
      exact ⟨y', by simp [Call.operands] at hy' ⊢; exact .inr hy', he⟩, by simp [AV.nms]⟩)))
    rw [hn]
   ·rename_i n off len sz t rs e1 e2
    have hn : L n = L' n := h n (List.mem_append.2 (.inl (nmsL_iff.2 ⟨.hd n off len sz, by
      have : .hd n off len sz ∈ c.args.toList.map ρ := by rw [e1]; simp
      simp only [List.mem_map] at this ⊢
      obtain ⟨y', hy', he⟩ := this
      exact ⟨y', by simp [Call.operands] at hy' ⊢; exact .inr hy', he⟩, by simp [AV.nms]⟩)))
    unfold clearA
    rw [hn]
   ·exact oth
theorem effO_congrQ {op : Op} {ρ : Operand → AV} {an : Ann} (h : ∀ n ∈ opNms op ρ ++ an.nms, L n = L' n) : effO P SP L op ρ an = effO P SP L' op ρ an := by
 unfold opNms at h
 cases hq : quietOp op with
 | false => rw [hq] at h; exact effO_congrL h
 | true =>
  rw [hq] at h
  replace h : ∀ n ∈ an.nms, L n = L' n := fun n hn => h n (List.mem_append.2 (.inr hn))
  cases op <;> simp only [quietOp, reduceCtorEq] at hq <;> simp only [effO]
  unfold assignA; cases an <;> try rfl
  rename_i n sz; simp only [h n (by simp [Ann.nms])]
theorem eff0_congrL {op : Op} {ρ : Operand → AV} {an : Ann} (h : ∀ n ∈ opNms op ρ ++ an.nms, L n = L' n) : eff0 P SP L op ρ an = eff0 P SP L' op ρ an := by
 unfold eff0
 split
 ·rw [effO_congrQ h]
 ·rename_i v
  rw [effO_congrQ h]
  have : ∀ x, cvA L x v = cvA L' x v := fun x => cvA_congr fun n hn => h n (List.mem_append.2 (.inr (by simpa [Ann.nms] using hn)))
  simp only [this]
 ·rfl
 ·rfl
 ·exact effO_congrQ h
theorem hwN_iff {l : List AV} {n : Nat} : n ∈ hwN l ↔ ∃ sz, AV.hw n sz ∈ l := by
 induction l with
 | nil => simp [hwN]
 | cons c l ih =>
  cases c
  case hw m s =>
   simp only [hwN, List.mem_cons, ih]
   constructor
   ·rintro (rfl | ⟨sz, h⟩)
    ·exact ⟨s, .inl rfl⟩
    ·exact ⟨sz, .inr h⟩
   ·rintro ⟨sz, h | h⟩
    ·cases h; exact .inl rfl
    ·exact .inr ⟨sz, h⟩
  all_goals simp [hwN, ih]
theorem effR_congrL {op : Op} {ρ : Operand → AV} {an : Ann} (h : ∀ n ∈ opNms op ρ ++ an.nms, L n = L' n) : effR P SP L op ρ an = effR P SP L' op ρ an := by
 unfold effR
 cases hr : resOp op with
 | false => exact eff0_congrL h
 | true =>
  simp only
  have e1 : ∀ x ∈ op.operands, resF L ρ x = resF L' ρ x := by
   intro x hx
   cases x with
   | tmp t =>
    simp only [resF]
    unfold hwA
    split
    ·rename_i n sz hv
     have : L n = L' n := by
      refine h n (List.mem_append.2 (.inl ?_))
      have hm : AV.hw n sz ∈ op.operands.toList.map ρ := List.mem_map.2 ⟨_, by simpa using hx, hv⟩
      unfold opNms
      split
      ·rw [hr]; exact hwN_iff.2 ⟨sz, hm⟩
      ·exact nmsL_iff.2 ⟨_, hm, by simp [AV.nms]⟩
     rw [this]
    ·rfl
   | const v => rfl
   | func g => rfl
   | global g => rfl
  rw [eff0_congrρ e1]
  refine eff0_congrL fun n hn => h n ?_
  rw [List.mem_append] at hn ⊢
  refine hn.imp (fun hn => ?_) id
  have key : ∀ x, (resF L' ρ x).nms = (ρ x).nms := by
   intro x
   cases x <;> simp only [resF, hwA_nms]
  unfold opNms at hn ⊢
  split at hn
  ·rw [hr] at hn ⊢
   obtain ⟨sz, hm⟩ := hwN_iff.1 hn
   obtain ⟨x, hx, hv⟩ := List.mem_map.1 hm
   refine hwN_iff.2 ⟨sz, List.mem_map.2 ⟨x, hx, ?_⟩⟩
   cases x with
   | tmp t =>
    simp only [resF] at hv
    unfold hwA at hv
    split at hv
    ·split at hv
     ·cases hv
     ·cases hv
     ·rename_i hh _ _ _; rw [hh]; exact hv
    ·exact hv
   | const v => exact hv
   | func g => exact hv
   | global g => exact hv
  ·obtain ⟨c, hc, hn⟩ := nmsL_iff.1 hn
   obtain ⟨x, hx, rfl⟩ := List.mem_map.1 hc
   exact nmsL_iff.2 ⟨ρ x, List.mem_map.2 ⟨x, hx, rfl⟩, by rw [← key]; exact hn⟩
theorem frzArg_frz {frz : List Nat} {v : AV} (h : ∀ n ∈ frz, L n = L' n) : frzArg L frz v = frzArg L' frz v := by
 unfold frzArg
 cases v
 case hw n a =>
  cases hn : allNat n frz with
  | true => simp only [hn]
  | false => simp only [h n (allNat_false.1 hn)]
 case hd n a b c =>
  cases hn : allNat n frz with
  | true => simp only [hn]
  | false => simp only [h n (allNat_false.1 hn)]
 case mp n =>
  cases hn : allNat n frz with
  | true => simp only [hn]
  | false => simp only [h n (allNat_false.1 hn)]
 all_goals rfl
theorem frzArgs1_frz {frz : List Nat} (h : ∀ n ∈ frz, L n = L' n) : ∀ {vs : List AV}, frzArgs1 L frz vs = frzArgs1 L' frz vs
 | [] => rfl
 | v :: vs => by simp only [frzArgs1, frzArg_frz h, frzArgs1_frz h (vs := vs)]
theorem frzArg2_frz {frz : List Nat} {v : AV} (h : ∀ n ∈ frz, L n = L' n) : frzArg2 L frz v = frzArg2 L' frz v := by
 unfold frzArg2
 cases v
 case agg cs => simp only [frzArgs1_frz h]
 all_goals exact frzArg_frz h
theorem frzArgs_frz {frz : List Nat} (h : ∀ n ∈ frz, L n = L' n) : ∀ {vs : List AV}, frzArgs L frz vs = frzArgs L' frz vs
 | [] => rfl
 | v :: vs => by simp only [frzArgs, frzArg2_frz h, frzArgs_frz h (vs := vs)]
theorem frzArgs1_nms {frz : List Nat} : ∀ {l l' : List AV} {p : List Obl}, frzArgs1 L frz l = some (p, l') → ∀ n ∈ nmsL l', n ∈ nmsL l
 | [], l', p, h => by simp [frzArgs1] at h; obtain ⟨_, rfl⟩ := h; simp
 | x :: l, l', p, h => by
  simp only [frzArgs1] at h
  split at h
  ·rename_i h1 h2
   cases h
   intro n hn
   simp only [nmsL, List.mem_append] at hn ⊢
   exact hn.imp (frzArg_nms h1 n) (frzArgs1_nms h2 n)
  ·cases h
theorem frzArg2_nms {frz : List Nat} {x x' : AV} {p : List Obl} (h : frzArg2 L frz x = some (p, x')) : ∀ n ∈ x'.nms, n ∈ x.nms := by
 unfold frzArg2 at h
 split at h
 ·split at h
  ·rename_i h1
   cases h
   intro n hn
   exact frzArgs1_nms h1 n (mkAgg_nms hn)
  ·cases h
 ·exact frzArg_nms h
theorem preF_nms {frz : List Nat} {ρ : Operand → AV} {x : Operand} : ∀ n ∈ (preF L frz ρ x).nms, n ∈ (ρ x).nms := by
 intro n hn
 unfold preF at hn
 split at hn
 ·split at hn
  ·rename_i h; exact frzArg2_nms h n hn
  ·exact hn
 ·exact hn
theorem frzArg_hw {frz : List Nat} {x : AV} {p : List Obl} {n sz : Nat} (h : frzArg L frz x = some (p, .hw n sz)) : x = .hw n sz := by
 unfold frzArg at h
 split at h
 ·split at h
  ·split at h <;> simp at h
  ·simp at h
 ·split at h
  ·split at h <;> simp at h
  ·simp at h; rw [h.2.1, h.2.2]
 ·split at h <;> simp at h
 ·simp at h; exact h.2
theorem preF_hw {frz : List Nat} {ρ : Operand → AV} {x : Operand} {n sz : Nat} (h : preF L frz ρ x = .hw n sz) : ρ x = .hw n sz := by
 unfold preF at h
 split at h
 ·split at h
  ·rename_i q v hv
   subst h
   unfold frzArg2 at hv
   split at hv
   ·split at hv
    ·simp only [Option.some.injEq, Prod.mk.injEq] at hv
     unfold mkAgg at hv
     split at hv <;> simp at hv
    ·cases hv
   ·exact frzArg_hw hv
  ·exact h
 ·exact h
theorem preF_opNms {op : Op} {frz : List Nat} {ρ : Operand → AV} : ∀ n ∈ opNms op (preF L frz ρ), n ∈ opNms op ρ := by
 intro n hn
 unfold opNms at hn ⊢
 split at hn
 ·split at hn
  ·obtain ⟨sz, hm⟩ := hwN_iff.1 hn
   obtain ⟨x, hx, hv⟩ := List.mem_map.1 hm
   exact hwN_iff.2 ⟨sz, List.mem_map.2 ⟨x, hx, preF_hw hv⟩⟩
  ·exact hn
 ·obtain ⟨c, hc, h⟩ := nmsL_iff.1 hn
  obtain ⟨x, hx, rfl⟩ := List.mem_map.1 hc
  exact nmsL_iff.2 ⟨ρ x, List.mem_map.2 ⟨x, hx, rfl⟩, preF_nms n h⟩
theorem eff_congrL {op : Op} {ρ : Operand → AV} {an : Ann} (h : ∀ n ∈ opNms op ρ ++ an.nms, L n = L' n) : eff P SP L op ρ an = eff P SP L' op ρ an := by
 unfold eff
 split
 ·rename_i m an'
  rw [effR_congrL (an := an') fun n hn => h n (by
   rw [List.mem_append] at hn ⊢
   exact hn.imp id fun h => by simp [Ann.nms, h])]
 ·rename_i n m i mem' an'
  rw [effR_congrL (an := an') fun n hn => h n (by
   rw [List.mem_append] at hn ⊢
   exact hn.imp id fun h => by simp [Ann.nms, h]), h n (by simp [Ann.nms])]
 ·rename_i frz an'
  have hf : ∀ n ∈ frz, L n = L' n := fun n hn => h n (by simp [Ann.nms, hn])
  have hρ : preF L frz ρ = preF L' frz ρ := by
   funext x
   cases x <;> simp only [preF, frzArg2_frz hf]
  rw [frzObjs_congr hf, frzArgs_frz hf, hρ]
  split
  ·rename_i wf p _ _ _ _
   rw [effR_congrL (L := onto wf L) (L' := onto wf L') (an := an') fun n hn => by
    have : L n = L' n := by
     rw [List.mem_append] at hn
     rcases hn with hn | hn
     ·exact h n (List.mem_append.2 (.inl (preF_opNms n hn)))
     ·exact h n (List.mem_append.2 (.inr (by simp [Ann.nms, hn])))
    simp only [onto, this]]
  ·rfl
 ·exact effR_congrL h
end
/-! Two operations that change their places. -/
def St.Eq (σ τ : St) : Prop := σ.n = τ.n ∧ (∀ x, lk σ.t x = lk τ.t x) ∧ ∀ x, lk σ.o x = lk τ.o x
theorem St.Eq.rfl' {σ : St} : σ.Eq σ := ⟨rfl, fun _ => rfl, fun _ => rfl⟩
theorem St.Eq.symm' {σ τ : St} (h : σ.Eq τ) : τ.Eq σ := ⟨h.1.symm, fun x => (h.2.1 x).symm, fun x => (h.2.2 x).symm⟩
theorem St.Eq.trans' {σ τ υ : St} (h : σ.Eq τ) (k : τ.Eq υ) : σ.Eq υ := ⟨h.1.trans k.1, fun x => (h.2.1 x).trans (k.2.1 x), fun x => (h.2.2 x).trans (k.2.2 x)⟩
theorem RSt.eq {M : Mm} {σ τ : St} {a : Act} {w : World} (R : RSt M σ a w) (h : σ.Eq τ) : RSt M τ a w :=
 ⟨by rw [← h.1]; exact R.sz, R.df, fun t v e => R.tm t v (by rw [h.2.1]; exact e), fun n o e => R.ob n o (by rw [h.2.2]; exact e),
  fun t v e n hn => by rw [← h.2.2]; exact R.wt t v (by rw [h.2.1]; exact e) n hn, fun m o e n hn => by rw [← h.2.2]; exact R.wo m o (by rw [h.2.2]; exact e) n hn⟩
theorem disjN_iff {a b : List Nat} : disjN a b = true ↔ ∀ n ∈ a, n ∉ b := by
 induction a with
 | nil => simp [disjN]
 | cons x r ih =>
  simp only [disjN]
  split
  ·rename_i e; rw [ih]; simp [allNat_iff.1 e]
  ·rename_i e
   constructor
   ·intro h; cases h
   ·intro h; exact absurd (allNat_iff.2 (h x (.head _))) (by simp [e])
theorem ev_eq {σ τ : St} {l : List Operand} (h : ∀ t ∈ opdTmps l, lk σ.t t = lk τ.t t) : ∀ x ∈ l, σ.ev x = τ.ev x := by
 intro x hx
 cases x with
 | tmp t => simp only [St.ev, h t (opdTmps_mem.2 hx)]
 | _ => rfl
theorem lookN_eq {σ τ : St} {o : Oper} {an : Ann} (h : ∀ t ∈ opdTmps o.op.operands.toList, lk σ.t t = lk τ.t t) : lookN σ o an = lookN τ o an := by
 unfold lookN opNms
 rw [List.map_congr_left (ev_eq h)]
theorem opN_congr {P : Program} {SP : SpecT} {ops : Array Oper} {o : Oper} {gb : Option Bool} {an : Ann} {σ τ : St} (ht : ∀ t ∈ rdN ops o, lk σ.t t = lk τ.t t) (ho : ∀ n ∈ lookN σ o an, lk σ.o n = lk τ.o n) :
  opN P SP ops o gb an σ = opN P SP ops o gb an τ := by
 unfold rdN at ht
 have h1 : ∀ t ∈ opdTmps o.op.operands.toList, lk σ.t t = lk τ.t t := fun t h => ht t (List.mem_append.2 (.inl h))
 have h2 : eff P SP σ.obj o.op σ.ev an = eff P SP τ.obj o.op τ.ev an := by
  rw [eff_congrρ (ρ' := τ.ev) fun x hx => ev_eq h1 x (by simpa using hx)]
  refine eff_congrL fun n hn => ho n ?_
  rw [lookN_eq h1]; exact hn
 unfold opN
 split
 ·exact h2
 ·rename_i j want hg
  cases hj : (ops[j]?).bind (·.dst) with
  | none => rfl
  | some tj =>
   simp only
   rw [ht tj (List.mem_append.2 (.inr (by simp only [hg, hj]; exact .head _))), h2]
   cases lk τ.t tj with
   | none => rfl
   | some g =>
    have h3 : ∀ cs, specA P cs o.op σ.ev = specA P cs o.op τ.ev := by
     intro cs
     have e := ev_eq h1
     have e1 : o.op.operands.toList.map σ.ev = o.op.operands.toList.map τ.ev := List.map_congr_left e
     unfold specA
     rw [effG_congr (ρ' := unF cs τ.ev) fun x hx => ?_, e1]
     have := e x (by simpa using hx)
     cases x with
     | tmp t => simp only [unF, this]
     | const v => rfl
     | func g => rfl
     | global g => rfl
    simp only [h3]
theorem nextN_get {σ σ' : St} {o : Oper} {out : Out} (h : nextN σ o out = some σ') :
  σ'.n = σ.n ∧ (∀ x, lk σ'.t x = if o.dst = some x then some out.v else lk σ.t x) ∧ σ'.o = wrO σ.o out.wr ∧ (∀ d, o.dst = some d → d < σ.n) := by
 unfold nextN at h
 split at h
 ·rename_i σ₁ hd
  cases h
  cases hdst : o.dst with
  | none => rw [hdst] at hd; simp only [St.putD, Option.some.injEq] at hd; subst hd; simp
  | some d =>
   rw [hdst] at hd
   simp only [St.putD] at hd
   split at hd
   ·rename_i hlt
    cases hd
    refine ⟨rfl, fun x => ?_, rfl, ?_⟩
    ·simp only [lk_up, Option.some.injEq]
    ·intro d' e; cases e; exact Nat.le_of_ble_eq_true hlt
   ·cases hd
 ·cases h
theorem nextN_some {σ : St} {o : Oper} {out : Out} (h : ∀ d, o.dst = some d → d < σ.n) : ∃ σ', nextN σ o out = some σ' := by
 unfold nextN
 cases hd : o.dst with
 | none => exact ⟨_, rfl⟩
 | some d =>
  have : Nat.blt d σ.n = true := Nat.ble_eq_true_of_le (h d hd)
  simp only [St.putD, this]
  exact ⟨_, rfl⟩
theorem nextN_eq {σ τ σ' τ' : St} {o : Oper} {out : Out} (h : σ.Eq τ) (h1 : nextN σ o out = some σ') (h2 : nextN τ o out = some τ') : σ'.Eq τ' := by
 obtain ⟨a1, a2, a3, _⟩ := nextN_get h1
 obtain ⟨b1, b2, b3, _⟩ := nextN_get h2
 refine ⟨by rw [a1, b1, h.1], fun x => by rw [a2, b2, h.2.1], fun x => ?_⟩
 rw [a3, b3]
 by_cases hx : x ∈ out.wr.map (·.1)
 ·exact lk_wrO_in hx
 ·rw [lk_wrO hx, lk_wrO hx, h.2.2]
section
variable {P : Program} {SP : SpecT} {ops : Array Oper} {as : Anns}
inductive Run (P : Program) (SP : SpecT) (ops : Array Oper) (as : Anns) : List Foot → St → St → Prop
 | nil (σ τ : St) : σ.Eq τ → Run P SP ops as [] σ τ
 | cons (x : Foot) (tr : List Foot) (o : Oper) (σ σ₁ σ' : St) : ops[x.i]? = some o → opN P SP ops o (annAt as x.i).1 (annAt as x.i).2 σ = some x.out → lookN σ o (annAt as x.i).2 = x.look →
   nextN σ o x.out = some σ₁ → Run P SP ops as tr σ₁ σ' → Run P SP ops as (x :: tr) σ σ'
theorem Run.eq {tr : List Foot} {σ τ σ' : St} (h : Run P SP ops as tr σ σ') : σ.Eq τ → Run P SP ops as tr τ σ' := by
 induction h generalizing τ with
 | nil σ σ' h => intro k; exact .nil τ σ' (k.symm'.trans' h)
 | cons x tr o σ σ₁ σ' h1 h2 h3 h4 _ ih =>
  intro k
  obtain ⟨τ₁, hτ⟩ := nextN_some (σ := τ) (o := o) (out := x.out) (by rw [← k.1]; exact (nextN_get h4).2.2.2)
  refine .cons x tr o τ τ₁ σ' h1 ?_ ?_ hτ (ih (nextN_eq k h4 hτ))
  ·rw [← opN_congr (fun t _ => k.2.1 t) (fun n _ => k.2.2 n)]; exact h2
  ·rw [← lookN_eq fun t _ => k.2.1 t]; exact h3
theorem Run.swap {x y : Foot} {tr : List Foot} {σ σ' : St} (h : Run P SP ops as (x :: y :: tr) σ σ') (hc : cmN ops x y = true) : Run P SP ops as (y :: x :: tr) σ σ' := by
 cases h with
 | cons _ _ o _ σ₁ _ h1 h2 h3 h4 h =>
  cases h with
  | cons _ _ p _ σ₂ _ g1 g2 g3 g4 g =>
   unfold cmN at hc
   simp only [h1, g1, Bool.and_eq_true, disjN_iff] at hc
   obtain ⟨⟨⟨⟨c1, c2⟩, c3⟩, c4⟩, c5⟩ := hc
   obtain ⟨a1, a2, a3, a4⟩ := nextN_get h4
   obtain ⟨b1, b2, b3, b4⟩ := nextN_get g4
   have nd : ∀ {d : Option Tmp} {l : List Tmp}, notD d l = true → ∀ t ∈ l, d ≠ some t := by
    intro d l h t ht e
    subst e
    simp [notD, memT_iff.2 ht] at h
   have e3 : ∀ d, o.dst = some d → p.dst ≠ some d := by
    intro d e1 e2
    simp [neD, e1, e2] at c3
   have t1 : ∀ t ∈ rdN ops p, lk σ₁.t t = lk σ.t t := fun t ht => by rw [a2, if_neg (nd c1 t ht)]
   have hlook : lookN σ p (annAt as y.i).2 = y.look := by
    rw [← g3, lookN_eq fun t ht => (t1 t (List.mem_append.2 (.inl ht))).symm]
   have hy : opN P SP ops p (annAt as y.i).1 (annAt as y.i).2 σ = some y.out := by
    rw [← g2]
    refine opN_congr (fun t ht => (t1 t ht).symm) fun n hn => ?_
    rw [a3, lk_wrO fun hw => c4 n hw (List.mem_append.2 (.inl (by rw [← hlook]; exact hn)))]
   obtain ⟨τ₁, hτ⟩ := nextN_some (σ := σ) (o := p) (out := y.out) (fun d e => by rw [← a1]; exact b4 d e)
   obtain ⟨d1, d2, d3, d4⟩ := nextN_get hτ
   have t2 : ∀ t ∈ rdN ops o, lk τ₁.t t = lk σ.t t := fun t ht => by rw [d2, if_neg (nd c2 t ht)]
   have hlook2 : lookN τ₁ o (annAt as x.i).2 = x.look := by
    rw [← h3, lookN_eq fun t ht => t2 t (List.mem_append.2 (.inl ht))]
   have hx : opN P SP ops o (annAt as x.i).1 (annAt as x.i).2 τ₁ = some x.out := by
    rw [← h2]
    refine (opN_congr (fun t ht => (t2 t ht).symm) fun n hn => ?_).symm
    rw [d3, lk_wrO fun hw => c5 n hw (by rw [← h3]; exact hn)]
   obtain ⟨τ₂, hτ2⟩ := nextN_some (σ := τ₁) (o := o) (out := x.out) (fun d e => by rw [d1]; exact a4 d e)
   obtain ⟨q1, q2, q3, q4⟩ := nextN_get hτ2
   refine .cons y _ p σ τ₁ σ' g1 hy hlook hτ (.cons x tr o τ₁ τ₂ σ' h1 hx hlook2 hτ2 (g.eq ⟨by rw [b1, a1, q1, d1], fun t => ?_, fun n => ?_⟩))
   ·rw [b2, q2, a2, d2]
    by_cases e1 : p.dst = some t
    ·rw [if_pos e1, if_neg (fun e => e3 t e e1), if_pos e1]
    ·rw [if_neg e1, if_neg e1]
   ·rw [b3, q3, a3, d3]
    by_cases hn : n ∈ y.out.wr.map (·.1)
    ·have hn' : n ∉ x.out.wr.map (·.1) := fun hw => c4 n hw (List.mem_append.2 (.inr hn))
     rw [lk_wrO (o := wrO σ.o y.out.wr) hn']
     exact lk_wrO_in hn
    ·rw [lk_wrO hn]
     by_cases hn' : n ∈ x.out.wr.map (·.1)
     ·exact lk_wrO_in hn'
     ·rw [lk_wrO hn', lk_wrO hn', lk_wrO hn]
theorem Run.front {y : Foot} {post : List Foot} {σ' : St} : ∀ {pre : List Foot} {σ : St}, Run P SP ops as (pre ++ y :: post) σ σ' → (∀ x ∈ pre, cmN ops x y = true) → Run P SP ops as (y :: (pre ++ post)) σ σ'
 | [], _, h, _ => h
 | x :: pre, σ, h, hc => by
  cases h with
  | cons _ _ o _ σ₁ _ h1 h2 h3 h4 h =>
   have := Run.front h fun z hz => hc z (.tail _ hz)
   exact (Run.cons x _ o σ σ₁ σ' h1 h2 h3 h4 this).swap (hc x (.head _))
theorem traceN_run : ∀ {plan : List Nat} {σ σ' : St} {tr : List Foot}, traceN P SP ops as plan σ = some (tr, σ') → Run P SP ops as tr σ σ' ∧ tr.map (·.i) = plan := by
 intro plan
 induction plan with
 | nil => intro σ σ' tr h; simp only [traceN, Option.some.injEq, Prod.mk.injEq] at h; obtain ⟨rfl, rfl⟩ := h; exact ⟨.nil _ _ .rfl', rfl⟩
 | cons i r ih =>
  intro σ σ' tr h
  simp only [traceN] at h
  split at h
  ·cases h
  ·rename_i o ho
   split at h
   ·cases h
   ·rename_i out hout
    split at h
    ·cases h
    ·rename_i σ₁ hn
     split at h
     ·cases h
     ·rename_i tr' σ₂ htr
      cases h
      obtain ⟨h1, h2⟩ := ih htr
      exact ⟨.cons ⟨i, out, _⟩ tr' o σ σ₁ _ ho hout rfl hn h1, by simp [h2]⟩
theorem obsN_all {tr : List Foot} (h : All (obsN tr)) : ∀ x ∈ tr, All x.out.ob := by
 induction tr with
 | nil => intro x hx; cases hx
 | cons y r ih =>
  simp only [obsN, All_append] at h
  intro x hx
  cases hx with
  | head => exact h.1
  | tail _ hx => exact ih h.2 x hx
def Down (ops : Array Oper) (l : Array Bool) : Prop := ∀ i, l.getD i false = true → ∀ z ∈ predsN ops i, l.getD z false = true
theorem mustN_listed {l : Array Bool} (hd : Down ops l) : ∀ {f x y : Nat}, mustN ops f x y = true → (∀ z ∈ predsN ops y, l.getD z false = true) → l.getD x false = true := by
 intro f
 induction f with
 | zero => intro x y h; simp [mustN] at h
 | succ f ih =>
  intro x y h hy
  simp only [mustN, List.any_eq_true, Bool.or_eq_true] at h
  obtain ⟨z, hz, h | h⟩ := h
  ·have := nbeq_eq h; subst this; exact hy z hz
  ·exact ih h (hd z (hy z hz))
theorem ready_preds {l : Array Bool} {i : Nat} (h : i ∈ Region.ready .any ops l) : l.getD i true = false ∧ ∀ z ∈ predsN ops i, l.getD z false = true := by
 obtain ⟨h0, o, ho, hall⟩ := mem_ready.1 h
 refine ⟨h0, fun z hz => ?_⟩
 unfold predsN at hz
 simp only [ho, List.mem_map, List.mem_filter, Array.mem_toList_iff] at hz
 obtain ⟨e, ⟨he, hb⟩, rfl⟩ := hz
 exact hall e he hb
theorem pairsN_split {y : Foot} {post : List Foot} : ∀ {pre : List Foot}, pairsN ops (pre ++ y :: post) = true → (∀ x ∈ pre, (cmN ops x y || mustN ops ops.size x.i y.i) = true) ∧ pairsN ops (pre ++ post) = true
 | [], h => by simp only [List.nil_append, pairsN, Bool.and_eq_true] at h; exact ⟨by simp, h.2⟩
 | x :: pre, h => by
  simp only [List.cons_append, pairsN, Bool.and_eq_true, List.all_append, List.all_cons] at h
  obtain ⟨⟨h1, h2, h3⟩, h4⟩ := h
  obtain ⟨g1, g2⟩ := pairsN_split h4
  refine ⟨?_, by simp only [List.cons_append, pairsN, Bool.and_eq_true, List.all_append]; exact ⟨⟨h1, h3⟩, g2⟩⟩
  intro z hz
  cases hz with
  | head => exact h2
  | tail _ hz => exact g1 z hz
end
section
variable {P : Program} {ops : Array Oper} {as : Anns}
theorem guardCs_rel {M : Mm} {w : World} {tj : Nat} {want : Bool} {x : Value} : ∀ {g : AV} {cs : List (Nat × Bool × Bool)}, guardCs tj want g = some cs → VRel M w x g →
  ((∀ c ∈ cs, c.2.1 = c.2.2) ∧ x = .bool want) ∨ ((∃ c ∈ cs, c.2.1 ≠ c.2.2) ∧ x ≠ .bool want) := by
 intro g cs h r
 induction r generalizing cs with
 | pv v p hp =>
  cases hp <;> simp [guardCs] at h
  rename_i b
  subst h
  by_cases hb : b = want
  ·subst hb; exact .inl ⟨by simp, rfl⟩
  ·exact .inr ⟨⟨_, .head _, hb⟩, fun e => hb (by cases e; rfl)⟩
 | gv v j t wt a h1 h2 ih =>
  simp only [guardCs, Option.map_eq_some_iff] at h
  obtain ⟨cs', h, rfl⟩ := h
  by_cases ht : t = wt
  ·rcases ih ht h with ⟨k1, k2⟩ | ⟨⟨c, k1, k2⟩, k3⟩
   ·refine .inl ⟨?_, k2⟩
    intro c hc
    cases hc with
    | head => exact ht
    | tail _ hc => exact k1 c hc
   ·exact .inr ⟨⟨c, .tail _ k1, k2⟩, k3⟩
  ·exact .inr ⟨⟨_, .head _, ht⟩, by rw [h2 ht]; intro e; cases e⟩
 | _ => simp [guardCs] at h
theorem unObs_each {cs : List (Nat × Bool × Bool)} : ∀ {l : List AV}, All (unObs cs l) → ∀ v ∈ l, All (unGs cs v).1
 | [], _ => by simp
 | z :: l, h => by
  simp only [unObs, All_append] at h
  intro y hy
  cases hy with
  | head => exact h.1
  | tail _ hy => exact unObs_each h.2 y hy
theorem specA_sound {M : Mm} {w : World} {σ : St} {a : Act} (R : RSt M σ a w) {cs : List (Nat × Bool × Bool)} {o : Oper} {out : Out} (h : specA P cs o.op σ.ev = some out) (hp : All out.ob) :
  out.wr = [] ∧ (∀ n ∈ out.v.nms, (lk σ.o n).isSome) ∧ ((∀ c ∈ cs, c.2.1 = c.2.2) → ∃ z, (execOp a.eval o).run P w = .ok (.value z) w ∧ VRel M w z out.v) ∧ ((∃ c ∈ cs, c.2.1 ≠ c.2.2) → VRel M w undef out.v) := by
 unfold specA at h
 split at h
 ·rename_i p v hv
  split at h
  case h_2 => cases h
  rename_i hnm
  cases h
  rw [All_append] at hp
  have each := unObs_each hp.1
  let f : Nat → AV := fun x => unF cs σ.ev (.tmp x)
  refine ⟨rfl, fun n hn => (by rw [wrapG_nms, hnm] at hn; cases hn), fun hc => ?_, fun hc => wrapG_undef hc⟩
  have key : ∀ x ∈ opdTmps o.op.operands.toList, VRel M w (a.eval (.tmp x)) (f x) := by
   intro x hx
   exact unGs_rel hc (each _ (List.mem_map.2 ⟨_, opdTmps_mem.1 hx, rfl⟩)) (R.ev (.tmp x))
  have R₂ : RSt M ⟨σ.n, (opdTmps o.op.operands.toList).foldl (fun t x => up t x (f x)) σ.t, σ.o⟩ a w := by
   refine ⟨R.sz, R.df, ?_, R.ob, ?_, R.wo⟩
   ·intro x v hx
    rw [lk_ups] at hx
    split at hx
    ·rename_i hm; cases hx; exact key x hm
    ·exact R.tm x v hx
   ·intro x v hx n hn
    rw [lk_ups] at hx
    split at hx
    ·cases hx; exact R.evn (.tmp x) n (unGs_nms n hn)
    ·exact R.wt x v hx n hn
  have h0 : effG P o.op (St.ev ⟨σ.n, (opdTmps o.op.operands.toList).foldl (fun t x => up t x (f x)) σ.t, σ.o⟩) = some (p, v) := by
   rw [← hv]
   refine effG_congr fun x hx => ?_
   cases x with
   | tmp t =>
    have hm : t ∈ opdTmps o.op.operands.toList := opdTmps_mem.2 (by simpa using hx)
    simp only [St.ev, lk_ups, if_pos hm]; rfl
   | const v => rfl
   | func g => rfl
   | global g => rfl
  obtain ⟨z, z1, z2, _⟩ := effG_sound (P := P) R₂ h0 hp.2
  exact ⟨z, z1, wrapG_rel z2 hc⟩
 ·cases h
theorem opN_sound {M : Mm} {w : World} {σ : St} {a : Act} (R : RSt M σ a w) {o : Oper} {gb : Option Bool} {an : Ann} {out : Out} {σ₁ : St} (h : opN P (SpecY P) ops o gb an σ = some out) (hp : All out.ob)
  (hn : nextN σ o out = some σ₁) {i : Nat} {rd : Option Nat} (hi : ops[i]? = some o) {Q : Exit → Act → World → Prop} {K : Act → World → Prop} (k : ∀ a' w' M', RSt M' σ₁ a' w' → Go1 M w M' w' → K a' w') :
  wpOpIn (wd rd) 0 P ops Q i K a w := by
 have hput : ∃ σ₂, σ.putD o.dst out.v = some σ₂ ∧ σ₁ = { σ₂ with o := wrO σ₂.o out.wr } := by
  unfold nextN at hn
  split at hn
  ·rename_i σ₂ h2; cases hn; exact ⟨σ₂, h2, rfl⟩
  ·cases hn
 obtain ⟨σ₂, hput, rfl⟩ := hput
 unfold wpOpIn
 simp only [hi]
 have run : ∀ {out' : Out}, eff P (SpecY P) σ.obj o.op σ.ev an = some out' → All out'.ob → out'.v = out.v → out'.wr = out.wr → o.wpIn (wd rd) 0 P a w K Q := by
  intro out' he hp' hv hw
  refine eff_sound R he hp' rd K Q ?_
  rintro v w' ⟨M', p⟩
  have := R.step p (by rw [hv]; exact hput)
  rw [hw] at this
  exact k _ _ M' this ⟨p.ext, p.bev⟩
 unfold opN at h
 split at h
 ·rename_i hg
  have : Region.wanted o (yielded ops a.tmps) = true := by unfold Region.wanted; rw [hg]
  rw [if_pos this]
  exact run h hp rfl rfl
 ·rename_i j want hg
  split at h
  ·rename_i tj htj
   split at h
   ·rename_i g hgv
    split at h
    ·rename_i b
     split at h
     ·rename_i t
      have hyield : yielded ops a.tmps j = some t := by
       unfold yielded
       rw [htj]
       simp only [Option.bind_some]
       rw [rel_lookup_bool R hgv]
      have hwant : Region.wanted o (yielded ops a.tmps) = (want == t) := by
       unfold Region.wanted
       rw [hg]
       simp only [hyield]
       cases t <;> cases want <;> rfl
      have skip : (want == t) = false → out.v = .tup [] → out.wr = [] → K (a.put o.dst undef) w := by
       intro _ hv hw
       refine k _ _ M ?_ (.refl M w)
       have := R.undef (by rw [← hv]; exact hput)
       simpa [hw, wrO] using this
      split at h
      ·rename_i hwb
       split at h
       ·rename_i out' he
        cases h
        obtain ⟨hp0, hp⟩ := hp
        rw [if_pos (by rw [hwant, hp0]; exact hwb)]
        exact run he hp rfl rfl
       ·cases h
      ·rename_i hwb
       cases h
       obtain ⟨hp0, hp⟩ := hp
       rw [if_neg (by rw [hwant, hp0, hwb]; simp)]
       exact ⟨fun _ _ => trivial, skip (by rw [hp0]; exact hwb) rfl rfl⟩
     ·cases h
    ·split at h
     ·rename_i hsk
      cases h
      have hno : yielded ops a.tmps j = none := by
       unfold yielded
       rw [htj]
       simp only [Option.bind_some]
       cases e : a.tmps[tj]? with
       | none => rfl
       | some v =>
        cases v <;> try rfl
        exact absurd e (rel_lookup_skip R hgv _)
      rw [if_neg (by unfold Region.wanted; rw [hg]; simp [hno])]
      have := R.undef hput
      refine ⟨fun _ _ => trivial, k _ _ M ?_ (.refl M w)⟩
      simpa [wrO] using this
     ·rename_i g
      split at h
      ·rename_i cs hcs
       obtain ⟨hw, hnm, hdo, hun⟩ := specA_sound R h hp
       have hv := R.tm tj _ hgv
       have hwant : Region.wanted o (yielded ops a.tmps) = true ↔ a.tmps.getD tj undef = .bool want := by
        unfold Region.wanted yielded
        rw [hg]
        simp only [htj, Option.bind_some, Array.getD_eq_getD_getElem?]
        cases e : a.tmps[tj]? with
        | none => simp; intro e; cases e
        | some v => cases v <;> simp [e]
       have post : ∀ {v : Value}, VRel M w v out.v → K (a.put o.dst v) w := by
        intro v hv
        have p : Post M σ w out M v w := Post.same R hw hv hnm
        exact k _ _ M (R.step p hput) ⟨p.ext, p.bev⟩
       rcases guardCs_rel hcs hv with ⟨h1, h2⟩ | ⟨h1, h2⟩
       ·rw [if_pos (hwant.2 h2)]
        obtain ⟨z, z1, z2⟩ := hdo h1
        exact Does.value (R := fun v w' => K (a.put o.dst v) w') z1 (post z2) rd K Q fun v w' h => h
       ·rw [if_neg (fun e => h2 (hwant.1 e))]
        exact ⟨fun _ _ => trivial, post (hun h1)⟩
      ·cases h
   ·cases h
  ·cases h
theorem topoB_remove : ∀ {pre : List Nat} {y : Nat} {post : List Nat} {l : Array Bool}, (y ∉ pre) → topoB ops l (pre ++ y :: post) = true → topoB ops (l.setIfInBounds y true) (pre ++ post) = true
 | [], y, post, l, _, h => by
  simp only [List.nil_append, topoB] at h ⊢
  split at h
  ·exact h
  ·cases h
 | x :: pre, y, post, l, hy, h => by
  simp only [List.mem_cons, not_or] at hy
  simp only [List.cons_append, topoB] at h ⊢
  split at h
  ·rename_i hp
   have hp' : ((predsN ops x).all fun z => (l.setIfInBounds y true).getD z false) = true := by
    simp only [List.all_eq_true] at hp ⊢
    exact fun z hz => getD_set_true (hp z hz)
   rw [hp']
   simp only
   rw [Array.setIfInBounds_comm _ _ hy.1]
   exact topoB_remove hy.2 h
  ·cases h
theorem getD_true_false {l : Array Bool} {i : Nat} (hi : i < l.size) : l.getD i true = l.getD i false := by
 simp [Array.getD_eq_getD_getElem?, hi]
theorem wpAny_run {rd : Option Nat} {Q : Exit → Act → World → Prop} {σ' : St} : ∀ {n : Nat} {tr : List Foot} {l : Array Bool} {M : Mm} {w : World} {σ : St} {a : Act} (_ : RSt M σ a w),
  Run P (SpecY P) ops as tr σ σ' → (∀ x ∈ tr, All x.out.ob) → pairsN ops tr = true → Down ops l → l.size = ops.size → tr.length = n → (tr.map (·.i)).Nodup → topoB ops l (tr.map (·.i)) = true →
  (∀ i, i < ops.size → (l.getD i true = false ↔ i ∈ tr.map (·.i))) → (∀ a' w' M', RSt M' σ' a' w' → Go1 M w M' w' → Q .normal a' w') →
  wpAnyIn (wd rd) 0 P .any ops Q n l a w := by
 intro n
 induction n with
 | zero =>
  intro tr l M w σ a R hr hp hpair hd hs hn hnd htopo hl k
  have : tr = [] := List.length_eq_zero_iff.1 hn
  subst this
  have hnil : Region.ready .any ops l = [] := by
   rw [List.eq_nil_iff_forall_not_mem]
   intro i hi
   obtain ⟨h0, o, ho, _⟩ := mem_ready.1 hi
   have := (hl i (Array.getElem?_eq_some_iff.1 ho).1).1 h0
   cases this
  cases hr with
  | nil _ _ he => exact ⟨hnil, k a w M (R.eq he) (.refl M w)⟩
 | succ n ih =>
  intro tr l M w σ a R hr hp hpair hd hs hn hnd htopo hl k
  refine ⟨fun hnil => ?_, fun i hi => ?_⟩
  ·-- the least one in the plan is ready
   exfalso
   cases htr : tr with
   | nil => rw [htr] at hn; cases hn
   | cons x tr' =>
    rw [htr] at hr htopo
    cases hr with
    | cons _ _ o _ σ₁ _ h1 h2 h3 h4 h5 =>
     simp only [List.map_cons, topoB] at htopo
     split at htopo
     ·rename_i hpre
      simp only [List.all_eq_true] at hpre
      have : x.i ∈ Region.ready .any ops l := by
       rw [mem_ready]
       refine ⟨(hl x.i (Array.getElem?_eq_some_iff.1 h1).1).2 (by rw [htr]; exact .head _), o, h1, fun e he hb => hpre e.on ?_⟩
       unfold predsN
       simp only [h1, List.mem_map, List.mem_filter, Array.mem_toList_iff]
       exact ⟨e, ⟨he, hb⟩, rfl⟩
      rw [hnil] at this
      cases this
     ·cases htopo
  ·obtain ⟨h0, hpre⟩ := ready_preds hi
   obtain ⟨_, o, ho, _⟩ := mem_ready.1 hi
   have hilt : i < ops.size := (Array.getElem?_eq_some_iff.1 ho).1
   obtain ⟨y, hy, rfl⟩ := List.mem_map.1 ((hl i hilt).1 h0)
   obtain ⟨pre, post, rfl⟩ := List.append_of_mem hy
   obtain ⟨hs1, hs2⟩ := pairsN_split hpair
   have hcm : ∀ x ∈ pre, cmN ops x y = true := by
    intro x hx
    have := hs1 x hx
    rw [Bool.or_eq_true] at this
    rcases this with h | h
    ·exact h
    ·exfalso
     have hx1 := mustN_listed hd h hpre
     have hxlt : x.i < l.size := by
      rcases Nat.lt_or_ge x.i l.size with h' | h'
      ·exact h'
      ·simp [Array.getD_eq_getD_getElem?, Array.getElem?_eq_none h'] at hx1
     have hx2 := (hl x.i (by rw [← hs]; exact hxlt)).2 (by simp only [List.map_append, List.mem_append]; exact .inl (List.mem_map.2 ⟨x, hx, rfl⟩))
     rw [getD_true_false hxlt, hx1] at hx2
     cases hx2
   have hf := hr.front hcm
   cases hf with
   | cons _ _ o' _ σ₁ _ g1 g2 g3 g4 g5 =>
    rw [ho] at g1
    cases g1
    refine opN_sound R g2 (hp y (by simp)) g4 ho ?_
    intro a' w' M' R' G
    have hnd' : ((pre ++ post).map (·.i)).Nodup ∧ y.i ∉ (pre ++ post).map (·.i) := by
     simp only [List.map_append, List.map_cons] at hnd ⊢
     rw [List.nodup_append] at hnd
     obtain ⟨n1, n2, n3⟩ := hnd
     rw [List.nodup_cons] at n2
     refine ⟨List.nodup_append.2 ⟨n1, n2.2, fun a ha b hb => n3 a ha b (.tail _ hb)⟩, ?_⟩
     rw [List.mem_append]
     rintro (h | h)
     ·exact n3 _ h _ (.head _) rfl
     ·exact n2.1 h
    refine ih R' g5 (fun x hx => hp x ?_) hs2 ?_ (by simp [hs]) (by simp at hn ⊢; omega) hnd'.1 ?_ ?_ fun a'' w'' M'' R'' G' => k a'' w'' M'' R'' (G.trans G')
    ·rw [List.mem_append] at hx ⊢
     exact hx.imp id (.tail _)
    ·intro j hj z hz
     by_cases hji : j = y.i
     ·subst hji; exact getD_set_true (hpre z hz)
     ·rw [getD_set_ne false (Ne.symm hji)] at hj
      exact getD_set_true (hd j hj z hz)
    ·simp only [List.map_append, List.map_cons] at htopo hnd' ⊢
     exact topoB_remove (fun h => hnd'.2 (List.mem_append.2 (.inl h))) htopo
    ·intro j hj
     by_cases hji : j = y.i
     ·subst hji
      constructor
      ·intro h; simp [hs, hj] at h
      ·intro h; exact absurd h hnd'.2
     ·rw [getD_set_ne true (Ne.symm hji), hl j hj]
      simp only [List.map_append, List.map_cons, List.mem_append, List.mem_cons]
      simp [hji]
theorem ltN_iff {n : Nat} {l : List Nat} : ltN n l = true → ∀ x ∈ l, x < n := by
 induction l with
 | nil => intro _ x hx; cases hx
 | cons y r ih =>
  intro h x hx
  simp only [ltN] at h
  split at h
  ·rename_i hy
   cases hx with
   | head => exact Nat.le_of_ble_eq_true hy
   | tail _ hx => exact ih h x hx
  ·cases h
theorem drawA_sound {M : Mm} {w : World} {σ : St} {a : Act} {plan : List Nat} (R : RSt M σ a w) {ps : List Obl} {σ' : St} (h : drawA P (SpecY P) ops as plan σ = some (ps, σ')) (hp : All ps)
  {rd : Option Nat} {Q : Exit → Act → World → Prop} (k : ∀ a' w' M', RSt M' σ' a' w' → Go1 M w M' w' → Q .normal a' w') (t : Nat) :
  wpOpsIn (wd rd) 0 P ops Q (Region.schedule (P.follows .mixedOrders) ops t) a { w with drawn := w.drawn + 1 } := by
 unfold drawA at h
 split at h
 ·rename_i hc
  simp only [Bool.and_eq_true, nodupN_iff] at hc
  obtain ⟨⟨⟨⟨⟨hnd, hlt⟩, hlen⟩, hmix⟩, htopo⟩, _⟩ := hc
  split at h
  ·rename_i tr σ₁ htr
   split at h
   ·rename_i hpair
    cases h
    obtain ⟨hrun, hmap⟩ := traceN_run htr
    have E : Ext M w M { w with drawn := w.drawn + 1 } := ⟨rfl, rfl, rfl, Nat.le_refl _, fun _ _ _ => rfl, fun _ _ h => h, fun _ _ h => h, fun _ c _ _ h => ⟨c, h, rfl⟩, fun _ _ _ h => h, fun _ _ _ => rfl, rfl⟩
    have R' : RSt M σ a { w with drawn := w.drawn + 1 } :=
     ⟨R.sz, R.df, fun t v e => (R.tm t v e).mono E fun _ _ => rfl, fun n o e => (R.ob n o e).mono E rfl (fun _ _ => rfl) fun _ _ _ => ⟨rfl, rfl⟩, R.wt, R.wo⟩
    have hlen := nbeq_eq hlen
    simp only [Region.schedule, hmix, Bool.true_or, if_true]
    refine wpAnyIn_sound ops.size t _ a _ (wpAny_run R' hrun (obsN_all hp) hpair ?_ (by simp) ?_ (by rw [hmap]; exact hnd) (by rw [hmap]; exact htopo) ?_ fun a' w' M' R'' G => k a' w' M' R'' ⟨E.trans G.ext, G.bev⟩)
    ·intro i hi
     simp only [Array.getD_eq_getD_getElem?, Array.getElem?_replicate] at hi
     split at hi <;> cases hi
    ·have := congrArg List.length hmap
     simpa [hlen] using this
    ·intro i hi
     rw [hmap]
     constructor
     ·intro _
      have hall := plan_all hnd (ltN_iff hlt) hlen
      exact hall i hi
     ·intro _
      simp [hi]
   ·cases h
  ·cases h
 ·cases h
where
 plan_all {plan : List Nat} {n : Nat} (hnd : plan.Nodup) (hlt : ∀ x ∈ plan, x < n) (hlen : plan.length = n) : ∀ i, i < n → i ∈ plan := by
  intro i hi
  refine Classical.byContradiction fun hni => ?_
  have := pigeon n (i :: plan) (List.nodup_cons.2 ⟨hni, hnd⟩) (by
   intro x hx
   cases hx with
   | head => exact hi
   | tail _ hx => exact hlt x hx)
  simp only [List.length_cons] at this
  omega
 pigeon : ∀ (n : Nat) (l : List Nat), l.Nodup → (∀ x ∈ l, x < n) → l.length ≤ n := by
  intro n
  induction n with
  | zero =>
   intro l _ h
   cases l with
   | nil => exact Nat.le_refl _
   | cons x r => exact absurd (h x (.head _)) (Nat.not_lt_zero _)
  | succ n ih =>
   intro l hnd h
   by_cases hm : n ∈ l
   ·have := ih (l.erase n) (hnd.erase n) fun x hx => by
     have h1 := h x (List.mem_of_mem_erase hx)
     have h2 : x ≠ n := fun e => by subst e; exact (hnd.not_mem_erase) hx
     omega
    rw [List.length_erase_of_mem hm] at this
    omega
   ·have := ih l hnd fun x hx => by
     have h1 := h x hx
     have h2 : x ≠ n := fun e => hm (e ▸ hx)
     omega
    omega
end
end Go.Fx
