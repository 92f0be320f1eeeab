/- The law TradeCycles: whatever the integers, the program answers true. -/
import Derived.Test.YtidbhdbcapbnlaaTJ
import Derived.Test.YtidbhdbcapbnlaaTS
namespace Go.Fx.Gen
open Go.Fx Go.Proofs
set_option linter.unusedVariables false
namespace Trd
open Go.TT
variable {g : Graph} {N : Nat} {rx ex nn : Int → Int}

/-- How many lead to x with an edge. -/
def led (g : Graph) (rx ex : Int → Int) (l : List Int) (x : Int) : Nat := (l.filter fun u => decide (0 ≤ ex u) && decide (tg g rx u = x)).length

theorem led_le (O : Out g N rx ex nn) {l : List Int} (hn : l.Nodup) (hl : ∀ u ∈ l, u ∈ trd g) (x : Int) : led g rx ex l x ≤ 1 := by
  unfold led
  have hsub : ∀ u ∈ l.filter (fun u => decide (0 ≤ ex u) && decide (tg g rx u = x)), ∀ v ∈ l.filter (fun u => decide (0 ≤ ex u) && decide (tg g rx u = x)), u = v := by
    intro u hu v hv
    rw [List.mem_filter] at hu hv
    simp only [Bool.and_eq_true, decide_eq_true_eq] at hu hv
    exact tg_inj O (hl u hu.1) (hl v hv.1) (by rw [hu.2.2, hv.2.2])
  have hnd : (l.filter (fun u => decide (0 ≤ ex u) && decide (tg g rx u = x))).Nodup := hn.sublist (List.filter_sublist ..)
  generalize l.filter (fun u => decide (0 ≤ ex u) && decide (tg g rx u = x)) = m at hsub hnd
  match m with
  | [] => simp
  | [_] => simp
  | a :: b :: m =>
    have := hsub a (.head _) b (.tail _ (.head _))
    subst this
    simp at hnd

theorem led_iff (H : Ready g) (O : Out g N rx ex nn) {x : Int} (hx : x ∈ trd g) : led g rx ex (trd g) x = 1 ↔ 0 ≤ ex x := by
  have hle := led_le O (trd_nodup H.gv) (fun u hu => hu) x
  obtain ⟨u, hu, hux⟩ := tg_surj O hx
  obtain ⟨r, L⟩ := leaves_of O hx
  obtain ⟨s, Lu⟩ := leaves_of O hu
  constructor
  · intro h1
    have hne : (trd g).filter (fun u => decide (0 ≤ ex u) && decide (tg g rx u = x)) ≠ [] := by
      intro h; unfold led at h1; rw [h] at h1; simp at h1
    obtain ⟨w, hw⟩ := List.exists_mem_of_ne_nil _ hne
    rw [List.mem_filter] at hw
    simp only [Bool.and_eq_true, decide_eq_true_eq] at hw
    have : w = u := tg_inj O hw.1 hu (by rw [hw.2.2, hux])
    subst this
    rcases L.ex_cases H with ⟨h, ht⟩ | ⟨h, _⟩
    · -- x leaves alone: then it leads to itself
      have : w = x := tg_inj O hu hx (by rw [hux, ht])
      subst this; exact hw.2.1
    · exact h
  · intro h1
    have hpos : 0 < led g rx ex (trd g) x := by
      unfold led
      refine List.length_pos_of_mem (a := u) (List.mem_filter.2 ⟨hu, ?_⟩)
      simp only [Bool.and_eq_true, decide_eq_true_eq]
      refine ⟨?_, hux⟩
      rcases Lu.ex_cases H with ⟨h, ht⟩ | ⟨h, _⟩
      · rw [ht] at hux; subst hux; exact h1
      · exact h
    omega

/-- The table of those counts. -/
abbrev ledt (g : Graph) (rx ex : Int → Int) (l : List Int) : List Int := tab24 fun x => ((led g rx ex l (x : Int) : Nat) : Int)

theorem led_snoc (l : List Int) (v x : Int) : led g rx ex (l ++ [v]) x = led g rx ex l x + if 0 ≤ ex v ∧ tg g rx v = x then 1 else 0 := by
  unfold led
  rw [List.filter_append, List.length_append]
  by_cases h : 0 ≤ ex v ∧ tg g rx v = x
  · simp [h]
  · rw [if_neg h]
    have : (decide (0 ≤ ex v) && decide (tg g rx v = x)) = false := by simp; intro h1; exact fun h2 => h ⟨h1, h2⟩
    simp [this]

theorem tabf_t (H : Ready g) {f : Int → Int} {x : Int} (hx : x ∈ trd g) : tabf g f x.toNat = f x := by
  obtain ⟨v, hv, _, rfl⟩ := mem_trs.1 hx
  exact tabf_v hv (H.gv.v v hv).id.1

theorem get_t (H : Ready g) {f : Int → Int} {x : Int} (hx : x ∈ trd g) : (tab24 (tabf g f))[x.toNat]? = some (f x) := by
  have := trd_range H.gv hx
  rw [tab_get _ (by omega), tabf_t H hx]

/-- The wishes of one trader. -/
theorem own_run (H : Ready g) (O : Out g N rx ex nn) {v : Vertex} (hvt : v.ID ∈ trd g) {l : List Int} (hl : ∀ u ∈ l, u ∈ trd g) (hln : (l ++ [v.ID]).Nodup) :
    loopN fuel (fun s : Bool × Int × List Int => (f4.l1 g (tab24 (tabf g ex), tab24 (tabf g rx), true) v (rw_ g v.ID) s.1 s.2.1 s.2.2).run) ((ex v.ID == -1), (0 : Int), ledt g rx ex l) = some (.b (true, ledt g rx ex (l ++ [v.ID]))) := by
  have hr := trd_range H.gv hvt
  obtain ⟨r, L⟩ := leaves_of O hvt
  have hlen : (rw_ g v.ID).length ≤ 65536 := Nat.le_trans (List.length_filter_le ..) (by have := H.e; omega)
  have hind : ((rw_ g v.ID).map Edge.ID).Nodup := (asc_nodup H.gv.ea).sublist ((List.filter_sublist ..).map _)
  have gex := get_t H (f := ex) hvt
  have grx := get_t H (f := rx) hvt
  have hpl := L.exn H
  obtain ⟨q, hq, rfl⟩ := loop_ix (A := Bool × List Int) (f := fun s : Bool × Int × List Int => (f4.l1 g (tab24 (tabf g ex), tab24 (tabf g rx), true) v (rw_ g v.ID) s.1 s.2.1 s.2.2).run) (n := (rw_ g v.ID).length) (fun i a => (a.1, (i : Int), a.2))
    (fun i a => a = if (∃ e ∈ (rw_ g v.ID).take i, e.ID = ex v.ID) then (true, ledt g rx ex (l ++ [v.ID])) else ((ex v.ID == -1), ledt g rx ex l)) (fun q => q = .b (true, ledt g rx ex (l ++ [v.ID])))
    (fun i a hi ha => by
      have hx := List.getElem?_eq_getElem hi
      have htk := List.take_succ_eq_append_getElem hi
      have hm : (rw_ g v.ID)[i] ∈ rw_ g v.ID := List.getElem_mem hi
      have hfresh : ∀ e ∈ (rw_ g v.ID).take i, e.ID ≠ (rw_ g v.ID)[i].ID := by
        intro e he h
        obtain ⟨j, hj, rfl⟩ := List.getElem_of_mem he
        rw [List.length_take] at hj
        rw [List.getElem_take] at h
        rw [List.nodup_iff_pairwise_ne, List.pairwise_map, List.pairwise_iff_getElem] at hind
        exact hind j i (by omega) hi (by omega) h
      generalize (rw_ g v.ID)[i] = e at hx htk hm hfresh
      have hrow := (mem_rw_row H hvt).1 hm
      have hto : e.To ∈ trd g := (mem_rw.1 hm).2.2.2.2
      have htr := trd_range H.gv hto
      have gto := get_t H (f := rx) hto
      have hbig : i < 65536 := by omega
      simp only [f4.l1, r_brr, L_eq, cast_lt_t hi, br_t, getR_s hx, succ_wr hi (by omega)]
      rw [ck_t (by omega), rd_s gex, r_brr]
      by_cases he : e.ID = ex v.ID
      · -- its own edge
        have e1 : (e.ID == ex v.ID) = true := by simp [he]
        have hno : ¬ ∃ e ∈ (rw_ g v.ID).take i, e.ID = ex v.ID := by
          rintro ⟨e', h1, h2⟩; exact hfresh e' h1 (by rw [h2, he])
        rw [if_neg hno] at ha
        subst ha
        have htg : tg g rx v.ID = e.To ∧ 0 ≤ ex v.ID := by
          rcases L.ex_cases H with ⟨h, _⟩ | ⟨h0, e', he', h1, h2, _⟩
          · have W := more H
            obtain ⟨_, hmm⟩ := row_mem W.toWsOk hr
            have := W.nn _ hmm e hrow; omega
          · have : e = e' := edge_same H hvt hrow he' (by rw [he, h1])
            subst this; exact ⟨h2, h0⟩
        have hrx : rx e.To = rx v.ID := by rw [← htg.1]; exact (tg_mem O hvt).2
        have gl : (ledt g rx ex l)[e.To.toNat]? = some ((led g rx ex l e.To : Nat) : Int) := by
          rw [tab_get _ (by omega), show ((e.To.toNat : Nat) : Int) = e.To by omega]
        have hle := led_le O (hln.sublist (List.sublist_append_left ..)) hl e.To
        have w : IntKind.i64.wrap (((led g rx ex l e.To : Nat) : Int) + 1) = ((led g rx ex l e.To + 1 : Nat) : Int) := by rw [wr]; omega
        have hset : (ledt g rx ex l).set e.To.toNat (((led g rx ex l e.To + 1 : Nat) : Int)) = ledt g rx ex (l ++ [v.ID]) := by
          apply tab_set
          intro j hj
          rw [led_snoc]
          by_cases ej : j = e.To.toNat
          · have : tg g rx v.ID = (j : Int) := by rw [htg.1]; omega
            rw [if_pos ej, if_pos ⟨htg.2, this⟩, show (j : Int) = e.To by omega]
          · have : ¬ (0 ≤ ex v.ID ∧ tg g rx v.ID = (j : Int)) := by rw [htg.1]; omega
            rw [if_neg ej, if_neg this]; rfl
        have e2 : (rx e.To != rx v.ID) = false := by simp [hrx]
        rw [e1, br_t, getR_s hx, ck_t (by omega), rd_s gl, ck_t (by omega), st_s gl, getR_s hx, ck_t (by omega), rd_s gto, ck_t (by omega), rd_s grx, r_brr]
        simp only [e2, br_f, r_ret, w, hset]
        refine .inl ⟨(true, ledt g rx ex (l ++ [v.ID])), rfl, ?_⟩
        rw [if_pos]
        exact ⟨e, by rw [htk]; simp, he⟩
      · have e1 : (e.ID == ex v.ID) = false := by simp [he]
        have hsame : (∃ e ∈ (rw_ g v.ID).take (i + 1), e.ID = ex v.ID) ↔ ∃ e ∈ (rw_ g v.ID).take i, e.ID = ex v.ID := by
          rw [htk]
          constructor
          · rintro ⟨e', h1, h2⟩
            rw [List.mem_append, List.mem_singleton] at h1
            rcases h1 with h1 | rfl
            · exact ⟨e', h1, h2⟩
            · exact absurd h2 he
          · rintro ⟨e', h1, h2⟩; exact ⟨e', by simp [h1], h2⟩
        obtain ⟨k, k1, _⟩ := plc_mem H hvt hrow
        have hp := prefers_run H v.ID e.ID (ex v.ID)
        rw [if_pos ⟨hvt, by omega, hpl⟩] at hp
        have e3 : ((0 : Int) != 0) = false := rfl
        rw [e1, br_f, getR_s hx, ck_t (by omega), rd_s gex, r_cl, hp, bd_s, r_brr]
        simp only [e3, br_f, r_brr]
        have done : ∃ a', (some (Nx.cont (a.1, ((i + 1 : Nat) : Int), a.2)) : Option (Nx (Bool × Int × List Int) (Ex Bool (Bool × List Int) Empty))) = some (.cont (a'.1, ((i + 1 : Nat) : Int), a'.2)) ∧ a' = if (∃ e ∈ (rw_ g v.ID).take (i + 1), e.ID = ex v.ID) then (true, ledt g rx ex (l ++ [v.ID])) else ((ex v.ID == -1), ledt g rx ex l) := by
          refine ⟨a, rfl, ?_⟩
          rw [ha]; simp only [hsame]
        by_cases hb : plc g v.ID e.ID < plc g v.ID (ex v.ID)
        · have e4 : decide (plc g v.ID e.ID < plc g v.ID (ex v.ID)) = true := by simp [hb]
          obtain ⟨s, Ls, hs⟩ := left_before hto (L.before H hrow hb) O
          have e5 : decide (rx e.To ≥ rx v.ID) = false := by rw [Ls.rx, L.rx]; simp; omega
          rw [e4, br_t, getR_s hx, ck_t (by omega), rd_s gto, ck_t (by omega), rd_s grx, r_brr]
          simp only [e5, br_f, r_ret]
          exact .inl done
        · have e4 : decide (plc g v.ID e.ID < plc g v.ID (ex v.ID)) = false := by simp; omega
          rw [e4, br_f, r_ret]
          exact .inl done)
    (fun a ha => by
      rw [List.take_length] at ha
      have hfin : a = (true, ledt g rx ex (l ++ [v.ID])) := by
        rw [ha]
        rcases L.ex_cases H with ⟨h, ht⟩ | ⟨h0, e', he', h1, h2, _⟩
        · have hno : ¬ ∃ e ∈ rw_ g v.ID, e.ID = ex v.ID := by
            rintro ⟨e, h1, h2⟩
            have W := more H
            obtain ⟨_, hmm⟩ := row_mem W.toWsOk hr
            have := W.nn _ hmm e ((mem_rw_row H hvt).1 h1); omega
          rw [if_neg hno, h]
          congr 1
          apply List.map_congr_left
          intro x _
          rw [led_snoc, if_neg (by omega)]; rfl
        · rw [if_pos ⟨e', (mem_rw_row H hvt).2 he', h1.symm⟩]
      subst hfin
      exact ⟨.b (true, ledt g rx ex (l ++ [v.ID])), by simp only [f4.l1, r_brr, L_eq, cast_lt_f (Nat.lt_irrefl _), br_f, r_ret], rfl⟩)
    (k := fuel) (by have := fuel_pos; omega) (a := ((ex v.ID == -1), ledt g rx ex l)) (by simp)
  exact hq
end Trd
end Go.Fx.Gen
