/- How printed trees run: a law a word. -/
import Derived.Test.YtpdjphpjejjkpaaFxP
import Derived.IntWalk
namespace Go.Fx
theorem wr {n : Int} (h : -9223372036854775808 ≤ n ∧ n ≤ 9223372036854775807 := by omega) : IntKind.i64.wrap n = n := IntWalk.i64_in n h
section
variable {P : Program} {α β γ : Type}
theorem bd_s {a : α} {k : α → Option β} : bd (some a) k = k a := rfl
theorem bd_n {k : α → Option β} : bd none k = none := rfl
theorem br_t {t f : Option α} : br true t f = t := rfl
theorem br_f {t f : Option α} : br false t f = f := rfl
theorem br_dec {p : Prop} [Decidable p] {t f : Option α} : br (decide p) t f = if p then t else f := by by_cases h : p <;> simp [br, h]
theorem br_if {b : Bool} {t f : Option α} : br b t f = if b then t else f := by cases b <;> rfl
theorem ex_a {A B C : Type} {x : A} {ka : A → Option β} {kb : B → Option β} {kc : C → Option β} : ex3 (.a x) ka kb kc = ka x := rfl
theorem ex_b {A B C : Type} {x : B} {ka : A → Option β} {kb : B → Option β} {kc : C → Option β} : ex3 (.b x) ka kb kc = kb x := rfl
theorem ex_c {A B C : Type} {x : C} {ka : A → Option β} {kb : B → Option β} {kc : C → Option β} : ex3 (.c x) ka kb kc = kc x := rfl
theorem r_ret {x : β} : (Prg.ret x : Prg P β).run = some x := rfl
theorem r_no : (Prg.no : Prg P β).run = none := rfl
theorem r_brr {c : Bool} {t f : Prg P β} : (brr c t f).run = br c t.run f.run := rfl
theorem r_cl {g : Nat} {args : List AV} {ext : List AObj} {r : γ → AV} {outs : γ → List AObj} {p : Prg P γ} (h : ∀ {y}, p.run = some y → Spec P g args ext (r y) (outs y)) (k : γ → Prg P β) : (@cl β P γ g args ext r outs p @h k).run = bd p.run fun y => (k y).run := rfl
theorem r_cls {g : Nat} {args : List AV} {ext : List AObj} {r : γ → AV} {outs : γ → List AObj} {c : Option γ} (h : ∀ {y}, c = some y → Spec P g args ext (r y) (outs y)) (k : γ → Prg P β) : (@cls β P γ g args ext r outs c @h k).run = bd c fun y => (k y).run := rfl
theorem r_ck {i : Int} {n : Nat} {k : Prg P β} : (ck i n k).run = bd (chk (0 ≤ i ∧ i < (n : Int))) fun _ => k.run := rfl
theorem ck_t {i : Int} {n : Nat} {k : Prg P β} (h : 0 ≤ i ∧ i < (n : Int)) : (ck i n k).run = k.run := by rw [r_ck, chk, if_pos h]; rfl
theorem r_bLo {i : Int} {n : Nat} {k : Prg P β} : (bLo i n k).run = bd (chk (0 ≤ i ∧ i ≤ (n : Int))) fun _ => k.run := rfl
theorem r_bHi {i : Int} {n : Nat} {k : Prg P β} : (bHi i n k).run = bd (chk (0 ≤ i ∧ i ≤ (n : Int))) fun _ => k.run := rfl
theorem r_nzD {i : Int} {k : Prg P β} : (nzD i k).run = bd (chk (i ≠ 0)) fun _ => k.run := rfl
theorem r_nnS {i : Int} {k : Prg P β} : (nnS i k).run = bd (chk (0 ≤ i)) fun _ => k.run := rfl
theorem chk_t {p : Prop} [Decidable p] (h : p) : chk p = some () := by rw [chk, if_pos h]
theorem r_sget {s : ByteArray} {i : Int} {k : Int → Prg P β} : (sget s i k).run = bd (if 0 ≤ i then strAt s i else none) fun n => (k n).run := rfl
theorem r_loop1 {S A : Type} {s0 : S} {b : S → Prg P (Nx S (Ex A Empty Empty))} {enc : S → Enc} {xa : Xt A} {ka : A → Prg P β} :
  (loop1 s0 b enc xa ka).run = bd (loopN fuel (fun s => (b s).run) s0) fun e => ex3 e (fun x => (ka x).run) nofun nofun := by
 show bd _ _ = bd _ _
 congr 1; funext e; cases e with
 | a x => rfl
 | b x => cases x
 | c x => cases x
theorem r_loop2 {S A B : Type} {s0 : S} {b : S → Prg P (Nx S (Ex A B Empty))} {enc : S → Enc} {xa : Xt A} {ka : A → Prg P β} {xb : Xt B} {kb : B → Prg P β} :
  (loop2 s0 b enc xa ka xb kb).run = bd (loopN fuel (fun s => (b s).run) s0) fun e => ex3 e (fun x => (ka x).run) (fun x => (kb x).run) nofun := by
 show bd _ _ = bd _ _
 congr 1; funext e; cases e with
 | a x => rfl
 | b x => rfl
 | c x => cases x
theorem r_join1 {A : Type} {j : Jk} {q : Prg P (Ex A Empty Empty)} {xa : Xt A} {ka : A → Prg P β} : (join1 j q xa ka).run = bd q.run fun e => ex3 e (fun x => (ka x).run) nofun nofun := by
 show bd _ _ = bd _ _
 congr 1; funext e; cases e with
 | a x => rfl
 | b x => cases x
 | c x => cases x
theorem r_join2 {A B : Type} {j : Jk} {q : Prg P (Ex A B Empty)} {xa : Xt A} {ka : A → Prg P β} {xb : Xt B} {kb : B → Prg P β} : (join2 j q xa ka xb kb).run = bd q.run fun e => ex3 e (fun x => (ka x).run) (fun x => (kb x).run) nofun := by
 show bd _ _ = bd _ _
 congr 1; funext e; cases e with
 | a x => rfl
 | b x => rfl
 | c x => cases x
def stp {S R : Type} (o : Option (Nx S R)) (k : S → Option R) : Option R := match o with
 | none => none
 | some (.cont s') => k s'
 | some (.done r) => some r
theorem stp_c {S R : Type} {s : S} {k : S → Option R} : stp (some (.cont s)) k = k s := rfl
theorem stp_d {S R : Type} {r : R} {k : S → Option R} : stp (some (.done r)) k = some r := rfl
theorem loopN_succ {S R : Type} {n : Nat} {f : S → Option (Nx S R)} {s : S} : loopN (n + 1) f s = stp (f s) (loopN n f) := by
 show (match f s with | none => none | some (.cont s') => loopN n f s' | some (.done r) => some r) = _
 unfold stp
 cases f s with
 | none => rfl
 | some x => cases x <;> rfl
theorem fuel_pos : 18446744073709551615 < fuel := by unfold fuel; decide
section
variable [Cel α]
theorem r_bothN {γ : Type} {l : List α} {f : Prg P (List γ)} : (bothN l f).run = alike (l.map Cel.enc).isEmpty List.isEmpty f.run := rfl
theorem bothN_s {γ : Type} {l : List α} {f : Prg P (List γ)} {x : List γ} (h : f.run = some x) (h0 : l = [] → x = []) : (bothN l f).run = some x := by
 rw [r_bothN, h]
 cases l with
 | nil => rw [h0 rfl]; rfl
 | cons y l => rfl
theorem r_getR {l : List α} {i : Int} {k : α → Prg P β} : (getR l i k).run = bd (gi l i) fun a => (k a).run := rfl
theorem r_rd {l : List α} {i : Nat} {k : α → Prg P β} : (rd l i k).run = bd l[i]? fun a => (k a).run := rfl
theorem r_st {l : List α} {i : Nat} {f : α → α} {k : List α → Prg P β} : (st l i f k).run = bd ((l[i]?).map fun a => (a, l.set i (f a))) fun y => (k y.2).run := rfl
theorem r_ap {l l2 : List α} {k : List α → Prg P β} : (ap l l2 k).run = bd (if (l ++ l2).length ≤ bigLen then some (l ++ l2) else none) fun y => (k y).run := rfl
theorem r_apn {l2 : List α} {k : List α → Prg P β} : (apn l2 k).run = bd (if l2.length ≤ bigLen then some l2 else none) fun y => (k y).run := rfl
theorem r_cutHi {l : List α} {b : Int} {k : List α → Prg P β} : (cutHi l b k).run = bd (if 0 ≤ b ∧ b ≤ (l.length : Int) then some (l.take b.toNat) else none) fun y => (k y).run := rfl
theorem r_clrN {α : Type} [Cel α] {l : List α} {z : α} {off len : Nat} {k : List α → Prg P β} : (clrN l z off len k).run = (k (l.take off ++ List.replicate (min len (l.length - off)) z ++ l.drop (off + len))).run := rfl
theorem r_look {m : List (Int × α)} {x : Int} {z : α} {k : α → Bool → Prg P β} : (look m x z k).run = (k ((mapGet m x).getD z) (mapGet m x).isSome).run := rfl
theorem r_mset {m : List (Int × α)} {x : Int} {v : α} {k : List (Int × α) → Prg P β} : (mset m x v k).run = (k (mapSet m x v)).run := rfl
theorem r_mdelW {m : List (Int × α)} {x : Int} {k : List (Int × α) → Prg P β} : (mdelW m x k).run = (k (mapDel m x)).run := rfl
end
theorem gi_nat {l : List α} {i : Nat} : gi l (i : Int) = l[i]? := by unfold gi; rw [if_pos (by omega)]; rfl
theorem gi_s {l : List α} {i : Nat} {a : α} (h : l[i]? = some a) : gi l (i : Int) = some a := by rw [gi_nat, h]
theorem at0_nat {n : Nat} : at0 (n : Int) = n := by simp [at0]
end
end Go.Fx
