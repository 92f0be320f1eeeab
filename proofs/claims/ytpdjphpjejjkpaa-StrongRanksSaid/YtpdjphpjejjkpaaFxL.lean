/- From a function's body to its contract; from a law's contract to the model's statement; data that came in. -/
import Derived.Test.YtpdjphpjejjkpaaFxK
import Derived.ProofKit
import Derived.OpenShut
import Derived.SizedLaws
import Derived.ChangeOld
import Derived.Carry
namespace Go.Fx
def tmps0 : List AV → Nat → List (Nat × AV)
 | [], _ => []
 | v :: vs, i => (i, v) :: tmps0 vs (i + 1)
def objs0 : List AObj → Nat → List (Nat × AObj)
 | [], _ => []
 | o :: os, i => (2 * i, o) :: objs0 os (i + 1)
def start (n : Nat) (args : List AV) (ext : List AObj) : St := ⟨n, tmps0 args 0, objs0 ext 0⟩
theorem lk_tmps0 : ∀ (vs : List AV) (i t : Nat) (v : AV), lk (tmps0 vs i) t = some v → i ≤ t ∧ vs[t - i]? = some v := by
 intro vs
 induction vs with
 | nil => intro i t v h; simp [tmps0, lk] at h
 | cons x vs ih =>
  intro i t v h
  simp only [tmps0, lk] at h
  split at h
  ·rename_i e; have := nbeq_eq e; subst this; cases h; simp
  ·obtain ⟨h1, h2⟩ := ih _ _ _ h
   refine ⟨by omega, ?_⟩
   have : t - i = (t - (i + 1)) + 1 := by omega
   rw [this]; simpa using h2
theorem lk_objs0 : ∀ (os : List AObj) (i n : Nat) (o : AObj), lk (objs0 os i) n = some o → ∃ k, n = 2 * (i + k) ∧ os[k]? = some o := by
 intro os
 induction os with
 | nil => intro i n o h; simp [objs0, lk] at h
 | cons x os ih =>
  intro i n o h
  simp only [objs0, lk] at h
  split at h
  ·rename_i e; have := nbeq_eq e; subst this; cases h; exact ⟨0, by simp, rfl⟩
  ·obtain ⟨k, h1, h2⟩ := ih _ _ _ h
   exact ⟨k + 1, by omega, by simpa using h2⟩
theorem lk_objs0_some : ∀ (os : List AObj) (i k : Nat), k < os.length → (lk (objs0 os i) (2 * (i + k))).isSome := by
 intro os
 induction os with
 | nil => intro i k h; simp at h
 | cons x os ih =>
  intro i k h
  simp only [objs0, lk]
  split
  ·rfl
  ·cases k with
   | zero => rename_i e; simp at e
   | succ k =>
    have := ih (i + 1) k (by simpa using h)
    have e : i + (k + 1) = i + 1 + k := by omega
    rw [e]; exact this
theorem Spec.of {P : Program} {g : Nat} {fn : Func} {c : Code} (hfn : P.funcs[g]? = some fn) (hb : fn.body = some c) {args : List AV} {ext : List AObj} {r : AV} {outs : List AObj}
  (hlen : Nat.ble args.length fn.ntmps = true) (hle : Nat.ble ext.length outs.length = true) (h : WK P ⟨g, ext.length, none⟩ [.code c] (start fn.ntmps args ext) r outs) : Spec P g args ext r outs := by
 intro M w vs hsz hrel hext hn1 hn2 cs
 have hlen : args.length ≤ fn.ntmps := Nat.le_of_ble_eq_true hlen
 have hle : ext.length ≤ outs.length := Nat.le_of_ble_eq_true hle
 let b : Frame := { (default : Frame) with fn := g, kind := .normal, roundOf := none, defers := [] }
 have henter : Frame.enter P g vs .normal = b.at2 { tmps := vs ++ Array.replicate (fn.ntmps - vs.size) undef, defers := [] } [.code c] := by
  simp [Frame.enter, Frame.at2, Frame.atR, hfn, hb, b]
 have R : RSt M (start fn.ntmps args ext) { tmps := vs ++ Array.replicate (fn.ntmps - vs.size) undef, defers := [] } w := by
  refine ⟨by simp [start]; omega, rfl, ?_, ?_, ?_, ?_⟩
  ·intro t v hv
   obtain ⟨_, h2⟩ := lk_tmps0 _ _ _ _ hv
   simp only [Nat.sub_zero] at h2
   have hlt : t < vs.size := by rw [hsz]; exact (List.getElem?_eq_some_iff.1 h2).1
   have : (vs ++ Array.replicate (fn.ntmps - vs.size) undef).getD t undef = vs[t] := by
    rw [Array.getD_eq_getD_getElem?, Array.getElem?_append_left hlt]; simp [hlt]
   rw [this]
   exact hrel t vs[t] v (by simp [hlt]) h2
  ·intro n o ho
   obtain ⟨k, rfl, h2⟩ := lk_objs0 _ _ _ _ ho
   rw [Nat.zero_add]
   exact hext k o h2
  ·intro t v hv n hn
   obtain ⟨_, h2⟩ := lk_tmps0 _ _ _ _ hv
   obtain ⟨k, hk, rfl⟩ := hn1 v (List.mem_of_getElem? h2) n hn
   have := lk_objs0_some ext 0 k hk
   rw [Nat.zero_add] at this; exact this
  ·intro m o ho n hn
   obtain ⟨k, _, h2⟩ := lk_objs0 _ _ _ _ ho
   obtain ⟨j, hj, rfl⟩ := hn2 o (List.mem_of_getElem? h2) n hn
   have := lk_objs0_some ext 0 j hj
   rw [Nat.zero_add] at this; exact this
 obtain ⟨v, M', w', ⟨fr, h1, h2, h3⟩, h4, h5, h6, h7, h8⟩ := h M _ w R b cs ⟨rfl, rfl, ⟨[], rfl, .nil, by simp⟩, rfl⟩
 rw [← henter] at h1
 exact ⟨.returned v, w', fr, ⟨v, M', rfl, h4.ext.ext (fun b _ hx => by rcases hx with hx | hx <;> cases hx), h5, h6, h4.bev, h7, h8, hle⟩, h1, h3, h2⟩
def M0 : Mm := ⟨fun _ => .frozen, fun _ => (0, none), [], 0⟩
theorem Spec.law {P : Program} {g : Nat} {args : List AV} (h : Spec P g args [] (.pv (.bool true)) []) {W : World} {vs : Array Value} (hsz : vs.size = args.length)
  (hrel : ∀ (i : Nat) (v : Value) (x : AV), vs[i]? = some v → args[i]? = some x → VRel M0 W v x) (hn : ∀ x ∈ args, x.nms = []) :
  Calls P g vs W fun e w' => e = .returned (.bool true) ∧ RowKit.Below W.heap.size W w' := by
 refine (h M0 W vs hsz hrel (by simp) (by intro x hx n hn'; rw [hn x hx] at hn'; cases hn') (by simp)).mono ?_
 rintro e w' ⟨v, M', rfl, E, hv, _⟩
 rw [rel_bool hv]
 exact ⟨rfl, ⟨E.os, E.tape, E.output, E.size, fun k hk => E.keep k hk (by intro n; simp [M0])⟩⟩
end Go.Fx
