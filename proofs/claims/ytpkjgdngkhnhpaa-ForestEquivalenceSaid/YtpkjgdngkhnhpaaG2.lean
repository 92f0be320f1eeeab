/- Plain functions, and the proofs that the program computes them; printed by a program of our own. -/
import Derived.Test.YtpkjgdngkhnhpaaG1
set_option linter.unusedVariables false
namespace Go.Fw.Gen
open Go.Proofs Go.Fw

noncomputable abbrev b55 : Code := body Try.f55
noncomputable def clearwayref03_At.l0 (c3 : Int) (c4 : List Vertex) (c5 : List Edge) (c6 : List Int) (s : Int × (List Edge)) : Option (Nx (Int × (List Edge)) (List Edge)) :=
  br (decide (s.1 < ((c5.length : Nat) : Int))) (
    getR c5 s.1 fun a8 =>
    br (a8.From == c3) (
      getR c5 s.1 fun a12 =>
      gd ((s.2 ++ [a12]).length ≤ bigLen) <|
      some (.cont ((IntKind.i64.wrap (s.1 + 1)), (s.2 ++ [a12])))) (
      getR c5 s.1 fun a16 =>
      br (a16.To == c3) (
        getR c5 s.1 fun a20 =>
        gd ((s.2 ++ [a20]).length ≤ bigLen) <|
        some (.cont ((IntKind.i64.wrap (s.1 + 1)), (s.2 ++ [a20])))) (
        some (.cont ((IntKind.i64.wrap (s.1 + 1)), s.2))))) (
    some (.done s.2))

abbrev clearwayref03_At.l0.enc (c3 : Int) (c4 : List Vertex) (c5 : List Edge) (c6 : List Int) (s : Int × (List Edge)) : St := ⟨41, [(1, .pv (.int .i64 c3)), (2, .ref 101 0 0 0), (5, .hd 103 0 ((s.2.map Edge.enc).length) 6), (6, .pv (.int .i64 s.1))], [(101, .varp [.sl (c4.map Vertex.enc), .sl (c5.map Edge.enc), .sl (c6.map eInt)]), (103, .sl false 6 (s.2.map Edge.enc))]⟩

abbrev clearwayref03_At.l0.post (c3 : Int) (c4 : List Vertex) (c5 : List Edge) (c6 : List Int) (r : AV) (outs : List AObj) (q : (List Edge)) : Prop := WK Try.prog (55, 0) [.code (sub b55 [1, 1, 1, 0]), .code (sub b55 [1, 1, 1, 1])] ⟨41, [(5, .hd 101 0 ((q.map Edge.enc).length) 6)], [(101, .sl false 6 (q.map Edge.enc))]⟩ r outs

theorem clearwayref03_At.l0.ok (c3 : Int) (c4 : List Vertex) (c5 : List Edge) (c6 : List Int) (r : AV) (outs : List AObj) (s : Int × (List Edge)) (q : (List Edge)) (h : loopN fuel (clearwayref03_At.l0 c3 c4 c5 c6) s = some q) (hd : clearwayref03_At.l0.post c3 c4 c5 c6 r outs q) :
    WK Try.prog (55, 0) [.inLoop (sub b55 [1, 1, 0, 1, 0, 0]), .inBlock 0, .code (sub b55 [1, 1, 1])] (clearwayref03_At.l0.enc c3 c4 c5 c6 s) r outs := by
  refine WK.loop (clearwayref03_At.l0.enc c3 c4 c5 c6) (clearwayref03_At.l0 c3 c4 c5 c6) (clearwayref03_At.l0.post c3 c4 c5 c6 r outs) ?_ fuel s q h hd
  intro s x hx hn
  unfold clearwayref03_At.l0 at hx
  refine br_ok hx (fun h7 hx => ?_) (fun h7 hx => ?_)
  · refine getR_ok hx fun a8 h9 h10 hx => ?_
    refine br_ok hx (fun h11 hx => ?_) (fun h11 hx => ?_)
    · refine getR_ok hx fun a12 h13 h14 hx => ?_
      refine gd_ok hx fun h15 hx => ?_
      have hx := Option.some.inj hx
      subst hx
      refine WK.run (an := [.lp, .reg [(3, none, .val (.pv (.int .i64 ((c5.length : Nat) : Int))))], .br true, .reg [(3, none, .row (Edge.enc a8)), (9, some true, .no)], .bk, .reg [(4, none, .row (Edge.enc a12)), (6, none, .nm 1015), (7, none, .app 1017 ((s.2 ++ [a12]).map Edge.enc))], .reg []]) (kt := [1, 2, 5, 6]) (ko := [(101, 101), (1017, 103)]) (k' := [.inLoop (sub b55 [1, 1, 0, 1, 0, 0]), .inBlock 0, .code (sub b55 [1, 1, 1])]) (σ' := clearwayref03_At.l0.enc c3 c4 c5 c6 ((IntKind.i64.wrap (s.1 + 1)), (s.2 ++ [a12]))) (ps := [AV.pv (.int .i64 ((c5.map Edge.enc).length : Nat)) = .pv (.int .i64 (c5.length : Nat)), (decide (s.1 < ((c5.length : Nat) : Int))) = true, 0 ≤ (s.1 : Int), (c5.map Edge.enc)[(s.1 : Int).toNat]? = some (Edge.enc a8), (Edge.enc a8).length = 6, (a8.From == c3) = true, 0 ≤ (s.1 : Int), (c5.map Edge.enc)[(s.1 : Int).toNat]? = some (Edge.enc a12), (Edge.enc a12).length = 6, 6 = 6, 6 = 6, 0 + 1 ≤ ([a12].map Edge.enc).length, 0 + ((s.2.map Edge.enc).length) = (s.2.map Edge.enc).length, (s.2.map Edge.enc).drop 0 ++ (cut1 ([a12].map Edge.enc) 0 1) = ((s.2 ++ [a12]).map Edge.enc), ((s.2 ++ [a12]).map Edge.enc).length ≤ bigLen, ∀ r ∈ (cut1 ([a12].map Edge.enc) 0 1), r.length = 6])
        (by kernel_rfl) ⟨lenOb, h7, h9, rowOb h10, rfl, h11, h13, rowOb h14, rfl, rfl, rfl, Nat.le_of_eq (Nat.zero_add _), Nat.zero_add _, by simp [cut1, List.take_of_length_le], bigOb h15, one_len rfl, trivial⟩ ?_
      exact hn
    · refine getR_ok hx fun a16 h17 h18 hx => ?_
      refine br_ok hx (fun h19 hx => ?_) (fun h19 hx => ?_)
      · refine getR_ok hx fun a20 h21 h22 hx => ?_
        refine gd_ok hx fun h23 hx => ?_
        have hx := Option.some.inj hx
        subst hx
        refine WK.run (an := [.lp, .reg [(3, none, .val (.pv (.int .i64 ((c5.length : Nat) : Int))))], .br true, .reg [(3, none, .row (Edge.enc a8)), (9, some false, .no), (12, none, .row (Edge.enc a16))], .br true, .reg [(4, none, .row (Edge.enc a20)), (6, none, .nm 1019), (7, none, .app 1021 ((s.2 ++ [a20]).map Edge.enc))], .reg []]) (kt := [1, 2, 5, 6]) (ko := [(101, 101), (1021, 103)]) (k' := [.inLoop (sub b55 [1, 1, 0, 1, 0, 0]), .inBlock 0, .code (sub b55 [1, 1, 1])]) (σ' := clearwayref03_At.l0.enc c3 c4 c5 c6 ((IntKind.i64.wrap (s.1 + 1)), (s.2 ++ [a20]))) (ps := [AV.pv (.int .i64 ((c5.map Edge.enc).length : Nat)) = .pv (.int .i64 (c5.length : Nat)), (decide (s.1 < ((c5.length : Nat) : Int))) = true, 0 ≤ (s.1 : Int), (c5.map Edge.enc)[(s.1 : Int).toNat]? = some (Edge.enc a8), (Edge.enc a8).length = 6, (a8.From == c3) = false, 0 ≤ (s.1 : Int), (c5.map Edge.enc)[(s.1 : Int).toNat]? = some (Edge.enc a16), (Edge.enc a16).length = 6, (a16.To == c3) = true, 0 ≤ (s.1 : Int), (c5.map Edge.enc)[(s.1 : Int).toNat]? = some (Edge.enc a20), (Edge.enc a20).length = 6, 6 = 6, 6 = 6, 0 + 1 ≤ ([a20].map Edge.enc).length, 0 + ((s.2.map Edge.enc).length) = (s.2.map Edge.enc).length, (s.2.map Edge.enc).drop 0 ++ (cut1 ([a20].map Edge.enc) 0 1) = ((s.2 ++ [a20]).map Edge.enc), ((s.2 ++ [a20]).map Edge.enc).length ≤ bigLen, ∀ r ∈ (cut1 ([a20].map Edge.enc) 0 1), r.length = 6])
          (by kernel_rfl) ⟨lenOb, h7, h9, rowOb h10, rfl, h11, h17, rowOb h18, rfl, h19, h21, rowOb h22, rfl, rfl, rfl, Nat.le_of_eq (Nat.zero_add _), Nat.zero_add _, by simp [cut1, List.take_of_length_le], bigOb h23, one_len rfl, trivial⟩ ?_
        exact hn
      · have hx := Option.some.inj hx
        subst hx
        refine WK.run (an := [.lp, .reg [(3, none, .val (.pv (.int .i64 ((c5.length : Nat) : Int))))], .br true, .reg [(3, none, .row (Edge.enc a8)), (9, some false, .no), (12, none, .row (Edge.enc a16))], .br false, .reg []]) (kt := [1, 2, 5, 6]) (ko := [(101, 101), (103, 103)]) (k' := [.inLoop (sub b55 [1, 1, 0, 1, 0, 0]), .inBlock 0, .code (sub b55 [1, 1, 1])]) (σ' := clearwayref03_At.l0.enc c3 c4 c5 c6 ((IntKind.i64.wrap (s.1 + 1)), s.2)) (ps := [AV.pv (.int .i64 ((c5.map Edge.enc).length : Nat)) = .pv (.int .i64 (c5.length : Nat)), (decide (s.1 < ((c5.length : Nat) : Int))) = true, 0 ≤ (s.1 : Int), (c5.map Edge.enc)[(s.1 : Int).toNat]? = some (Edge.enc a8), (Edge.enc a8).length = 6, (a8.From == c3) = false, 0 ≤ (s.1 : Int), (c5.map Edge.enc)[(s.1 : Int).toNat]? = some (Edge.enc a16), (Edge.enc a16).length = 6, (a16.To == c3) = false])
          (by kernel_rfl) ⟨lenOb, h7, h9, rowOb h10, rfl, h11, h17, rowOb h18, rfl, h19, trivial⟩ ?_
        exact hn
  · have hx := Option.some.inj hx
    subst hx
    refine WK.run (an := [.lp, .reg [(3, none, .val (.pv (.int .i64 ((c5.length : Nat) : Int))))], .br false]) (kt := [5]) (ko := [(103, 101)]) (k' := [.code (sub b55 [1, 1, 1, 0]), .code (sub b55 [1, 1, 1, 1])]) (σ' := ⟨41, [(5, .hd 101 0 ((s.2.map Edge.enc).length) 6)], [(101, .sl false 6 (s.2.map Edge.enc))]⟩) (ps := [AV.pv (.int .i64 ((c5.map Edge.enc).length : Nat)) = .pv (.int .i64 (c5.length : Nat)), (decide (s.1 < ((c5.length : Nat) : Int))) = false])
      (by kernel_rfl) ⟨lenOb, h7, trivial⟩ ?_
    exact hn

noncomputable def clearwayref03_At (v1 : Graph) (v2 : Int) : Option (List Edge) :=
  bd (loopN fuel (clearwayref03_At.l0 v2 v1.Vertices v1.Edges v1.Depots) (0, [])) fun q24 =>
  some q24

theorem clearwayref03_At.ok (v1 : Graph) (v2 : Int) {x : (List Edge)} (hx : clearwayref03_At v1 v2 = some x) :
    Spec Try.prog 55 [.aggp [.sl (v1.Vertices.map Vertex.enc), .sl (v1.Edges.map Edge.enc), .sl (v1.Depots.map eInt)], .pv (.int .i64 v2)] [] (.pv (.sl (x.map Edge.enc))) [] := by
  refine Spec.of (c := b55) Try.func55 rfl rfl rfl ?_
  unfold clearwayref03_At at hx
  refine bd_ok hx fun q24 e25 hx => ?_
  refine WK.run (an := [.reg [(0, none, .nm 1003), (1, none, .val (.pv (.sl ([].map Edge.enc))))], .new 1005 6, .reg [(0, none, .val (.hd 1005 0 0 6))], .reg []]) (kt := [1, 2, 5, 6]) (ko := [(1003, 101), (1005, 103)]) (k' := [.code (sub b55 [1, 1, 0, 1, 0]), .inBlock 0, .code (sub b55 [1, 1, 1])]) (σ' := clearwayref03_At.l0.enc v2 v1.Vertices v1.Edges v1.Depots (0, [])) (ps := [])
    (by kernel_rfl) trivial ?_
  refine WK.enterLoop (clearwayref03_At.l0.ok v2 v1.Vertices v1.Edges v1.Depots _ _ _ _ e25 ?_)
  have hx := Option.some.inj hx
  subst hx
  refine WK.run (an := [.reg []]) (kt := [4]) (ko := [(101, 101)]) (k' := [.code (sub b55 [1, 1, 1, 1])]) (σ' := ⟨41, [(4, .hd 101 0 ((q24.map Edge.enc).length) 6)], [(101, .sl false 6 (q24.map Edge.enc))]⟩) (ps := [])
    (by kernel_rfl) trivial ?_
  exact WK.ret (fn := Try.f55) Try.func55 (frz := [101]) (esc := []) (ps := [(q24.map Edge.enc).length = (q24.map Edge.enc).length]) (by kernel_rfl) ⟨rfl, trivial⟩

noncomputable abbrev b44 : Code := body Try.f44
noncomputable def clearwayref03_Other (v1 : Edge) (v2 : Int) : Option Int :=
  br (v1.From == v2) (
    some v1.To) (
    br (v1.To == v2) (
      some v1.From) (
      some (-1)))

theorem clearwayref03_Other.ok (v1 : Edge) (v2 : Int) {x : Int} (hx : clearwayref03_Other v1 v2 = some x) :
    Spec Try.prog 44 [.aggp [.int .i64 v1.ID, .int .i64 v1.From, .int .i64 v1.To, .bool v1.Directed, .int .i64 v1.Weight, .int .i64 v1.Cap], .pv (.int .i64 v2)] [] (.pv (.int .i64 x)) [] := by
  refine Spec.of (c := b44) Try.func44 rfl rfl rfl ?_
  unfold clearwayref03_Other at hx
  refine br_ok hx (fun h3 hx => ?_) (fun h3 hx => ?_)
  · have hx := Option.some.inj hx
    subst hx
    refine WK.run (an := [.reg [(0, none, .nm 1003)], .reg [], .br true, .reg []]) (kt := [4]) (ko := []) (k' := [.code (sub b44 [1, 0, 1, 0, 1]), .code (sub b44 [1, 1])]) (σ' := ⟨17, [(4, .pv (.int .i64 v1.To))], []⟩) (ps := [(v1.From == v2) = true])
      (by kernel_rfl) ⟨h3, trivial⟩ ?_
    exact WK.ret (fn := Try.f44) Try.func44 (frz := []) (esc := []) (ps := []) (by kernel_rfl) trivial
  · refine br_ok hx (fun h4 hx => ?_) (fun h4 hx => ?_)
    · have hx := Option.some.inj hx
      subst hx
      refine WK.run (an := [.reg [(0, none, .nm 1003)], .reg [], .br false, .reg [], .br true, .reg []]) (kt := [4]) (ko := []) (k' := [.code (sub b44 [1, 1, 0, 1, 0, 1]), .code (sub b44 [1, 1, 1])]) (σ' := ⟨17, [(4, .pv (.int .i64 v1.From))], []⟩) (ps := [(v1.From == v2) = false, (v1.To == v2) = true])
        (by kernel_rfl) ⟨h3, h4, trivial⟩ ?_
      exact WK.ret (fn := Try.f44) Try.func44 (frz := []) (esc := []) (ps := []) (by kernel_rfl) trivial
    · have hx := Option.some.inj hx
      subst hx
      refine WK.run (an := [.reg [(0, none, .nm 1003)], .reg [], .br false, .reg [], .br false, .reg []]) (kt := [4]) (ko := []) (k' := [.code (sub b44 [1, 1, 1, 1])]) (σ' := ⟨17, [(4, .pv (.int .i64 (-1)))], []⟩) (ps := [(v1.From == v2) = false, (v1.To == v2) = false])
        (by kernel_rfl) ⟨h3, h4, trivial⟩ ?_
      exact WK.ret (fn := Try.f44) Try.func44 (frz := []) (esc := []) (ps := []) (by kernel_rfl) trivial

noncomputable abbrev b27 : Code := body Try.f27
noncomputable def clearwayref07_View.l0 (c23 : List Named) (c24 : Int) (c25 : Int) (c26 : Int) (c27 : Int) (c28 : List Edge) (c29 : List Int) (c30 : List Named) (s : Bool × Int) : Option (Nx (Bool × Int) Bool) :=
  br (decide (s.2 < ((c28.length : Nat) : Int))) (
    br s.1 (
      some (.cont (true, (IntKind.i64.wrap (s.2 + 1))))) (
      getR c28 s.2 fun a33 =>
      bd (clearwayref03_Other a33 c24) fun y36 =>
      getR c23 c25 fun a38 =>
      some (.cont ((y36 == a38.ID), (IntKind.i64.wrap (s.2 + 1)))))) (
    some (.done s.1))

abbrev clearwayref07_View.l0.enc (c23 : List Named) (c24 : Int) (c25 : Int) (c26 : Int) (c27 : Int) (c28 : List Edge) (c29 : List Int) (c30 : List Named) (s : Bool × Int) : St := ⟨87, [(1, .pv (.sl (c23.map Named.enc))), (2, .pv (.int .i64 c24)), (6, .ref 101 0 0 0), (8, .ref 103 0 0 0), (9, .pv (.int .i64 c25)), (10, .pv (.bool s.1)), (11, .pv (.int .i64 s.2))], [(101, .varp [.int .i64 0, .int .i64 0, .sl ([].map eInt), .sl ([].map Edge.enc), .sl ([].map Named.enc)]), (103, .var [.pv (.int .i64 c26), .pv (.int .i64 c27), .hd 105 0 ((c29.map eInt).length) 1, .pv (.sl (c28.map Edge.enc)), .hd 107 0 ((c30.map Named.enc).length) 2]), (105, .sl false 1 (c29.map eInt)), (107, .sl false 2 (c30.map Named.enc))]⟩

abbrev clearwayref07_View.l0.post (c23 : List Named) (c24 : Int) (c25 : Int) (c26 : Int) (c27 : Int) (c28 : List Edge) (c29 : List Int) (c30 : List Named) (r : AV) (outs : List AObj) (q : Bool) : Prop := WK Try.prog (27, 0) [.code (sub b27 [1, 1, 1, 1, 0, 1, 0, 0, 1, 0, 0, 1, 1, 0]), .code (sub b27 [1, 1, 1, 1, 0, 1, 0, 0, 1, 0, 0, 1, 1, 1]), .inBlock 1, .code (sub b27 [1, 1, 1, 1, 0, 1, 0, 0, 1, 1]), .inLoop (sub b27 [1, 1, 1, 1, 0, 1, 0, 0]), .inBlock 0, .code (sub b27 [1, 1, 1, 1, 1])] ⟨87, [(1, .pv (.sl (c23.map Named.enc))), (2, .pv (.int .i64 c24)), (6, .ref 101 0 0 0), (8, .ref 103 0 0 0), (9, .pv (.int .i64 c25)), (10, .pv (.bool q))], [(101, .varp [.int .i64 0, .int .i64 0, .sl ([].map eInt), .sl ([].map Edge.enc), .sl ([].map Named.enc)]), (103, .var [.pv (.int .i64 c26), .pv (.int .i64 c27), .hd 105 0 ((c29.map eInt).length) 1, .pv (.sl (c28.map Edge.enc)), .hd 107 0 ((c30.map Named.enc).length) 2]), (105, .sl false 1 (c29.map eInt)), (107, .sl false 2 (c30.map Named.enc))]⟩ r outs

theorem clearwayref07_View.l0.ok (c23 : List Named) (c24 : Int) (c25 : Int) (c26 : Int) (c27 : Int) (c28 : List Edge) (c29 : List Int) (c30 : List Named) (r : AV) (outs : List AObj) (s : Bool × Int) (q : Bool) (h : loopN fuel (clearwayref07_View.l0 c23 c24 c25 c26 c27 c28 c29 c30) s = some q) (hd : clearwayref07_View.l0.post c23 c24 c25 c26 c27 c28 c29 c30 r outs q) :
    WK Try.prog (27, 0) [.inLoop (sub b27 [1, 1, 1, 1, 0, 1, 0, 0, 1, 0, 0, 1, 0, 1, 0, 0]), .inBlock 2, .code (sub b27 [1, 1, 1, 1, 0, 1, 0, 0, 1, 0, 0, 1, 1]), .inBlock 1, .code (sub b27 [1, 1, 1, 1, 0, 1, 0, 0, 1, 1]), .inLoop (sub b27 [1, 1, 1, 1, 0, 1, 0, 0]), .inBlock 0, .code (sub b27 [1, 1, 1, 1, 1])] (clearwayref07_View.l0.enc c23 c24 c25 c26 c27 c28 c29 c30 s) r outs := by
  refine WK.loop (clearwayref07_View.l0.enc c23 c24 c25 c26 c27 c28 c29 c30) (clearwayref07_View.l0 c23 c24 c25 c26 c27 c28 c29 c30) (clearwayref07_View.l0.post c23 c24 c25 c26 c27 c28 c29 c30 r outs) ?_ fuel s q h hd
  intro s x hx hn
  unfold clearwayref07_View.l0 at hx
  refine br_ok hx (fun h31 hx => ?_) (fun h31 hx => ?_)
  · refine br_ok hx (fun h32 hx => ?_) (fun h32 hx => ?_)
    · have hx := Option.some.inj hx
      subst hx
      refine WK.run (an := [.lp, .reg [(3, none, .val (.pv (.int .i64 ((c28.length : Nat) : Int))))], .br true, .draw [0, 1, 2, 3, 4, 5, 6, 7, 8, 9, 10, 11, 12, 13, 14, 15, 16] [(2, some true, .no), (3, some true, .no), (4, some true, .no), (5, some true, .no), (6, some true, .no), (7, some true, .no), (8, some true, .no), (9, some true, .no), (10, some true, .no), (11, some true, .no), (12, some true, .no), (13, some true, .no), (14, some true, .no), (15, none, .bit true)], .reg []]) (kt := [1, 2, 6, 8, 9, 10, 11]) (ko := [(101, 101), (103, 103), (105, 105), (107, 107)]) (k' := [.inLoop (sub b27 [1, 1, 1, 1, 0, 1, 0, 0, 1, 0, 0, 1, 0, 1, 0, 0]), .inBlock 2, .code (sub b27 [1, 1, 1, 1, 0, 1, 0, 0, 1, 0, 0, 1, 1]), .inBlock 1, .code (sub b27 [1, 1, 1, 1, 0, 1, 0, 0, 1, 1]), .inLoop (sub b27 [1, 1, 1, 1, 0, 1, 0, 0]), .inBlock 0, .code (sub b27 [1, 1, 1, 1, 1])]) (σ' := clearwayref07_View.l0.enc c23 c24 c25 c26 c27 c28 c29 c30 (true, (IntKind.i64.wrap (s.2 + 1)))) (ps := [AV.pv (.int .i64 ((c28.map Edge.enc).length : Nat)) = .pv (.int .i64 (c28.length : Nat)), (decide (s.2 < ((c28.length : Nat) : Int))) = true, s.1 = true, s.1 = true, s.1 = true, s.1 = true, s.1 = true, s.1 = true, s.1 = true, s.1 = true, s.1 = true, s.1 = true, s.1 = true, s.1 = true, s.1 = true, s.1 = true])
        (by kernel_rfl) ⟨lenOb, h31, h32, h32, h32, h32, h32, h32, h32, h32, h32, h32, h32, h32, h32, h32, trivial⟩ ?_
      exact hn
    · refine getR_ok hx fun a33 h34 h35 hx => ?_
      refine bd_ok hx fun y36 e37 hx => ?_
      refine getR_ok hx fun a38 h39 h40 hx => ?_
      have hx := Option.some.inj hx
      subst hx
      refine WK.run (an := [.lp, .reg [(3, none, .val (.pv (.int .i64 ((c28.length : Nat) : Int))))], .br true, .draw [0, 1, 2, 3, 4, 5, 6, 7, 8, 9, 10, 11, 12, 13, 14, 15, 16] [(2, some false, .no), (3, some false, .no), (4, some false, .no), (5, some false, .row (Edge.enc a33)), (6, some false, .no), (7, some false, .no), (8, some false, .call [] [] (.pv (.int .i64 y36)) [] []), (9, some false, .no), (10, some false, .no), (11, some false, .row (Named.enc a38)), (12, some false, .no), (13, some false, .no), (14, some false, .no), (15, none, .bit false)], .reg []]) (kt := [1, 2, 6, 8, 9, 10, 11]) (ko := [(101, 101), (103, 103), (105, 105), (107, 107)]) (k' := [.inLoop (sub b27 [1, 1, 1, 1, 0, 1, 0, 0, 1, 0, 0, 1, 0, 1, 0, 0]), .inBlock 2, .code (sub b27 [1, 1, 1, 1, 0, 1, 0, 0, 1, 0, 0, 1, 1]), .inBlock 1, .code (sub b27 [1, 1, 1, 1, 0, 1, 0, 0, 1, 1]), .inLoop (sub b27 [1, 1, 1, 1, 0, 1, 0, 0]), .inBlock 0, .code (sub b27 [1, 1, 1, 1, 1])]) (σ' := clearwayref07_View.l0.enc c23 c24 c25 c26 c27 c28 c29 c30 ((y36 == a38.ID), (IntKind.i64.wrap (s.2 + 1)))) (ps := [AV.pv (.int .i64 ((c28.map Edge.enc).length : Nat)) = .pv (.int .i64 (c28.length : Nat)), (decide (s.2 < ((c28.length : Nat) : Int))) = true, s.1 = false, s.1 = false, s.1 = false, s.1 = false, 0 ≤ (s.2 : Int), (c28.map Edge.enc)[(s.2 : Int).toNat]? = some (Edge.enc a33), (Edge.enc a33).length = 6, s.1 = false, s.1 = false, s.1 = false, Spec Try.prog 44 [.aggp [.int .i64 a33.ID, .int .i64 a33.From, .int .i64 a33.To, .bool a33.Directed, .int .i64 a33.Weight, .int .i64 a33.Cap], .pv (.int .i64 c24)] [] (.pv (.int .i64 y36)) [], s.1 = false, s.1 = false, s.1 = false, 0 ≤ (c25 : Int), (c23.map Named.enc)[(c25 : Int).toNat]? = some (Named.enc a38), (Named.enc a38).length = 2, s.1 = false, s.1 = false, s.1 = false, s.1 = false])
        (by kernel_rfl) ⟨lenOb, h31, h32, h32, h32, h32, h34, rowOb h35, rfl, h32, h32, h32, clearwayref03_Other.ok a33 c24 e37, h32, h32, h32, h39, rowOb h40, rfl, h32, h32, h32, h32, trivial⟩ ?_
      exact hn
  · have hx := Option.some.inj hx
    subst hx
    refine WK.run (an := [.lp, .reg [(3, none, .val (.pv (.int .i64 ((c28.length : Nat) : Int))))], .br false]) (kt := [1, 2, 6, 8, 9, 10]) (ko := [(101, 101), (103, 103), (105, 105), (107, 107)]) (k' := [.code (sub b27 [1, 1, 1, 1, 0, 1, 0, 0, 1, 0, 0, 1, 1, 0]), .code (sub b27 [1, 1, 1, 1, 0, 1, 0, 0, 1, 0, 0, 1, 1, 1]), .inBlock 1, .code (sub b27 [1, 1, 1, 1, 0, 1, 0, 0, 1, 1]), .inLoop (sub b27 [1, 1, 1, 1, 0, 1, 0, 0]), .inBlock 0, .code (sub b27 [1, 1, 1, 1, 1])]) (σ' := ⟨87, [(1, .pv (.sl (c23.map Named.enc))), (2, .pv (.int .i64 c24)), (6, .ref 101 0 0 0), (8, .ref 103 0 0 0), (9, .pv (.int .i64 c25)), (10, .pv (.bool s.1))], [(101, .varp [.int .i64 0, .int .i64 0, .sl ([].map eInt), .sl ([].map Edge.enc), .sl ([].map Named.enc)]), (103, .var [.pv (.int .i64 c26), .pv (.int .i64 c27), .hd 105 0 ((c29.map eInt).length) 1, .pv (.sl (c28.map Edge.enc)), .hd 107 0 ((c30.map Named.enc).length) 2]), (105, .sl false 1 (c29.map eInt)), (107, .sl false 2 (c30.map Named.enc))]⟩) (ps := [AV.pv (.int .i64 ((c28.map Edge.enc).length : Nat)) = .pv (.int .i64 (c28.length : Nat)), (decide (s.2 < ((c28.length : Nat) : Int))) = false])
      (by kernel_rfl) ⟨lenOb, h31, trivial⟩ ?_
    exact hn

noncomputable def clearwayref07_View.l1 (c13 : List Named) (c14 : Int) (c15 : Int) (c16 : Int) (c17 : List Edge) (c18 : List Int) (s : Int × (List Named)) : Option (Nx (Int × (List Named)) (List Named)) :=
  br (decide (s.1 < ((c13.length : Nat) : Int))) (
    getR c13 s.1 fun a20 =>
    bd (loopN fuel (clearwayref07_View.l0 c13 c14 s.1 c15 c16 c17 c18 s.2) ((a20.ID == c14), 0)) fun q23 =>
    br q23 (
      getR c13 s.1 fun a26 =>
      getR c13 s.1 fun a29 =>
      gd (a29.Label.length ≤ bigLen) <|
      gd ((s.2 ++ [(Named.mk a26.ID a29.Label)]).length ≤ bigLen) <|
      some (.cont ((IntKind.i64.wrap (s.1 + 1)), (s.2 ++ [(Named.mk a26.ID a29.Label)])))) (
      some (.cont ((IntKind.i64.wrap (s.1 + 1)), s.2)))) (
    some (.done s.2))

abbrev clearwayref07_View.l1.enc (c13 : List Named) (c14 : Int) (c15 : Int) (c16 : Int) (c17 : List Edge) (c18 : List Int) (s : Int × (List Named)) : St := ⟨87, [(1, .pv (.sl (c13.map Named.enc))), (2, .pv (.int .i64 c14)), (6, .ref 101 0 0 0), (8, .ref 103 0 0 0), (9, .pv (.int .i64 s.1))], [(101, .varp [.int .i64 0, .int .i64 0, .sl ([].map eInt), .sl ([].map Edge.enc), .sl ([].map Named.enc)]), (103, .var [.pv (.int .i64 c15), .pv (.int .i64 c16), .hd 105 0 ((c18.map eInt).length) 1, .pv (.sl (c17.map Edge.enc)), .hd 107 0 ((s.2.map Named.enc).length) 2]), (105, .sl false 1 (c18.map eInt)), (107, .sl false 2 (s.2.map Named.enc))]⟩

abbrev clearwayref07_View.l1.post (c13 : List Named) (c14 : Int) (c15 : Int) (c16 : Int) (c17 : List Edge) (c18 : List Int) (r : AV) (outs : List AObj) (q : (List Named)) : Prop := WK Try.prog (27, 0) [.code (sub b27 [1, 1, 1, 1, 1, 0]), .code (sub b27 [1, 1, 1, 1, 1, 1])] ⟨87, [(6, .ref 101 0 0 0), (8, .ref 103 0 0 0)], [(101, .varp [.int .i64 0, .int .i64 0, .sl ([].map eInt), .sl ([].map Edge.enc), .sl ([].map Named.enc)]), (103, .var [.pv (.int .i64 c15), .pv (.int .i64 c16), .hd 105 0 ((c18.map eInt).length) 1, .pv (.sl (c17.map Edge.enc)), .hd 107 0 ((q.map Named.enc).length) 2]), (105, .sl false 1 (c18.map eInt)), (107, .sl false 2 (q.map Named.enc))]⟩ r outs

theorem clearwayref07_View.l1.ok (c13 : List Named) (c14 : Int) (c15 : Int) (c16 : Int) (c17 : List Edge) (c18 : List Int) (r : AV) (outs : List AObj) (s : Int × (List Named)) (q : (List Named)) (h : loopN fuel (clearwayref07_View.l1 c13 c14 c15 c16 c17 c18) s = some q) (hd : clearwayref07_View.l1.post c13 c14 c15 c16 c17 c18 r outs q) :
    WK Try.prog (27, 0) [.inLoop (sub b27 [1, 1, 1, 1, 0, 1, 0, 0]), .inBlock 0, .code (sub b27 [1, 1, 1, 1, 1])] (clearwayref07_View.l1.enc c13 c14 c15 c16 c17 c18 s) r outs := by
  refine WK.loop (clearwayref07_View.l1.enc c13 c14 c15 c16 c17 c18) (clearwayref07_View.l1 c13 c14 c15 c16 c17 c18) (clearwayref07_View.l1.post c13 c14 c15 c16 c17 c18 r outs) ?_ fuel s q h hd
  intro s x hx hn
  unfold clearwayref07_View.l1 at hx
  refine br_ok hx (fun h19 hx => ?_) (fun h19 hx => ?_)
  · refine getR_ok hx fun a20 h21 h22 hx => ?_
    refine bd_ok hx fun q23 e24 hx => ?_
    refine WK.run (an := [.lp, .reg [(2, none, .val (.pv (.int .i64 ((c13.length : Nat) : Int))))], .br true, .reg [(2, none, .row (Named.enc a20))], .reg []]) (kt := [1, 2, 6, 8, 9, 10, 11]) (ko := [(101, 101), (103, 103), (105, 105), (107, 107)]) (k' := [.code (sub b27 [1, 1, 1, 1, 0, 1, 0, 0, 1, 0, 0, 1, 0, 1, 0]), .inBlock 2, .code (sub b27 [1, 1, 1, 1, 0, 1, 0, 0, 1, 0, 0, 1, 1]), .inBlock 1, .code (sub b27 [1, 1, 1, 1, 0, 1, 0, 0, 1, 1]), .inLoop (sub b27 [1, 1, 1, 1, 0, 1, 0, 0]), .inBlock 0, .code (sub b27 [1, 1, 1, 1, 1])]) (σ' := clearwayref07_View.l0.enc c13 c14 s.1 c15 c16 c17 c18 s.2 ((a20.ID == c14), 0)) (ps := [AV.pv (.int .i64 ((c13.map Named.enc).length : Nat)) = .pv (.int .i64 (c13.length : Nat)), (decide (s.1 < ((c13.length : Nat) : Int))) = true, 0 ≤ (s.1 : Int), (c13.map Named.enc)[(s.1 : Int).toNat]? = some (Named.enc a20), (Named.enc a20).length = 2])
      (by kernel_rfl) ⟨lenOb, h19, h21, rowOb h22, rfl, trivial⟩ ?_
    refine WK.enterLoop (clearwayref07_View.l0.ok c13 c14 s.1 c15 c16 c17 c18 s.2 _ _ _ _ e24 ?_)
    refine br_ok hx (fun h25 hx => ?_) (fun h25 hx => ?_)
    · refine getR_ok hx fun a26 h27 h28 hx => ?_
      refine getR_ok hx fun a29 h30 h31 hx => ?_
      refine gd_ok hx fun h32 hx => ?_
      refine gd_ok hx fun h33 hx => ?_
      have hx := Option.some.inj hx
      subst hx
      refine WK.run (an := [.reg [], .br true, .draw [0, 1, 2, 3, 4, 5, 6, 7, 8, 9, 10, 11, 12, 13, 14, 15, 16, 17, 18] [(4, none, .row (Named.enc a26)), (7, none, .nm 1023), (10, none, .row (Named.enc a29)), (13, none, .fz 1025 (.app 1025 (a29.Label.map eInt))), (15, none, .nm 1027), (16, none, .app 1029 ((s.2 ++ [(Named.mk a26.ID a29.Label)]).map Named.enc))], .reg []]) (kt := [1, 2, 6, 8, 9]) (ko := [(101, 101), (103, 103), (105, 105), (1029, 107)]) (k' := [.inLoop (sub b27 [1, 1, 1, 1, 0, 1, 0, 0]), .inBlock 0, .code (sub b27 [1, 1, 1, 1, 1])]) (σ' := clearwayref07_View.l1.enc c13 c14 c15 c16 c17 c18 ((IntKind.i64.wrap (s.1 + 1)), (s.2 ++ [(Named.mk a26.ID a29.Label)]))) (ps := [q23 = true, 0 ≤ (s.1 : Int), (c13.map Named.enc)[(s.1 : Int).toNat]? = some (Named.enc a26), (Named.enc a26).length = 2, 1 = 1, 0 ≤ (s.1 : Int), (c13.map Named.enc)[(s.1 : Int).toNat]? = some (Named.enc a29), (Named.enc a29).length = 2, 0 + 0 = ([].map eInt).length, ([].map eInt).drop 0 ++ (a29.Label.map eInt) = (a29.Label.map eInt), (a29.Label.map eInt).length ≤ bigLen, ∀ r ∈ (a29.Label.map eInt), r.length = 1, (a29.Label.map eInt).length = (a29.Label.map eInt).length, 2 = 2, 2 = 2, 0 + 1 ≤ ([(Named.mk a26.ID a29.Label)].map Named.enc).length, 0 + ((s.2.map Named.enc).length) = (s.2.map Named.enc).length, (s.2.map Named.enc).drop 0 ++ (cut1 ([(Named.mk a26.ID a29.Label)].map Named.enc) 0 1) = ((s.2 ++ [(Named.mk a26.ID a29.Label)]).map Named.enc), ((s.2 ++ [(Named.mk a26.ID a29.Label)]).map Named.enc).length ≤ bigLen, ∀ r ∈ (cut1 ([(Named.mk a26.ID a29.Label)].map Named.enc) 0 1), r.length = 2, 1 = 1])
        (by kernel_rfl) ⟨h25, h27, rowOb h28, rfl, rfl, h30, rowOb h31, rfl, Nat.zero_add _, by simp [cut1, List.take_of_length_le], bigOb h32, map_len fun _ => rfl, rfl, rfl, rfl, Nat.le_of_eq (Nat.zero_add _), Nat.zero_add _, by simp [cut1, List.take_of_length_le], bigOb h33, one_len rfl, rfl, trivial⟩ ?_
      exact hn
    · have hx := Option.some.inj hx
      subst hx
      refine WK.run (an := [.reg [], .br false, .reg []]) (kt := [1, 2, 6, 8, 9]) (ko := [(101, 101), (103, 103), (105, 105), (107, 107)]) (k' := [.inLoop (sub b27 [1, 1, 1, 1, 0, 1, 0, 0]), .inBlock 0, .code (sub b27 [1, 1, 1, 1, 1])]) (σ' := clearwayref07_View.l1.enc c13 c14 c15 c16 c17 c18 ((IntKind.i64.wrap (s.1 + 1)), s.2)) (ps := [q23 = false])
        (by kernel_rfl) ⟨h25, trivial⟩ ?_
      exact hn
  · have hx := Option.some.inj hx
    subst hx
    refine WK.run (an := [.lp, .reg [(2, none, .val (.pv (.int .i64 ((c13.length : Nat) : Int))))], .br false]) (kt := [6, 8]) (ko := [(101, 101), (103, 103), (105, 105), (107, 107)]) (k' := [.code (sub b27 [1, 1, 1, 1, 1, 0]), .code (sub b27 [1, 1, 1, 1, 1, 1])]) (σ' := ⟨87, [(6, .ref 101 0 0 0), (8, .ref 103 0 0 0)], [(101, .varp [.int .i64 0, .int .i64 0, .sl ([].map eInt), .sl ([].map Edge.enc), .sl ([].map Named.enc)]), (103, .var [.pv (.int .i64 c15), .pv (.int .i64 c16), .hd 105 0 ((c18.map eInt).length) 1, .pv (.sl (c17.map Edge.enc)), .hd 107 0 ((s.2.map Named.enc).length) 2]), (105, .sl false 1 (c18.map eInt)), (107, .sl false 2 (s.2.map Named.enc))]⟩) (ps := [AV.pv (.int .i64 ((c13.map Named.enc).length : Nat)) = .pv (.int .i64 (c13.length : Nat)), (decide (s.1 < ((c13.length : Nat) : Int))) = false])
      (by kernel_rfl) ⟨lenOb, h19, trivial⟩ ?_
    exact hn

noncomputable def clearwayref07_View (v1 : Graph) (v2 : List Named) (v3 : Int) : Option View :=
  bd (clearwayref03_Place v1 v3) fun y4 =>
  gd (v1.Depots.length ≤ bigLen) <|
  bd (clearwayref03_At v1 v3) fun y7 =>
  br (decide (y4 ≥ 0)) (
    getR v1.Vertices y4 fun a10 =>
    bd (loopN fuel (clearwayref07_View.l1 v2 v3 a10.ID a10.Side y7 v1.Depots) (0, [])) fun q34 =>
    some (View.mk a10 v1.Depots y7 q34)) (
    bd (loopN fuel (clearwayref07_View.l1 v2 v3 0 0 y7 v1.Depots) (0, [])) fun q36 =>
    some (View.mk (Vertex.mk 0 0) v1.Depots y7 q36))

theorem clearwayref07_View.ok (v1 : Graph) (v2 : List Named) (v3 : Int) {x : View} (hx : clearwayref07_View v1 v2 v3 = some x) :
    Spec Try.prog 27 [.aggp [.sl (v1.Vertices.map Vertex.enc), .sl (v1.Edges.map Edge.enc), .sl (v1.Depots.map eInt)], .pv (.sl (v2.map Named.enc)), .pv (.int .i64 v3)] [] (.aggp [.int .i64 x.Vertex.ID, .int .i64 x.Vertex.Side, .sl (x.Depots.map eInt), .sl (x.Edges.map Edge.enc), .sl (x.Labels.map Named.enc)]) [] := by
  refine Spec.of (c := b27) Try.func27 rfl rfl rfl ?_
  unfold clearwayref07_View at hx
  refine bd_ok hx fun y4 e5 hx => ?_
  refine gd_ok hx fun h6 hx => ?_
  refine bd_ok hx fun y7 e8 hx => ?_
  refine br_ok hx (fun h9 hx => ?_) (fun h9 hx => ?_)
  · refine getR_ok hx fun a10 h11 h12 hx => ?_
    refine bd_ok hx fun q34 e35 hx => ?_
    refine WK.run (an := [.reg [(0, none, .nm 1003), (1, none, .nmv 1005 (.aggp [.int .i64 0, .int .i64 0, .sl ([].map eInt), .sl ([].map Edge.enc), .sl ([].map Named.enc)]))], .reg [(2, none, .call [] [] (.pv (.int .i64 y4)) [] [])], .new 1011 2, .draw [0, 1, 2, 3, 4, 5, 6, 7, 8, 9] [(0, none, .nm 1007), (3, none, .app 1009 (v1.Depots.map eInt)), (6, none, .call [] [] (.pv (.sl (y7.map Edge.enc))) [] []), (7, none, .val (.agg [.pv (.int .i64 0), .pv (.int .i64 0), .hd 1009 0 ((v1.Depots.map eInt).length) 1, .pv (.sl (y7.map Edge.enc)), .hd 1011 0 0 2])), (8, none, .nmv 1013 (.aggp [.int .i64 0, .int .i64 0, .sl ([].map eInt), .sl ([].map Edge.enc), .sl ([].map Named.enc)]))], .reg [], .br true, .reg [(3, none, .row (Vertex.enc a10))], .reg []]) (kt := [1, 2, 6, 8, 9]) (ko := [(1005, 101), (1013, 103), (1009, 105), (1011, 107)]) (k' := [.code (sub b27 [1, 1, 1, 1, 0, 1, 0]), .inBlock 0, .code (sub b27 [1, 1, 1, 1, 1])]) (σ' := clearwayref07_View.l1.enc v2 v3 a10.ID a10.Side y7 v1.Depots (0, [])) (ps := [AV.pv (.int .i64 0) = .pv (.int .i64 0), AV.pv (.int .i64 0) = .pv (.int .i64 0), Spec Try.prog 34 [.aggp [.sl (v1.Vertices.map Vertex.enc), .sl (v1.Edges.map Edge.enc), .sl (v1.Depots.map eInt)], .pv (.int .i64 v3)] [] (.pv (.int .i64 y4)) [], 1 = 1, 0 + 0 = ([].map eInt).length, ([].map eInt).drop 0 ++ (v1.Depots.map eInt) = (v1.Depots.map eInt), (v1.Depots.map eInt).length ≤ bigLen, ∀ r ∈ (v1.Depots.map eInt), r.length = 1, Spec Try.prog 55 [.aggp [.sl (v1.Vertices.map Vertex.enc), .sl (v1.Edges.map Edge.enc), .sl (v1.Depots.map eInt)], .pv (.int .i64 v3)] [] (.pv (.sl (y7.map Edge.enc))) [], AV.pv (.int .i64 0) = .pv (.int .i64 0), AV.pv (.int .i64 0) = .pv (.int .i64 0), AV.hd 1009 0 ((v1.Depots.map eInt).length) 1 = .hd 1009 0 ((v1.Depots.map eInt).length) 1, AV.pv (.sl (y7.map Edge.enc)) = .pv (.sl (y7.map Edge.enc)), AV.pv (.int .i64 0) = .pv (.int .i64 0), AV.pv (.int .i64 0) = .pv (.int .i64 0), 5 = 5, (decide (y4 ≥ 0)) = true, 0 ≤ (y4 : Int), (v1.Vertices.map Vertex.enc)[(y4 : Int).toNat]? = some (Vertex.enc a10), (Vertex.enc a10).length = 2, 2 = 2])
      (by kernel_rfl) ⟨rfl, rfl, clearwayref03_Place.ok v1 v3 e5, rfl, Nat.zero_add _, by simp [cut1, List.take_of_length_le], bigOb h6, map_len fun _ => rfl, clearwayref03_At.ok v1 v3 e8, rfl, rfl, rfl, rfl, rfl, rfl, rfl, h9, h11, rowOb h12, rfl, rfl, trivial⟩ ?_
    refine WK.enterLoop (clearwayref07_View.l1.ok v2 v3 a10.ID a10.Side y7 v1.Depots _ _ _ _ e35 ?_)
    have hx := Option.some.inj hx
    subst hx
    refine WK.run (an := [.reg []]) (kt := [6]) (ko := [(101, 101), (105, 103), (107, 105)]) (k' := [.code (sub b27 [1, 1, 1, 1, 1, 1])]) (σ' := ⟨87, [(6, .ref 101 0 0 0)], [(101, .var [.pv (.int .i64 a10.ID), .pv (.int .i64 a10.Side), .hd 103 0 ((v1.Depots.map eInt).length) 1, .pv (.sl (y7.map Edge.enc)), .hd 105 0 ((q34.map Named.enc).length) 2]), (103, .sl false 1 (v1.Depots.map eInt)), (105, .sl false 2 (q34.map Named.enc))]⟩) (ps := [5 = 5])
      (by kernel_rfl) ⟨rfl, trivial⟩ ?_
    exact WK.ret (fn := Try.f27) Try.func27 (frz := [103, 105]) (esc := []) (ps := [(v1.Depots.map eInt).length = (v1.Depots.map eInt).length, (q34.map Named.enc).length = (q34.map Named.enc).length]) (by kernel_rfl) ⟨rfl, rfl, trivial⟩
  · refine bd_ok hx fun q36 e37 hx => ?_
    refine WK.run (an := [.reg [(0, none, .nm 1003), (1, none, .nmv 1005 (.aggp [.int .i64 0, .int .i64 0, .sl ([].map eInt), .sl ([].map Edge.enc), .sl ([].map Named.enc)]))], .reg [(2, none, .call [] [] (.pv (.int .i64 y4)) [] [])], .new 1011 2, .draw [0, 1, 2, 3, 4, 5, 6, 7, 8, 9] [(0, none, .nm 1007), (3, none, .app 1009 (v1.Depots.map eInt)), (6, none, .call [] [] (.pv (.sl (y7.map Edge.enc))) [] []), (7, none, .val (.agg [.pv (.int .i64 0), .pv (.int .i64 0), .hd 1009 0 ((v1.Depots.map eInt).length) 1, .pv (.sl (y7.map Edge.enc)), .hd 1011 0 0 2])), (8, none, .nmv 1013 (.aggp [.int .i64 0, .int .i64 0, .sl ([].map eInt), .sl ([].map Edge.enc), .sl ([].map Named.enc)]))], .reg [], .br false, .reg []]) (kt := [1, 2, 6, 8, 9]) (ko := [(1005, 101), (1013, 103), (1009, 105), (1011, 107)]) (k' := [.code (sub b27 [1, 1, 1, 1, 0, 1, 0]), .inBlock 0, .code (sub b27 [1, 1, 1, 1, 1])]) (σ' := clearwayref07_View.l1.enc v2 v3 0 0 y7 v1.Depots (0, [])) (ps := [AV.pv (.int .i64 0) = .pv (.int .i64 0), AV.pv (.int .i64 0) = .pv (.int .i64 0), Spec Try.prog 34 [.aggp [.sl (v1.Vertices.map Vertex.enc), .sl (v1.Edges.map Edge.enc), .sl (v1.Depots.map eInt)], .pv (.int .i64 v3)] [] (.pv (.int .i64 y4)) [], 1 = 1, 0 + 0 = ([].map eInt).length, ([].map eInt).drop 0 ++ (v1.Depots.map eInt) = (v1.Depots.map eInt), (v1.Depots.map eInt).length ≤ bigLen, ∀ r ∈ (v1.Depots.map eInt), r.length = 1, Spec Try.prog 55 [.aggp [.sl (v1.Vertices.map Vertex.enc), .sl (v1.Edges.map Edge.enc), .sl (v1.Depots.map eInt)], .pv (.int .i64 v3)] [] (.pv (.sl (y7.map Edge.enc))) [], AV.pv (.int .i64 0) = .pv (.int .i64 0), AV.pv (.int .i64 0) = .pv (.int .i64 0), AV.hd 1009 0 ((v1.Depots.map eInt).length) 1 = .hd 1009 0 ((v1.Depots.map eInt).length) 1, AV.pv (.sl (y7.map Edge.enc)) = .pv (.sl (y7.map Edge.enc)), AV.pv (.int .i64 0) = .pv (.int .i64 0), AV.pv (.int .i64 0) = .pv (.int .i64 0), 5 = 5, (decide (y4 ≥ 0)) = false])
      (by kernel_rfl) ⟨rfl, rfl, clearwayref03_Place.ok v1 v3 e5, rfl, Nat.zero_add _, by simp [cut1, List.take_of_length_le], bigOb h6, map_len fun _ => rfl, clearwayref03_At.ok v1 v3 e8, rfl, rfl, rfl, rfl, rfl, rfl, rfl, h9, trivial⟩ ?_
    refine WK.enterLoop (clearwayref07_View.l1.ok v2 v3 0 0 y7 v1.Depots _ _ _ _ e37 ?_)
    have hx := Option.some.inj hx
    subst hx
    refine WK.run (an := [.reg []]) (kt := [6]) (ko := [(101, 101), (105, 103), (107, 105)]) (k' := [.code (sub b27 [1, 1, 1, 1, 1, 1])]) (σ' := ⟨87, [(6, .ref 101 0 0 0)], [(101, .var [.pv (.int .i64 0), .pv (.int .i64 0), .hd 103 0 ((v1.Depots.map eInt).length) 1, .pv (.sl (y7.map Edge.enc)), .hd 105 0 ((q36.map Named.enc).length) 2]), (103, .sl false 1 (v1.Depots.map eInt)), (105, .sl false 2 (q36.map Named.enc))]⟩) (ps := [5 = 5])
      (by kernel_rfl) ⟨rfl, trivial⟩ ?_
    exact WK.ret (fn := Try.f27) Try.func27 (frz := [103, 105]) (esc := []) (ps := [(v1.Depots.map eInt).length = (v1.Depots.map eInt).length, (q36.map Named.enc).length = (q36.map Named.enc).length]) (by kernel_rfl) ⟨rfl, rfl, trivial⟩

noncomputable abbrev b56 : Code := body Try.f56
noncomputable def clearwayref07_pick (v1 : Int) (v2 : Int) : Option Int :=
  br (decide (v1 < 0)) (
    gd (v2 ≠ 0) <|
    some ((IntKind.i64.wrap (0 - (IntKind.i64.wrap (v1 + 1)))).tmod v2)) (
    gd (v2 ≠ 0) <|
    some (v1.tmod v2))

theorem clearwayref07_pick.ok (v1 : Int) (v2 : Int) {x : Int} (hx : clearwayref07_pick v1 v2 = some x) :
    Spec Try.prog 56 [.pv (.int .i64 v1), .pv (.int .i64 v2)] [] (.pv (.int .i64 x)) [] := by
  refine Spec.of (c := b56) Try.func56 rfl rfl rfl ?_
  unfold clearwayref07_pick at hx
  refine br_ok hx (fun h3 hx => ?_) (fun h3 hx => ?_)
  · refine gd_ok hx fun h4 hx => ?_
    have hx := Option.some.inj hx
    subst hx
    refine WK.run (an := [.reg [], .reg [], .br true, .reg [], .reg []]) (kt := [4]) (ko := []) (k' := [.code (sub b56 [1, 1, 1])]) (σ' := ⟨13, [(4, .pv (.int .i64 ((IntKind.i64.wrap (0 - (IntKind.i64.wrap (v1 + 1)))).tmod v2)))], []⟩) (ps := [(decide (v1 < 0)) = true, v2 ≠ 0])
      (by kernel_rfl) ⟨h3, h4, trivial⟩ ?_
    exact WK.ret (fn := Try.f56) Try.func56 (frz := []) (esc := []) (ps := []) (by kernel_rfl) trivial
  · refine gd_ok hx fun h5 hx => ?_
    have hx := Option.some.inj hx
    subst hx
    refine WK.run (an := [.reg [], .reg [], .br false, .reg []]) (kt := [4]) (ko := []) (k' := [.code (sub b56 [1, 1, 1])]) (σ' := ⟨13, [(4, .pv (.int .i64 (v1.tmod v2)))], []⟩) (ps := [(decide (v1 < 0)) = false, v2 ≠ 0])
      (by kernel_rfl) ⟨h3, h5, trivial⟩ ?_
    exact WK.ret (fn := Try.f56) Try.func56 (frz := []) (esc := []) (ps := []) (by kernel_rfl) trivial

noncomputable abbrev b28 : Code := body Try.f28
noncomputable def clearwayref07_Bent.l0 (c14 : List A3_Int) (s : Int × (List (List Int)) × (List NamedR)) : Option (Nx (Int × (List (List Int)) × (List NamedR)) ((List (List Int)) × (List NamedR))) :=
  br (decide (s.1 < ((c14.length : Nat) : Int))) (
    br (decide (s.1 < 4)) (
      br (decide (((s.2.2.length : Nat) : Int) > 0)) (
        getR c14 s.1 fun a18 =>
        bd (clearwayref07_pick a18.x0 ((s.2.2.length : Nat) : Int)) fun y21 =>
        getR c14 s.1 fun a23 =>
        gd (0 ≤ (y21 : Int) ∧ (y21 : Int) < ((s.2.2.length : Nat) : Int)) <|
        bd (s.2.2[(0 + (y21 : Int).toNat)]?) fun a27 =>
        bd (clearwayref07_pick a23.x1 (IntKind.i64.wrap (((a27.Label.len : Nat) : Int) + 1))) fun y29 =>
        gd (0 ≤ (y21 : Int) ∧ (y21 : Int) < ((s.2.2.length : Nat) : Int)) <|
        bd (s.2.2[(0 + (y21 : Int).toNat)]?) fun a32 =>
        br (y29 == ((a32.Label.len : Nat) : Int)) (
          getR c14 s.1 fun a35 =>
          bd (clearwayref07_pick a35.x2 ((s.2.2.length : Nat) : Int)) fun y38 =>
          getR c14 s.1 fun a40 =>
          bd (clearwayref07_pick a40.x2 5) fun y43 =>
          br (y43 == 0) (
            br (decide (y29 > 0)) (
              gd (0 ≤ (y21 : Int) ∧ (y21 : Int) < ((s.2.2.length : Nat) : Int)) <|
              bd (s.2.2[(0 + (y21 : Int).toNat)]?) fun a48 =>
              gd (0 ≤ ((IntKind.i64.wrap (y29 - 1)) : Int)) <|
              gd (((IntKind.i64.wrap (y29 - 1)) : Int) ≤ ((a48.Label.len : Nat) : Int)) <|
              gd (0 ≤ (y21 : Int) ∧ (y21 : Int) < ((s.2.2.length : Nat) : Int)) <|
              bd (s.2.2[(0 + (y21 : Int).toNat)]?) fun a53 =>
              some (.cont ((IntKind.i64.wrap (s.1 + 1)), s.2.1, (s.2.2.set (0 + (y21 : Int).toNat) (NamedR.mk a53.ID (Ref.mk a48.Label.i (a48.Label.off + 0) (((IntKind.i64.wrap (y29 - 1)) : Int).toNat - 0))))))) (
              gd (0 ≤ (y38 : Int) ∧ (y38 : Int) < ((s.2.2.length : Nat) : Int)) <|
              bd (s.2.2[(0 + (y38 : Int).toNat)]?) fun a56 =>
              gd (0 ≤ (y21 : Int) ∧ (y21 : Int) < ((s.2.2.length : Nat) : Int)) <|
              bd (s.2.2[(0 + (y21 : Int).toNat)]?) fun a59 =>
              gd (0 ≤ (y21 : Int) ∧ (y21 : Int) < ((s.2.2.length : Nat) : Int)) <|
              bd (s.2.2[(0 + (y21 : Int).toNat)]?) fun a62 =>
              gd (0 ≤ (y38 : Int) ∧ (y38 : Int) < ((s.2.2.length : Nat) : Int)) <|
              bd ((s.2.2.set (0 + (y21 : Int).toNat) (NamedR.mk a62.ID a56.Label))[(0 + (y38 : Int).toNat)]?) fun a65 =>
              some (.cont ((IntKind.i64.wrap (s.1 + 1)), s.2.1, ((s.2.2.set (0 + (y21 : Int).toNat) (NamedR.mk a62.ID a56.Label)).set (0 + (y38 : Int).toNat) (NamedR.mk a65.ID a59.Label)))))) (
            gd (0 ≤ (y38 : Int) ∧ (y38 : Int) < ((s.2.2.length : Nat) : Int)) <|
            bd (s.2.2[(0 + (y38 : Int).toNat)]?) fun a68 =>
            gd (0 ≤ (y21 : Int) ∧ (y21 : Int) < ((s.2.2.length : Nat) : Int)) <|
            bd (s.2.2[(0 + (y21 : Int).toNat)]?) fun a71 =>
            gd (0 ≤ (y21 : Int) ∧ (y21 : Int) < ((s.2.2.length : Nat) : Int)) <|
            bd (s.2.2[(0 + (y21 : Int).toNat)]?) fun a74 =>
            gd (0 ≤ (y38 : Int) ∧ (y38 : Int) < ((s.2.2.length : Nat) : Int)) <|
            bd ((s.2.2.set (0 + (y21 : Int).toNat) (NamedR.mk a74.ID a68.Label))[(0 + (y38 : Int).toNat)]?) fun a77 =>
            some (.cont ((IntKind.i64.wrap (s.1 + 1)), s.2.1, ((s.2.2.set (0 + (y21 : Int).toNat) (NamedR.mk a74.ID a68.Label)).set (0 + (y38 : Int).toNat) (NamedR.mk a77.ID a71.Label)))))) (
          getR c14 s.1 fun a79 =>
          bd (clearwayref07_pick a79.x2 3) fun y82 =>
          br (y82 == 0) (
            gd (0 ≤ (y21 : Int) ∧ (y21 : Int) < ((s.2.2.length : Nat) : Int)) <|
            bd (s.2.2[(0 + (y21 : Int).toNat)]?) fun a86 =>
            getR c14 s.1 fun a88 =>
            bd (clearwayref07_pick a88.x2 12) fun y91 =>
            gd (0 ≤ (y29 : Int) ∧ (y29 : Int) < ((a86.Label.len : Nat) : Int)) <|
            bd (s.2.1[a86.Label.i]?) fun a94 =>
            bd (a94[(a86.Label.off + (y29 : Int).toNat)]?) fun a95 =>
            some (.cont ((IntKind.i64.wrap (s.1 + 1)), (s.2.1.set a86.Label.i (a94.set (a86.Label.off + (y29 : Int).toNat) (IntKind.i64.wrap (y91 - 2)))), s.2.2))) (
            gd (0 ≤ (y21 : Int) ∧ (y21 : Int) < ((s.2.2.length : Nat) : Int)) <|
            bd (s.2.2[(0 + (y21 : Int).toNat)]?) fun a99 =>
            gd (0 ≤ (y21 : Int) ∧ (y21 : Int) < ((s.2.2.length : Nat) : Int)) <|
            bd (s.2.2[(0 + (y21 : Int).toNat)]?) fun a102 =>
            gd (0 ≤ (y29 : Int) ∧ (y29 : Int) < ((a102.Label.len : Nat) : Int)) <|
            bd (s.2.1[a102.Label.i]?) fun a105 =>
            bd (a105[(a102.Label.off + (y29 : Int).toNat)]?) fun a106 =>
            getR c14 s.1 fun a109 =>
            bd (clearwayref07_pick a109.x2 5) fun y112 =>
            gd (0 ≤ (y29 : Int) ∧ (y29 : Int) < ((a99.Label.len : Nat) : Int)) <|
            bd (s.2.1[a99.Label.i]?) fun a115 =>
            bd (a115[(a99.Label.off + (y29 : Int).toNat)]?) fun a116 =>
            some (.cont ((IntKind.i64.wrap (s.1 + 1)), (s.2.1.set a99.Label.i (a115.set (a99.Label.off + (y29 : Int).toNat) (IntKind.i64.wrap ((IntKind.i64.wrap (a106 + y112)) - 2)))), s.2.2))))) (
        some (.done (s.2.1, s.2.2)))) (
      some (.done (s.2.1, s.2.2)))) (
    some (.done (s.2.1, s.2.2)))

abbrev clearwayref07_Bent.l0.enc (f : Nat) (c14 : List A3_Int) (s : Int × (List (List Int)) × (List NamedR)) : St := ⟨171, [(1, .pv (.sl (c14.map A3_Int.enc))), (5, .hd 101 0 ((s.2.2.map (NamedR.enc f)).length) 2), (7, .pv (.int .i64 s.1))], [(3, .fam false f 1 (s.2.1.map (List.map eInt))), (101, .sl false 2 (s.2.2.map (NamedR.enc f)))]⟩

abbrev clearwayref07_Bent.l0.post (f : Nat) (c14 : List A3_Int) (r : AV) (outs : List AObj) (q : ((List (List Int)) × (List NamedR))) : Prop := WK Try.prog (28, 0) [.code (sub b28 [1, 1, 1, 1, 0]), .code (sub b28 [1, 1, 1, 1, 1])] ⟨171, [(5, .hd 101 0 ((q.2.map (NamedR.enc f)).length) 2)], [(3, .fam false f 1 (q.1.map (List.map eInt))), (101, .sl false 2 (q.2.map (NamedR.enc f)))]⟩ r outs

theorem clearwayref07_Bent.l0.ok (f : Nat) (c14 : List A3_Int) (r : AV) (outs : List AObj) (s : Int × (List (List Int)) × (List NamedR)) (q : ((List (List Int)) × (List NamedR))) (h : loopN fuel (clearwayref07_Bent.l0 c14) s = some q) (hd : clearwayref07_Bent.l0.post f c14 r outs q) :
    WK Try.prog (28, 0) [.inLoop (sub b28 [1, 1, 1, 0, 1, 0, 0]), .inBlock 2, .code (sub b28 [1, 1, 1, 1])] (clearwayref07_Bent.l0.enc f c14 s) r outs := by
  refine WK.loop (clearwayref07_Bent.l0.enc f c14) (clearwayref07_Bent.l0 c14) (clearwayref07_Bent.l0.post f c14 r outs) ?_ fuel s q h hd
  intro s x hx hn
  unfold clearwayref07_Bent.l0 at hx
  refine br_ok hx (fun h15 hx => ?_) (fun h15 hx => ?_)
  · refine br_ok hx (fun h16 hx => ?_) (fun h16 hx => ?_)
    · refine br_ok hx (fun h17 hx => ?_) (fun h17 hx => ?_)
      · refine getR_ok hx fun a18 h19 h20 hx => ?_
        refine bd_ok hx fun y21 e22 hx => ?_
        refine getR_ok hx fun a23 h24 h25 hx => ?_
        refine gd_ok hx fun h26 hx => ?_
        refine bd_ok hx fun a27 h28 hx => ?_
        refine bd_ok hx fun y29 e30 hx => ?_
        refine gd_ok hx fun h31 hx => ?_
        refine bd_ok hx fun a32 h33 hx => ?_
        refine br_ok hx (fun h34 hx => ?_) (fun h34 hx => ?_)
        · refine getR_ok hx fun a35 h36 h37 hx => ?_
          refine bd_ok hx fun y38 e39 hx => ?_
          refine getR_ok hx fun a40 h41 h42 hx => ?_
          refine bd_ok hx fun y43 e44 hx => ?_
          refine br_ok hx (fun h45 hx => ?_) (fun h45 hx => ?_)
          · refine WK.run (an := [.lp, .reg [(2, none, .val (.pv (.int .i64 ((c14.length : Nat) : Int)))), (5, some true, .no), (9, some true, .no), (10, none, .val (.pv (.int .i64 ((s.2.2.length : Nat) : Int))))], .br true, .reg [(2, none, .row (A3_Int.enc a18)), (6, none, .val (.pv (.int .i64 ((s.2.2.length : Nat) : Int)))), (7, none, .call [] [] (.pv (.int .i64 y21)) [] [])], .draw [0, 1, 2, 3, 4, 5, 6, 7, 8, 9, 10, 11, 12, 13] [(2, none, .row (A3_Int.enc a23)), (9, none, .row ((NamedR.enc f) a27)), (12, none, .call [] [] (.pv (.int .i64 y29)) [] [])], .reg [(5, none, .row ((NamedR.enc f) a32))], .br true, .reg [(2, none, .row (A3_Int.enc a35)), (6, none, .val (.pv (.int .i64 ((s.2.2.length : Nat) : Int)))), (7, none, .call [] [] (.pv (.int .i64 y38)) [] [])], .reg [(2, none, .row (A3_Int.enc a40)), (5, none, .call [] [] (.pv (.int .i64 y43)) [] []), (8, some true, .no)]]) (kt := [1, 5, 7, 8, 9, 10, 95]) (ko := [(3, 3), (101, 101)]) (k' := [.code (sub b28 [1, 1, 1, 0, 1, 0, 0, 1, 0, 0, 1, 1, 0, 1, 0, 1, 0, 1]), .code (sub b28 [1, 1, 1, 0, 1, 0, 0, 1, 0, 0, 1, 1, 0, 1, 0, 1, 1]), .code (sub b28 [1, 1, 1, 0, 1, 0, 0, 1, 0, 0, 1, 1, 1]), .inBlock 3, .code (sub b28 [1, 1, 1, 0, 1, 0, 0, 1, 1]), .inLoop (sub b28 [1, 1, 1, 0, 1, 0, 0]), .inBlock 2, .code (sub b28 [1, 1, 1, 1])]) (σ' := ⟨171, [(1, .pv (.sl (c14.map A3_Int.enc))), (5, .hd 101 0 ((s.2.2.map (NamedR.enc f)).length) 2), (7, .pv (.int .i64 s.1)), (8, .pv (.int .i64 y21)), (9, .pv (.int .i64 y29)), (10, .pv (.int .i64 y38)), (95, .pv (.bool (decide (y29 > 0))))], [(3, .fam false f 1 (s.2.1.map (List.map eInt))), (101, .sl false 2 (s.2.2.map (NamedR.enc f)))]⟩) (ps := [AV.pv (.int .i64 ((c14.map A3_Int.enc).length : Nat)) = .pv (.int .i64 (c14.length : Nat)), (decide (s.1 < ((c14.length : Nat) : Int))) = true, (decide (s.1 < 4)) = true, AV.pv (.int .i64 ((s.2.2.map (NamedR.enc f)).length : Nat)) = .pv (.int .i64 (s.2.2.length : Nat)), (decide (((s.2.2.length : Nat) : Int) > 0)) = true, 0 ≤ (s.1 : Int), (c14.map A3_Int.enc)[(s.1 : Int).toNat]? = some (A3_Int.enc a18), (A3_Int.enc a18).length = 3, (0 : Int) ≤ 0, (0 : Int) < ((3 : Nat) : Int), AV.pv (.int .i64 ((s.2.2.map (NamedR.enc f)).length : Nat)) = .pv (.int .i64 (s.2.2.length : Nat)), Spec Try.prog 56 [.pv (.int .i64 a18.x0), .pv (.int .i64 ((s.2.2.length : Nat) : Int))] [] (.pv (.int .i64 y21)) [], 0 ≤ (s.1 : Int), (c14.map A3_Int.enc)[(s.1 : Int).toNat]? = some (A3_Int.enc a23), (A3_Int.enc a23).length = 3, (0 : Int) ≤ 1, (1 : Int) < ((3 : Nat) : Int), 0 ≤ (y21 : Int), (y21 : Int) < (((s.2.2.map (NamedR.enc f)).length : Nat) : Int), (s.2.2.map (NamedR.enc f))[(0 + (y21 : Int).toNat)]? = some ((NamedR.enc f) a27), Spec Try.prog 56 [.pv (.int .i64 a23.x1), .pv (.int .i64 (IntKind.i64.wrap (((a27.Label.len : Nat) : Int) + 1)))] [] (.pv (.int .i64 y29)) [], 0 ≤ (y21 : Int), (y21 : Int) < (((s.2.2.map (NamedR.enc f)).length : Nat) : Int), (s.2.2.map (NamedR.enc f))[(0 + (y21 : Int).toNat)]? = some ((NamedR.enc f) a32), (y29 == ((a32.Label.len : Nat) : Int)) = true, 0 ≤ (s.1 : Int), (c14.map A3_Int.enc)[(s.1 : Int).toNat]? = some (A3_Int.enc a35), (A3_Int.enc a35).length = 3, (0 : Int) ≤ 2, (2 : Int) < ((3 : Nat) : Int), AV.pv (.int .i64 ((s.2.2.map (NamedR.enc f)).length : Nat)) = .pv (.int .i64 (s.2.2.length : Nat)), Spec Try.prog 56 [.pv (.int .i64 a35.x2), .pv (.int .i64 ((s.2.2.length : Nat) : Int))] [] (.pv (.int .i64 y38)) [], 0 ≤ (s.1 : Int), (c14.map A3_Int.enc)[(s.1 : Int).toNat]? = some (A3_Int.enc a40), (A3_Int.enc a40).length = 3, (0 : Int) ≤ 2, (2 : Int) < ((3 : Nat) : Int), Spec Try.prog 56 [.pv (.int .i64 a40.x2), .pv (.int .i64 5)] [] (.pv (.int .i64 y43)) [], (y43 == 0) = true])
              (by kernel_rfl) ⟨lenOb, h15, h16, lenOb, h17, h19, rowOb h20, rfl, by decide, by decide, lenOb, clearwayref07_pick.ok a18.x0 ((s.2.2.length : Nat) : Int) e22, h24, rowOb h25, rfl, by decide, by decide, h26.1, lenLt h26.2, rowOb h28, clearwayref07_pick.ok a23.x1 (IntKind.i64.wrap (((a27.Label.len : Nat) : Int) + 1)) e30, h31.1, lenLt h31.2, rowOb h33, h34, h36, rowOb h37, rfl, by decide, by decide, lenOb, clearwayref07_pick.ok a35.x2 ((s.2.2.length : Nat) : Int) e39, h41, rowOb h42, rfl, by decide, by decide, clearwayref07_pick.ok a40.x2 5 e44, h45, trivial⟩ ?_
            refine br_ok hx (fun h46 hx => ?_) (fun h46 hx => ?_)
            · refine gd_ok hx fun h47 hx => ?_
              refine bd_ok hx fun a48 h49 hx => ?_
              refine gd_ok hx fun h50 hx => ?_
              refine gd_ok hx fun h51 hx => ?_
              refine gd_ok hx fun h52 hx => ?_
              refine bd_ok hx fun a53 h54 hx => ?_
              have hx := Option.some.inj hx
              subst hx
              refine WK.run (an := [.br true, .reg [(6, none, .row ((NamedR.enc f) a48)), (12, none, .rows ((NamedR.enc f) a53) ((s.2.2.set (0 + (y21 : Int).toNat) (NamedR.mk a53.ID (Ref.mk a48.Label.i (a48.Label.off + 0) (((IntKind.i64.wrap (y29 - 1)) : Int).toNat - 0)))).map (NamedR.enc f)))], .reg []]) (kt := [1, 5, 7]) (ko := [(3, 3), (101, 101)]) (k' := [.inLoop (sub b28 [1, 1, 1, 0, 1, 0, 0]), .inBlock 2, .code (sub b28 [1, 1, 1, 1])]) (σ' := ⟨171, [(1, .pv (.sl (c14.map A3_Int.enc))), (5, .hd 101 0 ((s.2.2.map (NamedR.enc f)).length) 2), (7, .pv (.int .i64 (IntKind.i64.wrap (s.1 + 1))))], [(3, .fam false f 1 (s.2.1.map (List.map eInt))), (101, .sl false 2 ((s.2.2.set (0 + (y21 : Int).toNat) (NamedR.mk a53.ID (Ref.mk a48.Label.i (a48.Label.off + 0) (((IntKind.i64.wrap (y29 - 1)) : Int).toNat - 0)))).map (NamedR.enc f)))]⟩) (ps := [(decide (y29 > 0)) = true, 0 ≤ (y21 : Int), (y21 : Int) < (((s.2.2.map (NamedR.enc f)).length : Nat) : Int), (s.2.2.map (NamedR.enc f))[(0 + (y21 : Int).toNat)]? = some ((NamedR.enc f) a48), 0 ≤ ((IntKind.i64.wrap (y29 - 1)) : Int), ((IntKind.i64.wrap (y29 - 1)) : Int) ≤ ((a48.Label.len : Nat) : Int), 0 ≤ (y21 : Int), (y21 : Int) < (((s.2.2.map (NamedR.enc f)).length : Nat) : Int), (s.2.2.map (NamedR.enc f))[(0 + (y21 : Int).toNat)]? = some ((NamedR.enc f) a53), 1 = 1, 1 + 1 ≤ ((NamedR.enc f) a53).length, (s.2.2.map (NamedR.enc f)).set (0 + (y21 : Int).toNat) (splice ((NamedR.enc f) a53) 1 [.fh f (Ref.mk a48.Label.i (a48.Label.off + 0) (((IntKind.i64.wrap (y29 - 1)) : Int).toNat - 0)).i (Ref.mk a48.Label.i (a48.Label.off + 0) (((IntKind.i64.wrap (y29 - 1)) : Int).toNat - 0)).off (Ref.mk a48.Label.i (a48.Label.off + 0) (((IntKind.i64.wrap (y29 - 1)) : Int).toNat - 0)).len 1]) = ((s.2.2.set (0 + (y21 : Int).toNat) (NamedR.mk a53.ID (Ref.mk a48.Label.i (a48.Label.off + 0) (((IntKind.i64.wrap (y29 - 1)) : Int).toNat - 0)))).map (NamedR.enc f))])
                (by kernel_rfl) ⟨h46, h47.1, lenLt h47.2, rowOb h49, h50, h51, h52.1, lenLt h52.2, rowOb h54, rfl, Nat.le_of_ble_eq_true rfl, setOb (f := (NamedR.enc f)) (x := (NamedR.mk a53.ID (Ref.mk a48.Label.i (a48.Label.off + 0) (((IntKind.i64.wrap (y29 - 1)) : Int).toNat - 0)))), trivial⟩ ?_
              refine WK.eq (σ' := clearwayref07_Bent.l0.enc f c14 ((IntKind.i64.wrap (s.1 + 1)), s.2.1, (s.2.2.set (0 + (y21 : Int).toNat) (NamedR.mk a53.ID (Ref.mk a48.Label.i (a48.Label.off + 0) (((IntKind.i64.wrap (y29 - 1)) : Int).toNat - 0)))))) (by simp only [clearwayref07_Bent.l0.enc, List.length_map, List.length_set]) ?_
              exact hn
            · refine gd_ok hx fun h55 hx => ?_
              refine bd_ok hx fun a56 h57 hx => ?_
              refine gd_ok hx fun h58 hx => ?_
              refine bd_ok hx fun a59 h60 hx => ?_
              refine gd_ok hx fun h61 hx => ?_
              refine bd_ok hx fun a62 h63 hx => ?_
              refine gd_ok hx fun h64 hx => ?_
              refine bd_ok hx fun a65 h66 hx => ?_
              have hx := Option.some.inj hx
              subst hx
              refine WK.run (an := [.br false, .draw [0, 1, 2, 3, 4, 5, 6, 7, 8, 9, 10, 11, 12, 13, 14, 15, 16, 17, 18, 19] [(8, none, .row ((NamedR.enc f) a56)), (13, none, .row ((NamedR.enc f) a59)), (16, none, .rows ((NamedR.enc f) a62) ((s.2.2.set (0 + (y21 : Int).toNat) (NamedR.mk a62.ID a56.Label)).map (NamedR.enc f))), (19, none, .rows ((NamedR.enc f) a65) (((s.2.2.set (0 + (y21 : Int).toNat) (NamedR.mk a62.ID a56.Label)).set (0 + (y38 : Int).toNat) (NamedR.mk a65.ID a59.Label)).map (NamedR.enc f)))], .reg []]) (kt := [1, 5, 7]) (ko := [(3, 3), (101, 101)]) (k' := [.inLoop (sub b28 [1, 1, 1, 0, 1, 0, 0]), .inBlock 2, .code (sub b28 [1, 1, 1, 1])]) (σ' := ⟨171, [(1, .pv (.sl (c14.map A3_Int.enc))), (5, .hd 101 0 ((s.2.2.map (NamedR.enc f)).length) 2), (7, .pv (.int .i64 (IntKind.i64.wrap (s.1 + 1))))], [(3, .fam false f 1 (s.2.1.map (List.map eInt))), (101, .sl false 2 (((s.2.2.set (0 + (y21 : Int).toNat) (NamedR.mk a62.ID a56.Label)).set (0 + (y38 : Int).toNat) (NamedR.mk a65.ID a59.Label)).map (NamedR.enc f)))]⟩) (ps := [(decide (y29 > 0)) = false, 0 ≤ (y38 : Int), (y38 : Int) < (((s.2.2.map (NamedR.enc f)).length : Nat) : Int), (s.2.2.map (NamedR.enc f))[(0 + (y38 : Int).toNat)]? = some ((NamedR.enc f) a56), 0 ≤ (y21 : Int), (y21 : Int) < (((s.2.2.map (NamedR.enc f)).length : Nat) : Int), (s.2.2.map (NamedR.enc f))[(0 + (y21 : Int).toNat)]? = some ((NamedR.enc f) a59), 0 ≤ (y21 : Int), (y21 : Int) < (((s.2.2.map (NamedR.enc f)).length : Nat) : Int), (s.2.2.map (NamedR.enc f))[(0 + (y21 : Int).toNat)]? = some ((NamedR.enc f) a62), 1 = 1, 1 + 1 ≤ ((NamedR.enc f) a62).length, (s.2.2.map (NamedR.enc f)).set (0 + (y21 : Int).toNat) (splice ((NamedR.enc f) a62) 1 [.fh f a56.Label.i a56.Label.off a56.Label.len 1]) = ((s.2.2.set (0 + (y21 : Int).toNat) (NamedR.mk a62.ID a56.Label)).map (NamedR.enc f)), 0 ≤ (y38 : Int), (y38 : Int) < (((s.2.2.map (NamedR.enc f)).length : Nat) : Int), ((s.2.2.set (0 + (y21 : Int).toNat) (NamedR.mk a62.ID a56.Label)).map (NamedR.enc f))[(0 + (y38 : Int).toNat)]? = some ((NamedR.enc f) a65), 1 = 1, 1 + 1 ≤ ((NamedR.enc f) a65).length, ((s.2.2.set (0 + (y21 : Int).toNat) (NamedR.mk a62.ID a56.Label)).map (NamedR.enc f)).set (0 + (y38 : Int).toNat) (splice ((NamedR.enc f) a65) 1 [.fh f a59.Label.i a59.Label.off a59.Label.len 1]) = (((s.2.2.set (0 + (y21 : Int).toNat) (NamedR.mk a62.ID a56.Label)).set (0 + (y38 : Int).toNat) (NamedR.mk a65.ID a59.Label)).map (NamedR.enc f))])
                (by kernel_rfl) ⟨h46, h55.1, lenLt h55.2, rowOb h57, h58.1, lenLt h58.2, rowOb h60, h61.1, lenLt h61.2, rowOb h63, rfl, Nat.le_of_ble_eq_true rfl, setOb (f := (NamedR.enc f)) (x := (NamedR.mk a62.ID a56.Label)), h64.1, lenLt h64.2, rowOb h66, rfl, Nat.le_of_ble_eq_true rfl, setOb (f := (NamedR.enc f)) (x := (NamedR.mk a65.ID a59.Label)), trivial⟩ ?_
              refine WK.eq (σ' := clearwayref07_Bent.l0.enc f c14 ((IntKind.i64.wrap (s.1 + 1)), s.2.1, ((s.2.2.set (0 + (y21 : Int).toNat) (NamedR.mk a62.ID a56.Label)).set (0 + (y38 : Int).toNat) (NamedR.mk a65.ID a59.Label)))) (by simp only [clearwayref07_Bent.l0.enc, List.length_map, List.length_set]) ?_
              exact hn
          · refine gd_ok hx fun h67 hx => ?_
            refine bd_ok hx fun a68 h69 hx => ?_
            refine gd_ok hx fun h70 hx => ?_
            refine bd_ok hx fun a71 h72 hx => ?_
            refine gd_ok hx fun h73 hx => ?_
            refine bd_ok hx fun a74 h75 hx => ?_
            refine gd_ok hx fun h76 hx => ?_
            refine bd_ok hx fun a77 h78 hx => ?_
            have hx := Option.some.inj hx
            subst hx
            refine WK.run (an := [.lp, .reg [(2, none, .val (.pv (.int .i64 ((c14.length : Nat) : Int)))), (5, some true, .no), (9, some true, .no), (10, none, .val (.pv (.int .i64 ((s.2.2.length : Nat) : Int))))], .br true, .reg [(2, none, .row (A3_Int.enc a18)), (6, none, .val (.pv (.int .i64 ((s.2.2.length : Nat) : Int)))), (7, none, .call [] [] (.pv (.int .i64 y21)) [] [])], .draw [0, 1, 2, 3, 4, 5, 6, 7, 8, 9, 10, 11, 12, 13] [(2, none, .row (A3_Int.enc a23)), (9, none, .row ((NamedR.enc f) a27)), (12, none, .call [] [] (.pv (.int .i64 y29)) [] [])], .reg [(5, none, .row ((NamedR.enc f) a32))], .br true, .reg [(2, none, .row (A3_Int.enc a35)), (6, none, .val (.pv (.int .i64 ((s.2.2.length : Nat) : Int)))), (7, none, .call [] [] (.pv (.int .i64 y38)) [] [])], .reg [(2, none, .row (A3_Int.enc a40)), (5, none, .call [] [] (.pv (.int .i64 y43)) [] []), (8, some false, .no)], .bk, .draw [0, 1, 2, 3, 4, 5, 6, 7, 8, 9, 10, 11, 12, 13, 14, 15, 16, 17, 18, 19] [(8, none, .row ((NamedR.enc f) a68)), (13, none, .row ((NamedR.enc f) a71)), (16, none, .rows ((NamedR.enc f) a74) ((s.2.2.set (0 + (y21 : Int).toNat) (NamedR.mk a74.ID a68.Label)).map (NamedR.enc f))), (19, none, .rows ((NamedR.enc f) a77) (((s.2.2.set (0 + (y21 : Int).toNat) (NamedR.mk a74.ID a68.Label)).set (0 + (y38 : Int).toNat) (NamedR.mk a77.ID a71.Label)).map (NamedR.enc f)))], .reg []]) (kt := [1, 5, 7]) (ko := [(3, 3), (101, 101)]) (k' := [.inLoop (sub b28 [1, 1, 1, 0, 1, 0, 0]), .inBlock 2, .code (sub b28 [1, 1, 1, 1])]) (σ' := ⟨171, [(1, .pv (.sl (c14.map A3_Int.enc))), (5, .hd 101 0 ((s.2.2.map (NamedR.enc f)).length) 2), (7, .pv (.int .i64 (IntKind.i64.wrap (s.1 + 1))))], [(3, .fam false f 1 (s.2.1.map (List.map eInt))), (101, .sl false 2 (((s.2.2.set (0 + (y21 : Int).toNat) (NamedR.mk a74.ID a68.Label)).set (0 + (y38 : Int).toNat) (NamedR.mk a77.ID a71.Label)).map (NamedR.enc f)))]⟩) (ps := [AV.pv (.int .i64 ((c14.map A3_Int.enc).length : Nat)) = .pv (.int .i64 (c14.length : Nat)), (decide (s.1 < ((c14.length : Nat) : Int))) = true, (decide (s.1 < 4)) = true, AV.pv (.int .i64 ((s.2.2.map (NamedR.enc f)).length : Nat)) = .pv (.int .i64 (s.2.2.length : Nat)), (decide (((s.2.2.length : Nat) : Int) > 0)) = true, 0 ≤ (s.1 : Int), (c14.map A3_Int.enc)[(s.1 : Int).toNat]? = some (A3_Int.enc a18), (A3_Int.enc a18).length = 3, (0 : Int) ≤ 0, (0 : Int) < ((3 : Nat) : Int), AV.pv (.int .i64 ((s.2.2.map (NamedR.enc f)).length : Nat)) = .pv (.int .i64 (s.2.2.length : Nat)), Spec Try.prog 56 [.pv (.int .i64 a18.x0), .pv (.int .i64 ((s.2.2.length : Nat) : Int))] [] (.pv (.int .i64 y21)) [], 0 ≤ (s.1 : Int), (c14.map A3_Int.enc)[(s.1 : Int).toNat]? = some (A3_Int.enc a23), (A3_Int.enc a23).length = 3, (0 : Int) ≤ 1, (1 : Int) < ((3 : Nat) : Int), 0 ≤ (y21 : Int), (y21 : Int) < (((s.2.2.map (NamedR.enc f)).length : Nat) : Int), (s.2.2.map (NamedR.enc f))[(0 + (y21 : Int).toNat)]? = some ((NamedR.enc f) a27), Spec Try.prog 56 [.pv (.int .i64 a23.x1), .pv (.int .i64 (IntKind.i64.wrap (((a27.Label.len : Nat) : Int) + 1)))] [] (.pv (.int .i64 y29)) [], 0 ≤ (y21 : Int), (y21 : Int) < (((s.2.2.map (NamedR.enc f)).length : Nat) : Int), (s.2.2.map (NamedR.enc f))[(0 + (y21 : Int).toNat)]? = some ((NamedR.enc f) a32), (y29 == ((a32.Label.len : Nat) : Int)) = true, 0 ≤ (s.1 : Int), (c14.map A3_Int.enc)[(s.1 : Int).toNat]? = some (A3_Int.enc a35), (A3_Int.enc a35).length = 3, (0 : Int) ≤ 2, (2 : Int) < ((3 : Nat) : Int), AV.pv (.int .i64 ((s.2.2.map (NamedR.enc f)).length : Nat)) = .pv (.int .i64 (s.2.2.length : Nat)), Spec Try.prog 56 [.pv (.int .i64 a35.x2), .pv (.int .i64 ((s.2.2.length : Nat) : Int))] [] (.pv (.int .i64 y38)) [], 0 ≤ (s.1 : Int), (c14.map A3_Int.enc)[(s.1 : Int).toNat]? = some (A3_Int.enc a40), (A3_Int.enc a40).length = 3, (0 : Int) ≤ 2, (2 : Int) < ((3 : Nat) : Int), Spec Try.prog 56 [.pv (.int .i64 a40.x2), .pv (.int .i64 5)] [] (.pv (.int .i64 y43)) [], (y43 == 0) = false, 0 ≤ (y38 : Int), (y38 : Int) < (((s.2.2.map (NamedR.enc f)).length : Nat) : Int), (s.2.2.map (NamedR.enc f))[(0 + (y38 : Int).toNat)]? = some ((NamedR.enc f) a68), 0 ≤ (y21 : Int), (y21 : Int) < (((s.2.2.map (NamedR.enc f)).length : Nat) : Int), (s.2.2.map (NamedR.enc f))[(0 + (y21 : Int).toNat)]? = some ((NamedR.enc f) a71), 0 ≤ (y21 : Int), (y21 : Int) < (((s.2.2.map (NamedR.enc f)).length : Nat) : Int), (s.2.2.map (NamedR.enc f))[(0 + (y21 : Int).toNat)]? = some ((NamedR.enc f) a74), 1 = 1, 1 + 1 ≤ ((NamedR.enc f) a74).length, (s.2.2.map (NamedR.enc f)).set (0 + (y21 : Int).toNat) (splice ((NamedR.enc f) a74) 1 [.fh f a68.Label.i a68.Label.off a68.Label.len 1]) = ((s.2.2.set (0 + (y21 : Int).toNat) (NamedR.mk a74.ID a68.Label)).map (NamedR.enc f)), 0 ≤ (y38 : Int), (y38 : Int) < (((s.2.2.map (NamedR.enc f)).length : Nat) : Int), ((s.2.2.set (0 + (y21 : Int).toNat) (NamedR.mk a74.ID a68.Label)).map (NamedR.enc f))[(0 + (y38 : Int).toNat)]? = some ((NamedR.enc f) a77), 1 = 1, 1 + 1 ≤ ((NamedR.enc f) a77).length, ((s.2.2.set (0 + (y21 : Int).toNat) (NamedR.mk a74.ID a68.Label)).map (NamedR.enc f)).set (0 + (y38 : Int).toNat) (splice ((NamedR.enc f) a77) 1 [.fh f a71.Label.i a71.Label.off a71.Label.len 1]) = (((s.2.2.set (0 + (y21 : Int).toNat) (NamedR.mk a74.ID a68.Label)).set (0 + (y38 : Int).toNat) (NamedR.mk a77.ID a71.Label)).map (NamedR.enc f))])
              (by kernel_rfl) ⟨lenOb, h15, h16, lenOb, h17, h19, rowOb h20, rfl, by decide, by decide, lenOb, clearwayref07_pick.ok a18.x0 ((s.2.2.length : Nat) : Int) e22, h24, rowOb h25, rfl, by decide, by decide, h26.1, lenLt h26.2, rowOb h28, clearwayref07_pick.ok a23.x1 (IntKind.i64.wrap (((a27.Label.len : Nat) : Int) + 1)) e30, h31.1, lenLt h31.2, rowOb h33, h34, h36, rowOb h37, rfl, by decide, by decide, lenOb, clearwayref07_pick.ok a35.x2 ((s.2.2.length : Nat) : Int) e39, h41, rowOb h42, rfl, by decide, by decide, clearwayref07_pick.ok a40.x2 5 e44, h45, h67.1, lenLt h67.2, rowOb h69, h70.1, lenLt h70.2, rowOb h72, h73.1, lenLt h73.2, rowOb h75, rfl, Nat.le_of_ble_eq_true rfl, setOb (f := (NamedR.enc f)) (x := (NamedR.mk a74.ID a68.Label)), h76.1, lenLt h76.2, rowOb h78, rfl, Nat.le_of_ble_eq_true rfl, setOb (f := (NamedR.enc f)) (x := (NamedR.mk a77.ID a71.Label)), trivial⟩ ?_
            refine WK.eq (σ' := clearwayref07_Bent.l0.enc f c14 ((IntKind.i64.wrap (s.1 + 1)), s.2.1, ((s.2.2.set (0 + (y21 : Int).toNat) (NamedR.mk a74.ID a68.Label)).set (0 + (y38 : Int).toNat) (NamedR.mk a77.ID a71.Label)))) (by simp only [clearwayref07_Bent.l0.enc, List.length_map, List.length_set]) ?_
            exact hn
        · refine getR_ok hx fun a79 h80 h81 hx => ?_
          refine bd_ok hx fun y82 e83 hx => ?_
          refine WK.run (an := [.lp, .reg [(2, none, .val (.pv (.int .i64 ((c14.length : Nat) : Int)))), (5, some true, .no), (9, some true, .no), (10, none, .val (.pv (.int .i64 ((s.2.2.length : Nat) : Int))))], .br true, .reg [(2, none, .row (A3_Int.enc a18)), (6, none, .val (.pv (.int .i64 ((s.2.2.length : Nat) : Int)))), (7, none, .call [] [] (.pv (.int .i64 y21)) [] [])], .draw [0, 1, 2, 3, 4, 5, 6, 7, 8, 9, 10, 11, 12, 13] [(2, none, .row (A3_Int.enc a23)), (9, none, .row ((NamedR.enc f) a27)), (12, none, .call [] [] (.pv (.int .i64 y29)) [] [])], .reg [(5, none, .row ((NamedR.enc f) a32))], .br false, .reg [(2, none, .row (A3_Int.enc a79)), (5, none, .call [] [] (.pv (.int .i64 y82)) [] [])]]) (kt := [1, 5, 7, 8, 9, 132]) (ko := [(3, 3), (101, 101)]) (k' := [.code (sub b28 [1, 1, 1, 0, 1, 0, 0, 1, 0, 0, 1, 1, 1, 1]), .inBlock 3, .code (sub b28 [1, 1, 1, 0, 1, 0, 0, 1, 1]), .inLoop (sub b28 [1, 1, 1, 0, 1, 0, 0]), .inBlock 2, .code (sub b28 [1, 1, 1, 1])]) (σ' := ⟨171, [(1, .pv (.sl (c14.map A3_Int.enc))), (5, .hd 101 0 ((s.2.2.map (NamedR.enc f)).length) 2), (7, .pv (.int .i64 s.1)), (8, .pv (.int .i64 y21)), (9, .pv (.int .i64 y29)), (132, .pv (.bool (y82 == 0)))], [(3, .fam false f 1 (s.2.1.map (List.map eInt))), (101, .sl false 2 (s.2.2.map (NamedR.enc f)))]⟩) (ps := [AV.pv (.int .i64 ((c14.map A3_Int.enc).length : Nat)) = .pv (.int .i64 (c14.length : Nat)), (decide (s.1 < ((c14.length : Nat) : Int))) = true, (decide (s.1 < 4)) = true, AV.pv (.int .i64 ((s.2.2.map (NamedR.enc f)).length : Nat)) = .pv (.int .i64 (s.2.2.length : Nat)), (decide (((s.2.2.length : Nat) : Int) > 0)) = true, 0 ≤ (s.1 : Int), (c14.map A3_Int.enc)[(s.1 : Int).toNat]? = some (A3_Int.enc a18), (A3_Int.enc a18).length = 3, (0 : Int) ≤ 0, (0 : Int) < ((3 : Nat) : Int), AV.pv (.int .i64 ((s.2.2.map (NamedR.enc f)).length : Nat)) = .pv (.int .i64 (s.2.2.length : Nat)), Spec Try.prog 56 [.pv (.int .i64 a18.x0), .pv (.int .i64 ((s.2.2.length : Nat) : Int))] [] (.pv (.int .i64 y21)) [], 0 ≤ (s.1 : Int), (c14.map A3_Int.enc)[(s.1 : Int).toNat]? = some (A3_Int.enc a23), (A3_Int.enc a23).length = 3, (0 : Int) ≤ 1, (1 : Int) < ((3 : Nat) : Int), 0 ≤ (y21 : Int), (y21 : Int) < (((s.2.2.map (NamedR.enc f)).length : Nat) : Int), (s.2.2.map (NamedR.enc f))[(0 + (y21 : Int).toNat)]? = some ((NamedR.enc f) a27), Spec Try.prog 56 [.pv (.int .i64 a23.x1), .pv (.int .i64 (IntKind.i64.wrap (((a27.Label.len : Nat) : Int) + 1)))] [] (.pv (.int .i64 y29)) [], 0 ≤ (y21 : Int), (y21 : Int) < (((s.2.2.map (NamedR.enc f)).length : Nat) : Int), (s.2.2.map (NamedR.enc f))[(0 + (y21 : Int).toNat)]? = some ((NamedR.enc f) a32), (y29 == ((a32.Label.len : Nat) : Int)) = false, 0 ≤ (s.1 : Int), (c14.map A3_Int.enc)[(s.1 : Int).toNat]? = some (A3_Int.enc a79), (A3_Int.enc a79).length = 3, (0 : Int) ≤ 2, (2 : Int) < ((3 : Nat) : Int), Spec Try.prog 56 [.pv (.int .i64 a79.x2), .pv (.int .i64 3)] [] (.pv (.int .i64 y82)) []])
            (by kernel_rfl) ⟨lenOb, h15, h16, lenOb, h17, h19, rowOb h20, rfl, by decide, by decide, lenOb, clearwayref07_pick.ok a18.x0 ((s.2.2.length : Nat) : Int) e22, h24, rowOb h25, rfl, by decide, by decide, h26.1, lenLt h26.2, rowOb h28, clearwayref07_pick.ok a23.x1 (IntKind.i64.wrap (((a27.Label.len : Nat) : Int) + 1)) e30, h31.1, lenLt h31.2, rowOb h33, h34, h80, rowOb h81, rfl, by decide, by decide, clearwayref07_pick.ok a79.x2 3 e83, trivial⟩ ?_
          refine br_ok hx (fun h84 hx => ?_) (fun h84 hx => ?_)
          · refine gd_ok hx fun h85 hx => ?_
            refine bd_ok hx fun a86 h87 hx => ?_
            refine getR_ok hx fun a88 h89 h90 hx => ?_
            refine bd_ok hx fun y91 e92 hx => ?_
            refine gd_ok hx fun h93 hx => ?_
            refine bd_ok hx fun a94 h96 hx => ?_
            refine bd_ok hx fun a95 h97 hx => ?_
            have hx := Option.some.inj hx
            subst hx
            refine WK.run (an := [.br true, .draw [0, 1, 2, 3, 4, 5, 6, 7, 8, 9, 10, 11, 12, 13, 14] [(4, none, .row ((NamedR.enc f) a86)), (8, none, .row (A3_Int.enc a88)), (11, none, .call [] [] (.pv (.int .i64 y91)) [] []), (14, none, .frows 3 (a94.map eInt) (eInt a95) ((s.2.1.set a86.Label.i (a94.set (a86.Label.off + (y29 : Int).toNat) (IntKind.i64.wrap (y91 - 2)))).map (List.map eInt)))], .reg []]) (kt := [1, 5, 7]) (ko := [(3, 3), (101, 101)]) (k' := [.inLoop (sub b28 [1, 1, 1, 0, 1, 0, 0]), .inBlock 2, .code (sub b28 [1, 1, 1, 1])]) (σ' := clearwayref07_Bent.l0.enc f c14 ((IntKind.i64.wrap (s.1 + 1)), (s.2.1.set a86.Label.i (a94.set (a86.Label.off + (y29 : Int).toNat) (IntKind.i64.wrap (y91 - 2)))), s.2.2)) (ps := [(y82 == 0) = true, 0 ≤ (y21 : Int), (y21 : Int) < (((s.2.2.map (NamedR.enc f)).length : Nat) : Int), (s.2.2.map (NamedR.enc f))[(0 + (y21 : Int).toNat)]? = some ((NamedR.enc f) a86), 0 ≤ (s.1 : Int), (c14.map A3_Int.enc)[(s.1 : Int).toNat]? = some (A3_Int.enc a88), (A3_Int.enc a88).length = 3, (0 : Int) ≤ 2, (2 : Int) < ((3 : Nat) : Int), Spec Try.prog 56 [.pv (.int .i64 a88.x2), .pv (.int .i64 12)] [] (.pv (.int .i64 y91)) [], 0 ≤ (y29 : Int), (y29 : Int) < ((a86.Label.len : Nat) : Int), f = f, (s.2.1.map (List.map eInt))[a86.Label.i]? = some (a94.map eInt), (a94.map eInt)[(a86.Label.off + (y29 : Int).toNat)]? = some (eInt a95), 1 = 1, 0 + 1 ≤ (eInt a95).length, (s.2.1.map (List.map eInt)).set a86.Label.i ((a94.map eInt).set (a86.Label.off + (y29 : Int).toNat) (splice (eInt a95) 0 [.int .i64 (IntKind.i64.wrap (y91 - 2))])) = ((s.2.1.set a86.Label.i (a94.set (a86.Label.off + (y29 : Int).toNat) (IntKind.i64.wrap (y91 - 2)))).map (List.map eInt))])
              (by kernel_rfl) ⟨h84, h85.1, lenLt h85.2, rowOb h87, h89, rowOb h90, rfl, by decide, by decide, clearwayref07_pick.ok a88.x2 12 e92, h93.1, h93.2, rfl, memGet h96, rowOb h97, rfl, Nat.le_of_ble_eq_true rfl, memSet (f := eInt) (y := (IntKind.i64.wrap (y91 - 2))) rfl, trivial⟩ ?_
            exact hn
          · refine gd_ok hx fun h98 hx => ?_
            refine bd_ok hx fun a99 h100 hx => ?_
            refine gd_ok hx fun h101 hx => ?_
            refine bd_ok hx fun a102 h103 hx => ?_
            refine gd_ok hx fun h104 hx => ?_
            refine bd_ok hx fun a105 h107 hx => ?_
            refine bd_ok hx fun a106 h108 hx => ?_
            refine getR_ok hx fun a109 h110 h111 hx => ?_
            refine bd_ok hx fun y112 e113 hx => ?_
            refine gd_ok hx fun h114 hx => ?_
            refine bd_ok hx fun a115 h117 hx => ?_
            refine bd_ok hx fun a116 h118 hx => ?_
            have hx := Option.some.inj hx
            subst hx
            refine WK.run (an := [.br false, .draw [0, 1, 2, 3, 4, 5, 6, 7, 8, 9, 10, 11, 12, 13, 14, 15, 16, 17, 18, 19, 20, 21, 22, 23] [(4, none, .row ((NamedR.enc f) a99)), (10, none, .row ((NamedR.enc f) a102)), (13, none, .frow 3 (a105.map eInt) (eInt a106)), (16, none, .row (A3_Int.enc a109)), (19, none, .call [] [] (.pv (.int .i64 y112)) [] []), (23, none, .frows 3 (a115.map eInt) (eInt a116) ((s.2.1.set a99.Label.i (a115.set (a99.Label.off + (y29 : Int).toNat) (IntKind.i64.wrap ((IntKind.i64.wrap (a106 + y112)) - 2)))).map (List.map eInt)))], .reg []]) (kt := [1, 5, 7]) (ko := [(3, 3), (101, 101)]) (k' := [.inLoop (sub b28 [1, 1, 1, 0, 1, 0, 0]), .inBlock 2, .code (sub b28 [1, 1, 1, 1])]) (σ' := clearwayref07_Bent.l0.enc f c14 ((IntKind.i64.wrap (s.1 + 1)), (s.2.1.set a99.Label.i (a115.set (a99.Label.off + (y29 : Int).toNat) (IntKind.i64.wrap ((IntKind.i64.wrap (a106 + y112)) - 2)))), s.2.2)) (ps := [(y82 == 0) = false, 0 ≤ (y21 : Int), (y21 : Int) < (((s.2.2.map (NamedR.enc f)).length : Nat) : Int), (s.2.2.map (NamedR.enc f))[(0 + (y21 : Int).toNat)]? = some ((NamedR.enc f) a99), 0 ≤ (y21 : Int), (y21 : Int) < (((s.2.2.map (NamedR.enc f)).length : Nat) : Int), (s.2.2.map (NamedR.enc f))[(0 + (y21 : Int).toNat)]? = some ((NamedR.enc f) a102), 0 ≤ (y29 : Int), (y29 : Int) < ((a102.Label.len : Nat) : Int), f = f, (s.2.1.map (List.map eInt))[a102.Label.i]? = some (a105.map eInt), (a105.map eInt)[(a102.Label.off + (y29 : Int).toNat)]? = some (eInt a106), 0 ≤ (s.1 : Int), (c14.map A3_Int.enc)[(s.1 : Int).toNat]? = some (A3_Int.enc a109), (A3_Int.enc a109).length = 3, (0 : Int) ≤ 2, (2 : Int) < ((3 : Nat) : Int), Spec Try.prog 56 [.pv (.int .i64 a109.x2), .pv (.int .i64 5)] [] (.pv (.int .i64 y112)) [], 0 ≤ (y29 : Int), (y29 : Int) < ((a99.Label.len : Nat) : Int), f = f, (s.2.1.map (List.map eInt))[a99.Label.i]? = some (a115.map eInt), (a115.map eInt)[(a99.Label.off + (y29 : Int).toNat)]? = some (eInt a116), 1 = 1, 0 + 1 ≤ (eInt a116).length, (s.2.1.map (List.map eInt)).set a99.Label.i ((a115.map eInt).set (a99.Label.off + (y29 : Int).toNat) (splice (eInt a116) 0 [.int .i64 (IntKind.i64.wrap ((IntKind.i64.wrap (a106 + y112)) - 2))])) = ((s.2.1.set a99.Label.i (a115.set (a99.Label.off + (y29 : Int).toNat) (IntKind.i64.wrap ((IntKind.i64.wrap (a106 + y112)) - 2)))).map (List.map eInt))])
              (by kernel_rfl) ⟨h84, h98.1, lenLt h98.2, rowOb h100, h101.1, lenLt h101.2, rowOb h103, h104.1, h104.2, rfl, memGet h107, rowOb h108, h110, rowOb h111, rfl, by decide, by decide, clearwayref07_pick.ok a109.x2 5 e113, h114.1, h114.2, rfl, memGet h117, rowOb h118, rfl, Nat.le_of_ble_eq_true rfl, memSet (f := eInt) (y := (IntKind.i64.wrap ((IntKind.i64.wrap (a106 + y112)) - 2))) rfl, trivial⟩ ?_
            exact hn
      · have hx := Option.some.inj hx
        subst hx
        refine WK.run (an := [.lp, .reg [(2, none, .val (.pv (.int .i64 ((c14.length : Nat) : Int)))), (5, some true, .no), (9, some true, .no), (10, none, .val (.pv (.int .i64 ((s.2.2.length : Nat) : Int))))], .br false]) (kt := [5]) (ko := [(3, 3), (101, 101)]) (k' := [.code (sub b28 [1, 1, 1, 1, 0]), .code (sub b28 [1, 1, 1, 1, 1])]) (σ' := ⟨171, [(5, .hd 101 0 ((s.2.2.map (NamedR.enc f)).length) 2)], [(3, .fam false f 1 (s.2.1.map (List.map eInt))), (101, .sl false 2 (s.2.2.map (NamedR.enc f)))]⟩) (ps := [AV.pv (.int .i64 ((c14.map A3_Int.enc).length : Nat)) = .pv (.int .i64 (c14.length : Nat)), (decide (s.1 < ((c14.length : Nat) : Int))) = true, (decide (s.1 < 4)) = true, AV.pv (.int .i64 ((s.2.2.map (NamedR.enc f)).length : Nat)) = .pv (.int .i64 (s.2.2.length : Nat)), (decide (((s.2.2.length : Nat) : Int) > 0)) = false])
          (by kernel_rfl) ⟨lenOb, h15, h16, lenOb, h17, trivial⟩ ?_
        exact hn
    · have hx := Option.some.inj hx
      subst hx
      refine WK.run (an := [.lp, .reg [(2, none, .val (.pv (.int .i64 ((c14.length : Nat) : Int)))), (5, some true, .no), (9, some false, .no)], .bk]) (kt := [5]) (ko := [(3, 3), (101, 101)]) (k' := [.code (sub b28 [1, 1, 1, 1, 0]), .code (sub b28 [1, 1, 1, 1, 1])]) (σ' := ⟨171, [(5, .hd 101 0 ((s.2.2.map (NamedR.enc f)).length) 2)], [(3, .fam false f 1 (s.2.1.map (List.map eInt))), (101, .sl false 2 (s.2.2.map (NamedR.enc f)))]⟩) (ps := [AV.pv (.int .i64 ((c14.map A3_Int.enc).length : Nat)) = .pv (.int .i64 (c14.length : Nat)), (decide (s.1 < ((c14.length : Nat) : Int))) = true, (decide (s.1 < 4)) = false])
        (by kernel_rfl) ⟨lenOb, h15, h16, trivial⟩ ?_
      exact hn
  · have hx := Option.some.inj hx
    subst hx
    refine WK.run (an := [.lp, .reg [(2, none, .val (.pv (.int .i64 ((c14.length : Nat) : Int)))), (5, some false, .no)], .bk]) (kt := [5]) (ko := [(3, 3), (101, 101)]) (k' := [.code (sub b28 [1, 1, 1, 1, 0]), .code (sub b28 [1, 1, 1, 1, 1])]) (σ' := ⟨171, [(5, .hd 101 0 ((s.2.2.map (NamedR.enc f)).length) 2)], [(3, .fam false f 1 (s.2.1.map (List.map eInt))), (101, .sl false 2 (s.2.2.map (NamedR.enc f)))]⟩) (ps := [AV.pv (.int .i64 ((c14.map A3_Int.enc).length : Nat)) = .pv (.int .i64 (c14.length : Nat)), (decide (s.1 < ((c14.length : Nat) : Int))) = false])
      (by kernel_rfl) ⟨lenOb, h15, trivial⟩ ?_
    exact hn

noncomputable def clearwayref07_Bent.l1 (c3 : List Named) (c4 : List A3_Int) (s : Int × (List (List Int)) × (List NamedR)) : Option (Nx (Int × (List (List Int)) × (List NamedR)) ((List (List Int)) × (List NamedR))) :=
  br (decide (s.1 < ((c3.length : Nat) : Int))) (
    getR c3 s.1 fun a6 =>
    getR c3 s.1 fun a9 =>
    gd (a9.Label.length ≤ bigLen) <|
    gd ((s.2.2 ++ [(NamedR.mk a6.ID (Ref.mk s.2.1.length 0 ((a9.Label.map eInt).length)))]).length ≤ bigLen) <|
    some (.cont ((IntKind.i64.wrap (s.1 + 1)), (s.2.1 ++ [a9.Label]), (s.2.2 ++ [(NamedR.mk a6.ID (Ref.mk s.2.1.length 0 ((a9.Label.map eInt).length)))])))) (
    bd (loopN fuel (clearwayref07_Bent.l0 c4) (0, s.2.1, s.2.2)) fun q14 =>
    some (.done (q14.1, q14.2)))

abbrev clearwayref07_Bent.l1.enc (f : Nat) (c3 : List Named) (c4 : List A3_Int) (s : Int × (List (List Int)) × (List NamedR)) : St := ⟨171, [(0, .pv (.sl (c3.map Named.enc))), (1, .pv (.sl (c4.map A3_Int.enc))), (5, .hd 101 0 ((s.2.2.map (NamedR.enc f)).length) 2), (6, .pv (.int .i64 s.1))], [(3, .fam false f 1 (s.2.1.map (List.map eInt))), (101, .sl false 2 (s.2.2.map (NamedR.enc f)))]⟩

abbrev clearwayref07_Bent.l1.post (f : Nat) (c3 : List Named) (c4 : List A3_Int) (r : AV) (outs : List AObj) (q : ((List (List Int)) × (List NamedR))) : Prop := WK Try.prog (28, 0) [.code (sub b28 [1, 1, 1, 1, 0]), .code (sub b28 [1, 1, 1, 1, 1])] ⟨171, [(5, .hd 101 0 ((q.2.map (NamedR.enc f)).length) 2)], [(3, .fam false f 1 (q.1.map (List.map eInt))), (101, .sl false 2 (q.2.map (NamedR.enc f)))]⟩ r outs

theorem clearwayref07_Bent.l1.ok (f : Nat) (c3 : List Named) (c4 : List A3_Int) (r : AV) (outs : List AObj) (s : Int × (List (List Int)) × (List NamedR)) (q : ((List (List Int)) × (List NamedR))) (h : loopN fuel (clearwayref07_Bent.l1 c3 c4) s = some q) (hd : clearwayref07_Bent.l1.post f c3 c4 r outs q) :
    WK Try.prog (28, 0) [.inLoop (sub b28 [1, 1, 0, 1, 0, 0]), .inBlock 0, .code (sub b28 [1, 1, 1])] (clearwayref07_Bent.l1.enc f c3 c4 s) r outs := by
  refine WK.loop (clearwayref07_Bent.l1.enc f c3 c4) (clearwayref07_Bent.l1 c3 c4) (clearwayref07_Bent.l1.post f c3 c4 r outs) ?_ fuel s q h hd
  intro s x hx hn
  unfold clearwayref07_Bent.l1 at hx
  refine br_ok hx (fun h5 hx => ?_) (fun h5 hx => ?_)
  · refine getR_ok hx fun a6 h7 h8 hx => ?_
    refine getR_ok hx fun a9 h10 h11 hx => ?_
    refine gd_ok hx fun h12 hx => ?_
    refine gd_ok hx fun h13 hx => ?_
    have hx := Option.some.inj hx
    subst hx
    refine WK.run (an := [.lp, .reg [(2, none, .val (.pv (.int .i64 ((c3.length : Nat) : Int))))], .br true, .draw [0, 1, 2, 3, 4, 5, 6, 7, 8, 9, 10, 11, 12, 13, 14, 15, 16] [(3, none, .row (Named.enc a6)), (6, none, .nm 1013), (9, none, .row (Named.enc a9)), (12, none, .mi 3 1015 s.2.1.length ((s.2.1 ++ [a9.Label]).map (List.map eInt)) (.app 1015 (a9.Label.map eInt))), (14, none, .nm 1017), (15, none, .app 1019 ((s.2.2 ++ [(NamedR.mk a6.ID (Ref.mk s.2.1.length 0 ((a9.Label.map eInt).length)))]).map (NamedR.enc f)))], .reg []]) (kt := [0, 1, 5, 6]) (ko := [(3, 3), (1019, 101)]) (k' := [.inLoop (sub b28 [1, 1, 0, 1, 0, 0]), .inBlock 0, .code (sub b28 [1, 1, 1])]) (σ' := clearwayref07_Bent.l1.enc f c3 c4 ((IntKind.i64.wrap (s.1 + 1)), (s.2.1 ++ [a9.Label]), (s.2.2 ++ [(NamedR.mk a6.ID (Ref.mk s.2.1.length 0 ((a9.Label.map eInt).length)))]))) (ps := [AV.pv (.int .i64 ((c3.map Named.enc).length : Nat)) = .pv (.int .i64 (c3.length : Nat)), (decide (s.1 < ((c3.length : Nat) : Int))) = true, 0 ≤ (s.1 : Int), (c3.map Named.enc)[(s.1 : Int).toNat]? = some (Named.enc a6), (Named.enc a6).length = 2, 1 = 1, 0 ≤ (s.1 : Int), (c3.map Named.enc)[(s.1 : Int).toNat]? = some (Named.enc a9), (Named.enc a9).length = 2, 0 + 0 = ([].map eInt).length, ([].map eInt).drop 0 ++ (a9.Label.map eInt) = (a9.Label.map eInt), (a9.Label.map eInt).length ≤ bigLen, ∀ r ∈ (a9.Label.map eInt), r.length = 1, (s.2.1.map (List.map eInt)).length = s.2.1.length, (s.2.1.map (List.map eInt)) ++ [(a9.Label.map eInt)] = ((s.2.1 ++ [a9.Label]).map (List.map eInt)), (a9.Label.map eInt).length = (a9.Label.map eInt).length, 2 = 2, 2 = 2, 0 + 1 ≤ ([(NamedR.mk a6.ID (Ref.mk s.2.1.length 0 ((a9.Label.map eInt).length)))].map (NamedR.enc f)).length, 0 + ((s.2.2.map (NamedR.enc f)).length) = (s.2.2.map (NamedR.enc f)).length, (s.2.2.map (NamedR.enc f)).drop 0 ++ (cut1 ([(NamedR.mk a6.ID (Ref.mk s.2.1.length 0 ((a9.Label.map eInt).length)))].map (NamedR.enc f)) 0 1) = ((s.2.2 ++ [(NamedR.mk a6.ID (Ref.mk s.2.1.length 0 ((a9.Label.map eInt).length)))]).map (NamedR.enc f)), ((s.2.2 ++ [(NamedR.mk a6.ID (Ref.mk s.2.1.length 0 ((a9.Label.map eInt).length)))]).map (NamedR.enc f)).length ≤ bigLen, ∀ r ∈ (cut1 ([(NamedR.mk a6.ID (Ref.mk s.2.1.length 0 ((a9.Label.map eInt).length)))].map (NamedR.enc f)) 0 1), r.length = 2])
      (by kernel_rfl) ⟨lenOb, h5, h7, rowOb h8, rfl, rfl, h10, rowOb h11, rfl, Nat.zero_add _, by simp [cut1, List.take_of_length_le], bigOb h12, map_len fun _ => rfl, memLen, memApp rfl, rfl, rfl, rfl, Nat.le_of_eq (Nat.zero_add _), Nat.zero_add _, by simp [cut1, List.take_of_length_le], bigOb h13, one_len rfl, trivial⟩ ?_
    exact hn
  · refine bd_ok hx fun q14 e15 hx => ?_
    refine WK.run (an := [.lp, .reg [(2, none, .val (.pv (.int .i64 ((c3.length : Nat) : Int))))], .br false, .reg []]) (kt := [1, 5, 7]) (ko := [(3, 3), (101, 101)]) (k' := [.code (sub b28 [1, 1, 1, 0, 1, 0]), .inBlock 2, .code (sub b28 [1, 1, 1, 1])]) (σ' := clearwayref07_Bent.l0.enc f c4 (0, s.2.1, s.2.2)) (ps := [AV.pv (.int .i64 ((c3.map Named.enc).length : Nat)) = .pv (.int .i64 (c3.length : Nat)), (decide (s.1 < ((c3.length : Nat) : Int))) = false])
      (by kernel_rfl) ⟨lenOb, h5, trivial⟩ ?_
    refine WK.enterLoop (clearwayref07_Bent.l0.ok f c4 _ _ _ _ e15 ?_)
    have hx := Option.some.inj hx
    subst hx
    refine WK.run (an := []) (kt := [5]) (ko := [(3, 3), (101, 101)]) (k' := [.code (sub b28 [1, 1, 1, 1, 0]), .code (sub b28 [1, 1, 1, 1, 1])]) (σ' := ⟨171, [(5, .hd 101 0 ((q14.2.map (NamedR.enc f)).length) 2)], [(3, .fam false f 1 (q14.1.map (List.map eInt))), (101, .sl false 2 (q14.2.map (NamedR.enc f)))]⟩) (ps := [])
      (by kernel_rfl) trivial ?_
    exact hn

noncomputable def clearwayref07_Bent (v1 : List Named) (v2 : List A3_Int) : Option (List Named) :=
  bd (loopN fuel (clearwayref07_Bent.l1 v1 v2) (0, [], [])) fun q16 =>
  bd (mapO (fun x => bd (resRef q16.1 x.Label) fun y18 => some ((Named.mk x.ID y18) : Named)) q16.2) fun l20 =>
  some l20

theorem clearwayref07_Bent.ok (v1 : List Named) (v2 : List A3_Int) {x : (List Named)} (hx : clearwayref07_Bent v1 v2 = some x) :
    Spec Try.prog 28 [.pv (.sl (v1.map Named.enc)), .pv (.sl (v2.map A3_Int.enc))] [] (.pv (.sl (x.map Named.enc))) [] := by
  refine Spec.of (c := b28) Try.func28 rfl rfl rfl ?_
  refine WK.birth 3 1 rfl (by decide) (by decide) fun f => ?_
  unfold clearwayref07_Bent at hx
  refine bd_ok hx fun q16 e17 hx => ?_
  refine WK.run (an := [.reg [(0, none, .val (.pv (.sl ([].map Named.enc))))], .new 1003 2, .reg [(0, none, .val (.hd 1003 0 0 2))], .reg []]) (kt := [0, 1, 5, 6]) (ko := [(3, 3), (1003, 101)]) (k' := [.code (sub b28 [1, 1, 0, 1, 0]), .inBlock 0, .code (sub b28 [1, 1, 1])]) (σ' := clearwayref07_Bent.l1.enc f v1 v2 (0, [], [])) (ps := [])
    (by kernel_rfl) trivial ?_
  refine WK.enterLoop (clearwayref07_Bent.l1.ok f v1 v2 _ _ _ _ e17 ?_)
  refine bd_ok hx fun l20 h21 hx => ?_
  have hx := Option.some.inj hx
  subst hx
  refine WK.run (an := [.reg []]) (kt := [4]) (ko := [(3, 3), (101, 101)]) (k' := [.code (sub b28 [1, 1, 1, 1, 1])]) (σ' := ⟨171, [(4, .hd 101 0 ((q16.2.map (NamedR.enc f)).length) 2)], [(3, .fam false f 1 (q16.1.map (List.map eInt))), (101, .sl false 2 (q16.2.map (NamedR.enc f)))]⟩) (ps := [])
    (by kernel_rfl) trivial ?_
  refine WK.ffz 3 (f := f) (sz := 1) (mem := (q16.1.map (List.map eInt))) rfl ?_
  refine WK.tell 3 101 (.sl false 2 (l20.map Named.enc)) (f := f) (sz := 1) (mem := (q16.1.map (List.map eInt))) (o := .sl false 2 (q16.2.map (NamedR.enc f))) rfl rfl (TellO.sl _ _ _ _ (tellOb h21 (fun x y hy => by refine bd_ok hy fun y18 h19 hy => ?_; cases hy; exact tellCons (.same _) (tellCons (resOb h19) (tellNil))))) ?_
  exact WK.ret (fn := Try.f28) Try.func28 (frz := [101]) (esc := []) (ps := [(q16.2.map (NamedR.enc f)).length = (l20.map Named.enc).length]) (by kernel_rfl) ⟨by rw [List.length_map, List.length_map]; exact (mapO_get h21).1, trivial⟩

noncomputable abbrev b22 : Code := body Try.f22
noncomputable def forest_CheckPath.l0 (c9 : Int) (c10 : List Int) (c11 : Int) (c12 : List Vertex) (c13 : List Edge) (c14 : List Int) (s : Int × Int) : Option (Nx (Int × Int) (Unit ⊕ Int)) :=
  br (decide (s.2 < c11)) (
    getR c10 s.2 fun a16 =>
    bd (forest_step (Graph.mk c12 c13 c14) s.1 a16) fun y19 =>
    br (decide (y19 < 0)) (
      some (.done (.inl ()))) (
      some (.cont (y19, (IntKind.i64.wrap (s.2 + 1)))))) (
    some (.done (.inr s.1)))

abbrev forest_CheckPath.l0.enc (c9 : Int) (c10 : List Int) (c11 : Int) (c12 : List Vertex) (c13 : List Edge) (c14 : List Int) (s : Int × Int) : St := ⟨38, [(1, .pv (.int .i64 s.1)), (2, .pv (.int .i64 c9)), (4, .ref 101 0 0 0), (22, .pv (.sl (c10.map eInt))), (23, .pv (.int .i64 c11)), (24, .pv (.int .i64 s.2))], [(101, .varp [.sl (c12.map Vertex.enc), .sl (c13.map Edge.enc), .sl (c14.map eInt)])]⟩

abbrev forest_CheckPath.l0.post (c9 : Int) (c10 : List Int) (c11 : Int) (c12 : List Vertex) (c13 : List Edge) (c14 : List Int) (r : AV) (outs : List AObj) (q : Unit ⊕ Int) : Prop := match q with | .inl q => WK Try.prog (22, 0) [.code (sub b22 [1, 1, 0, 1, 0, 0, 1, 1, 0, 0, 1, 1, 1, 0, 1]), .inBlock 1, .code (sub b22 [1, 1, 0, 1, 0, 0, 1, 1, 1]), .inLoop (sub b22 [1, 1, 0, 1, 0, 0]), .inBlock 0, .code (sub b22 [1, 1, 1])] ⟨38, [(8, .pv (.bool false))], []⟩ r outs | .inr q => WK Try.prog (22, 0) [.code (sub b22 [1, 1, 1, 0]), .code (sub b22 [1, 1, 1, 1])] ⟨38, [(1, .pv (.int .i64 q)), (2, .pv (.int .i64 c9))], []⟩ r outs

theorem forest_CheckPath.l0.ok (c9 : Int) (c10 : List Int) (c11 : Int) (c12 : List Vertex) (c13 : List Edge) (c14 : List Int) (r : AV) (outs : List AObj) (s : Int × Int) (q : Unit ⊕ Int) (h : loopN fuel (forest_CheckPath.l0 c9 c10 c11 c12 c13 c14) s = some q) (hd : forest_CheckPath.l0.post c9 c10 c11 c12 c13 c14 r outs q) :
    WK Try.prog (22, 0) [.inLoop (sub b22 [1, 1, 0, 1, 0, 0]), .inBlock 0, .code (sub b22 [1, 1, 1])] (forest_CheckPath.l0.enc c9 c10 c11 c12 c13 c14 s) r outs := by
  refine WK.loop (forest_CheckPath.l0.enc c9 c10 c11 c12 c13 c14) (forest_CheckPath.l0 c9 c10 c11 c12 c13 c14) (forest_CheckPath.l0.post c9 c10 c11 c12 c13 c14 r outs) ?_ fuel s q h hd
  intro s x hx hn
  unfold forest_CheckPath.l0 at hx
  refine br_ok hx (fun h15 hx => ?_) (fun h15 hx => ?_)
  · refine getR_ok hx fun a16 h17 h18 hx => ?_
    refine bd_ok hx fun y19 e20 hx => ?_
    refine br_ok hx (fun h21 hx => ?_) (fun h21 hx => ?_)
    · have hx := Option.some.inj hx
      subst hx
      refine WK.run (an := [.lp, .reg [], .br true, .reg [(0, none, .row (eInt a16))], .reg [(3, none, .call [] [] (.pv (.int .i64 y19)) [] [])], .reg [], .br true, .reg []]) (kt := [8]) (ko := []) (k' := [.code (sub b22 [1, 1, 0, 1, 0, 0, 1, 1, 0, 0, 1, 1, 1, 0, 1]), .inBlock 1, .code (sub b22 [1, 1, 0, 1, 0, 0, 1, 1, 1]), .inLoop (sub b22 [1, 1, 0, 1, 0, 0]), .inBlock 0, .code (sub b22 [1, 1, 1])]) (σ' := ⟨38, [(8, .pv (.bool false))], []⟩) (ps := [(decide (s.2 < c11)) = true, 0 ≤ (s.2 : Int), (c10.map eInt)[(s.2 : Int).toNat]? = some (eInt a16), (eInt a16).length = 1, Spec Try.prog 47 [.aggp [.sl (c12.map Vertex.enc), .sl (c13.map Edge.enc), .sl (c14.map eInt)], .pv (.int .i64 s.1), .pv (.int .i64 a16)] [] (.pv (.int .i64 y19)) [], (decide (y19 < 0)) = true])
        (by kernel_rfl) ⟨h15, h17, rowOb h18, rfl, forest_step.ok (Graph.mk c12 c13 c14) s.1 a16 e20, h21, trivial⟩ ?_
      exact hn
    · have hx := Option.some.inj hx
      subst hx
      refine WK.run (an := [.lp, .reg [], .br true, .reg [(0, none, .row (eInt a16))], .reg [(3, none, .call [] [] (.pv (.int .i64 y19)) [] [])], .reg [], .br false, .reg []]) (kt := [1, 2, 4, 22, 23, 24]) (ko := [(101, 101)]) (k' := [.inLoop (sub b22 [1, 1, 0, 1, 0, 0]), .inBlock 0, .code (sub b22 [1, 1, 1])]) (σ' := forest_CheckPath.l0.enc c9 c10 c11 c12 c13 c14 (y19, (IntKind.i64.wrap (s.2 + 1)))) (ps := [(decide (s.2 < c11)) = true, 0 ≤ (s.2 : Int), (c10.map eInt)[(s.2 : Int).toNat]? = some (eInt a16), (eInt a16).length = 1, Spec Try.prog 47 [.aggp [.sl (c12.map Vertex.enc), .sl (c13.map Edge.enc), .sl (c14.map eInt)], .pv (.int .i64 s.1), .pv (.int .i64 a16)] [] (.pv (.int .i64 y19)) [], (decide (y19 < 0)) = false])
        (by kernel_rfl) ⟨h15, h17, rowOb h18, rfl, forest_step.ok (Graph.mk c12 c13 c14) s.1 a16 e20, h21, trivial⟩ ?_
      exact hn
  · have hx := Option.some.inj hx
    subst hx
    refine WK.run (an := [.lp, .reg [], .br false]) (kt := [1, 2]) (ko := []) (k' := [.code (sub b22 [1, 1, 1, 0]), .code (sub b22 [1, 1, 1, 1])]) (σ' := ⟨38, [(1, .pv (.int .i64 s.1)), (2, .pv (.int .i64 c9))], []⟩) (ps := [(decide (s.2 < c11)) = false])
      (by kernel_rfl) ⟨h15, trivial⟩ ?_
    exact hn

noncomputable def forest_CheckPath (v1 : Graph) (v2 : Int) (v3 : Int) (v4 : List Int) : Option Bool :=
  bd (forest_known v1 [v2, v3]) fun y5 =>
  br (!y5) (
    some false) (
    br (decide (((v4.length : Nat) : Int) > 40)) (
      some false) (
      bd (loopN fuel (forest_CheckPath.l0 v3 v4 ((v4.length : Nat) : Int) v1.Vertices v1.Edges v1.Depots) (v2, 0)) fun q22 =>
      match q22 with
      | .inl q22 =>
        some false
      | .inr q22 =>
        some (q22 == v3)))

theorem forest_CheckPath.ok (v1 : Graph) (v2 : Int) (v3 : Int) (v4 : List Int) {x : Bool} (hx : forest_CheckPath v1 v2 v3 v4 = some x) :
    Spec Try.prog 22 [.aggp [.sl (v1.Vertices.map Vertex.enc), .sl (v1.Edges.map Edge.enc), .sl (v1.Depots.map eInt)], .pv (.int .i64 v2), .pv (.int .i64 v3), .pv (.sl (v4.map eInt))] [] (.pv (.bool x)) [] := by
  refine Spec.of (c := b22) Try.func22 rfl rfl rfl ?_
  unfold forest_CheckPath at hx
  refine bd_ok hx fun y5 e6 hx => ?_
  refine br_ok hx (fun h7 hx => ?_) (fun h7 hx => ?_)
  · have hx := Option.some.inj hx
    subst hx
    refine WK.run (an := [.reg [(0, none, .nm 1003)], .reg [(3, none, .nm 1005), (4, none, .call [1005] [] (.pv (.bool y5)) [] []), (7, some true, .no)], .bk, .reg []]) (kt := [8]) (ko := []) (k' := [.code (sub b22 [1, 0, 1, 0, 1]), .code (sub b22 [1, 1])]) (σ' := ⟨38, [(8, .pv (.bool false))], []⟩) (ps := [1 = 1, 1 = 1, 1 = 1, 2 = ([v2, v3].map eInt).length, Spec Try.prog 45 [.aggp [.sl (v1.Vertices.map Vertex.enc), .sl (v1.Edges.map Edge.enc), .sl (v1.Depots.map eInt)], .pv (.sl ([v2, v3].map eInt))] [] (.pv (.bool y5)) [], (!y5) = true])
      (by kernel_rfl) ⟨rfl, rfl, rfl, rfl, forest_known.ok v1 [v2, v3] e6, h7, trivial⟩ ?_
    exact WK.ret (fn := Try.f22) Try.func22 (frz := []) (esc := []) (ps := []) (by kernel_rfl) trivial
  · refine br_ok hx (fun h8 hx => ?_) (fun h8 hx => ?_)
    · have hx := Option.some.inj hx
      subst hx
      refine WK.run (an := [.reg [(0, none, .nm 1003)], .reg [(3, none, .nm 1005), (4, none, .call [1005] [] (.pv (.bool y5)) [] []), (7, some false, .no), (8, none, .val (.pv (.int .i64 ((v4.length : Nat) : Int))))], .br true, .reg []]) (kt := [8]) (ko := []) (k' := [.code (sub b22 [1, 0, 1, 0, 1]), .code (sub b22 [1, 1])]) (σ' := ⟨38, [(8, .pv (.bool false))], []⟩) (ps := [1 = 1, 1 = 1, 1 = 1, 2 = ([v2, v3].map eInt).length, Spec Try.prog 45 [.aggp [.sl (v1.Vertices.map Vertex.enc), .sl (v1.Edges.map Edge.enc), .sl (v1.Depots.map eInt)], .pv (.sl ([v2, v3].map eInt))] [] (.pv (.bool y5)) [], (!y5) = false, AV.pv (.int .i64 ((v4.map eInt).length : Nat)) = .pv (.int .i64 (v4.length : Nat)), (decide (((v4.length : Nat) : Int) > 40)) = true])
        (by kernel_rfl) ⟨rfl, rfl, rfl, rfl, forest_known.ok v1 [v2, v3] e6, h7, lenOb, h8, trivial⟩ ?_
      exact WK.ret (fn := Try.f22) Try.func22 (frz := []) (esc := []) (ps := []) (by kernel_rfl) trivial
    · refine bd_ok hx fun q22 e23 hx => ?_
      refine WK.run (an := [.reg [(0, none, .nm 1003)], .reg [(3, none, .nm 1005), (4, none, .call [1005] [] (.pv (.bool y5)) [] []), (7, some false, .no), (8, none, .val (.pv (.int .i64 ((v4.length : Nat) : Int))))], .br false, .reg [(1, none, .val (.pv (.int .i64 ((v4.length : Nat) : Int))))]]) (kt := [1, 2, 4, 22, 23, 24]) (ko := [(1003, 101)]) (k' := [.code (sub b22 [1, 1, 0, 1, 0]), .inBlock 0, .code (sub b22 [1, 1, 1])]) (σ' := forest_CheckPath.l0.enc v3 v4 ((v4.length : Nat) : Int) v1.Vertices v1.Edges v1.Depots (v2, 0)) (ps := [1 = 1, 1 = 1, 1 = 1, 2 = ([v2, v3].map eInt).length, Spec Try.prog 45 [.aggp [.sl (v1.Vertices.map Vertex.enc), .sl (v1.Edges.map Edge.enc), .sl (v1.Depots.map eInt)], .pv (.sl ([v2, v3].map eInt))] [] (.pv (.bool y5)) [], (!y5) = false, AV.pv (.int .i64 ((v4.map eInt).length : Nat)) = .pv (.int .i64 (v4.length : Nat)), (decide (((v4.length : Nat) : Int) > 40)) = false, AV.pv (.int .i64 ((v4.map eInt).length : Nat)) = .pv (.int .i64 (v4.length : Nat))])
        (by kernel_rfl) ⟨rfl, rfl, rfl, rfl, forest_known.ok v1 [v2, v3] e6, h7, lenOb, h8, lenOb, trivial⟩ ?_
      refine WK.enterLoop (forest_CheckPath.l0.ok v3 v4 ((v4.length : Nat) : Int) v1.Vertices v1.Edges v1.Depots _ _ _ _ e23 ?_)
      rcases q22 with (q22 | q22)
      · have hx := Option.some.inj hx
        subst hx
        refine WK.run (an := []) (kt := [8]) (ko := []) (k' := [.code (sub b22 [1, 1, 0, 1, 0, 0, 1, 1, 0, 0, 1, 1, 1, 0, 1]), .inBlock 1, .code (sub b22 [1, 1, 0, 1, 0, 0, 1, 1, 1]), .inLoop (sub b22 [1, 1, 0, 1, 0, 0]), .inBlock 0, .code (sub b22 [1, 1, 1])]) (σ' := ⟨38, [(8, .pv (.bool false))], []⟩) (ps := [])
          (by kernel_rfl) trivial ?_
        exact WK.ret (fn := Try.f22) Try.func22 (frz := []) (esc := []) (ps := []) (by kernel_rfl) trivial
      · have hx := Option.some.inj hx
        subst hx
        refine WK.run (an := [.reg []]) (kt := [8]) (ko := []) (k' := [.code (sub b22 [1, 1, 1, 1])]) (σ' := ⟨38, [(8, .pv (.bool (q22 == v3)))], []⟩) (ps := [])
          (by kernel_rfl) trivial ?_
        exact WK.ret (fn := Try.f22) Try.func22 (frz := []) (esc := []) (ps := []) (by kernel_rfl) trivial

noncomputable abbrev b78 : Code := body Try.f78
noncomputable def slices_Index_int_int.l0 (c3 : List Int) (c4 : Int) (c5 : Int) (s : Int) : Option (Nx Int (Int ⊕ Unit)) :=
  br (decide (s < c5)) (
    getR c3 s fun a7 =>
    br (c4 == a7) (
      some (.done (.inl s))) (
      some (.cont (IntKind.i64.wrap (s + 1))))) (
    some (.done (.inr ())))

abbrev slices_Index_int_int.l0.enc (c3 : List Int) (c4 : Int) (c5 : Int) (s : Int) : St := ⟨19, [(0, .pv (.sl (c3.map eInt))), (1, .pv (.int .i64 c4)), (7, .pv (.int .i64 c5)), (8, .pv (.int .i64 s))], []⟩

abbrev slices_Index_int_int.l0.post (c3 : List Int) (c4 : Int) (c5 : Int) (r : AV) (outs : List AObj) (q : Int ⊕ Unit) : Prop := match q with | .inl q => WK Try.prog (78, 0) [.code (sub b78 [1, 0, 1, 0, 0, 1, 1, 0, 0, 1, 1, 0, 1]), .inBlock 1, .code (sub b78 [1, 0, 1, 0, 0, 1, 1, 1]), .inLoop (sub b78 [1, 0, 1, 0, 0]), .inBlock 0, .code (sub b78 [1, 1])] ⟨19, [(4, .pv (.int .i64 q))], []⟩ r outs | .inr q => WK Try.prog (78, 0) [.code (sub b78 [1, 1, 0]), .code (sub b78 [1, 1, 1])] ⟨19, [], []⟩ r outs

theorem slices_Index_int_int.l0.ok (c3 : List Int) (c4 : Int) (c5 : Int) (r : AV) (outs : List AObj) (s : Int) (q : Int ⊕ Unit) (h : loopN fuel (slices_Index_int_int.l0 c3 c4 c5) s = some q) (hd : slices_Index_int_int.l0.post c3 c4 c5 r outs q) :
    WK Try.prog (78, 0) [.inLoop (sub b78 [1, 0, 1, 0, 0]), .inBlock 0, .code (sub b78 [1, 1])] (slices_Index_int_int.l0.enc c3 c4 c5 s) r outs := by
  refine WK.loop (slices_Index_int_int.l0.enc c3 c4 c5) (slices_Index_int_int.l0 c3 c4 c5) (slices_Index_int_int.l0.post c3 c4 c5 r outs) ?_ fuel s q h hd
  intro s x hx hn
  unfold slices_Index_int_int.l0 at hx
  refine br_ok hx (fun h6 hx => ?_) (fun h6 hx => ?_)
  · refine getR_ok hx fun a7 h8 h9 hx => ?_
    refine br_ok hx (fun h10 hx => ?_) (fun h10 hx => ?_)
    · have hx := Option.some.inj hx
      subst hx
      refine WK.run (an := [.lp, .reg [], .br true, .reg [], .reg [(3, none, .row (eInt a7))], .br true, .reg []]) (kt := [4]) (ko := []) (k' := [.code (sub b78 [1, 0, 1, 0, 0, 1, 1, 0, 0, 1, 1, 0, 1]), .inBlock 1, .code (sub b78 [1, 0, 1, 0, 0, 1, 1, 1]), .inLoop (sub b78 [1, 0, 1, 0, 0]), .inBlock 0, .code (sub b78 [1, 1])]) (σ' := ⟨19, [(4, .pv (.int .i64 s))], []⟩) (ps := [(decide (s < c5)) = true, 0 ≤ (s : Int), (c3.map eInt)[(s : Int).toNat]? = some (eInt a7), (eInt a7).length = 1, (c4 == a7) = true])
        (by kernel_rfl) ⟨h6, h8, rowOb h9, rfl, h10, trivial⟩ ?_
      exact hn
    · have hx := Option.some.inj hx
      subst hx
      refine WK.run (an := [.lp, .reg [], .br true, .reg [], .reg [(3, none, .row (eInt a7))], .br false, .reg []]) (kt := [0, 1, 7, 8]) (ko := []) (k' := [.inLoop (sub b78 [1, 0, 1, 0, 0]), .inBlock 0, .code (sub b78 [1, 1])]) (σ' := slices_Index_int_int.l0.enc c3 c4 c5 (IntKind.i64.wrap (s + 1))) (ps := [(decide (s < c5)) = true, 0 ≤ (s : Int), (c3.map eInt)[(s : Int).toNat]? = some (eInt a7), (eInt a7).length = 1, (c4 == a7) = false])
        (by kernel_rfl) ⟨h6, h8, rowOb h9, rfl, h10, trivial⟩ ?_
      exact hn
  · have hx := Option.some.inj hx
    subst hx
    refine WK.run (an := [.lp, .reg [], .br false]) (kt := []) (ko := []) (k' := [.code (sub b78 [1, 1, 0]), .code (sub b78 [1, 1, 1])]) (σ' := ⟨19, [], []⟩) (ps := [(decide (s < c5)) = false])
      (by kernel_rfl) ⟨h6, trivial⟩ ?_
    exact hn

noncomputable def slices_Index_int_int (v1 : List Int) (v2 : Int) : Option Int :=
  bd (loopN fuel (slices_Index_int_int.l0 v1 v2 ((v1.length : Nat) : Int)) 0) fun q11 =>
  match q11 with
  | .inl q11 =>
    some q11
  | .inr q11 =>
    some (-1)

theorem slices_Index_int_int.ok (v1 : List Int) (v2 : Int) {x : Int} (hx : slices_Index_int_int v1 v2 = some x) :
    Spec Try.prog 78 [.pv (.sl (v1.map eInt)), .pv (.int .i64 v2)] [] (.pv (.int .i64 x)) [] := by
  refine Spec.of (c := b78) Try.func78 rfl rfl rfl ?_
  unfold slices_Index_int_int at hx
  refine bd_ok hx fun q11 e12 hx => ?_
  refine WK.run (an := [.reg [], .reg [(1, none, .val (.pv (.int .i64 ((v1.length : Nat) : Int))))]]) (kt := [0, 1, 7, 8]) (ko := []) (k' := [.code (sub b78 [1, 0, 1, 0]), .inBlock 0, .code (sub b78 [1, 1])]) (σ' := slices_Index_int_int.l0.enc v1 v2 ((v1.length : Nat) : Int) 0) (ps := [AV.pv (.int .i64 ((v1.map eInt).length : Nat)) = .pv (.int .i64 (v1.length : Nat))])
    (by kernel_rfl) ⟨lenOb, trivial⟩ ?_
  refine WK.enterLoop (slices_Index_int_int.l0.ok v1 v2 ((v1.length : Nat) : Int) _ _ _ _ e12 ?_)
  rcases q11 with (q11 | q11)
  · have hx := Option.some.inj hx
    subst hx
    refine WK.run (an := []) (kt := [4]) (ko := []) (k' := [.code (sub b78 [1, 0, 1, 0, 0, 1, 1, 0, 0, 1, 1, 0, 1]), .inBlock 1, .code (sub b78 [1, 0, 1, 0, 0, 1, 1, 1]), .inLoop (sub b78 [1, 0, 1, 0, 0]), .inBlock 0, .code (sub b78 [1, 1])]) (σ' := ⟨19, [(4, .pv (.int .i64 q11))], []⟩) (ps := [])
      (by kernel_rfl) trivial ?_
    exact WK.ret (fn := Try.f78) Try.func78 (frz := []) (esc := []) (ps := []) (by kernel_rfl) trivial
  · have hx := Option.some.inj hx
    subst hx
    refine WK.run (an := [.reg []]) (kt := [4]) (ko := []) (k' := [.code (sub b78 [1, 1, 1])]) (σ' := ⟨19, [(4, .pv (.int .i64 (-1)))], []⟩) (ps := [])
      (by kernel_rfl) trivial ?_
    exact WK.ret (fn := Try.f78) Try.func78 (frz := []) (esc := []) (ps := []) (by kernel_rfl) trivial

noncomputable abbrev b51 : Code := body Try.f51
noncomputable def slices_Contains_int_int (v1 : List Int) (v2 : Int) : Option Bool :=
  bd (slices_Index_int_int v1 v2) fun y3 =>
  some (decide (y3 ≥ 0))

theorem slices_Contains_int_int.ok (v1 : List Int) (v2 : Int) {x : Bool} (hx : slices_Contains_int_int v1 v2 = some x) :
    Spec Try.prog 51 [.pv (.sl (v1.map eInt)), .pv (.int .i64 v2)] [] (.pv (.bool x)) [] := by
  refine Spec.of (c := b51) Try.func51 rfl rfl rfl ?_
  unfold slices_Contains_int_int at hx
  refine bd_ok hx fun y3 e4 hx => ?_
  have hx := Option.some.inj hx
  subst hx
  refine WK.run (an := [.reg [], .reg [(2, none, .call [] [] (.pv (.int .i64 y3)) [] [])]]) (kt := [4]) (ko := []) (k' := [.code (sub b51 [1, 1])]) (σ' := ⟨9, [(4, .pv (.bool (decide (y3 ≥ 0))))], []⟩) (ps := [Spec Try.prog 78 [.pv (.sl (v1.map eInt)), .pv (.int .i64 v2)] [] (.pv (.int .i64 y3)) []])
    (by kernel_rfl) ⟨slices_Index_int_int.ok v1 v2 e4, trivial⟩ ?_
  exact WK.ret (fn := Try.f51) Try.func51 (frz := []) (esc := []) (ps := []) (by kernel_rfl) trivial

noncomputable abbrev b52 : Code := body Try.f52
noncomputable def forest_CheckSide_1 (v1 : Edge) (v2 : List Int) : Option Bool :=
  bd (slices_Contains_int_int v2 v1.From) fun y3 =>
  bd (slices_Contains_int_int v2 v1.To) fun y5 =>
  some (!(y3 == y5))

theorem forest_CheckSide_1.ok (v1 : Edge) (v2 : List Int) {x : Bool} (hx : forest_CheckSide_1 v1 v2 = some x) :
    Spec Try.prog 52 [.aggp [.int .i64 v1.ID, .int .i64 v1.From, .int .i64 v1.To, .bool v1.Directed, .int .i64 v1.Weight, .int .i64 v1.Cap], .ref 0 0 0 0] [.varp [.sl (v2.map eInt)]] (.pv (.bool x)) [.varp [.sl (v2.map eInt)]] := by
  refine Spec.of (c := b52) Try.func52 rfl rfl rfl ?_
  unfold forest_CheckSide_1 at hx
  refine bd_ok hx fun y3 e4 hx => ?_
  refine bd_ok hx fun y5 e6 hx => ?_
  have hx := Option.some.inj hx
  subst hx
  refine WK.run (an := [.reg [(0, none, .nm 1003)], .draw [0, 1, 2, 3, 4, 5, 6, 7, 8, 9] [(3, none, .call [] [] (.pv (.bool y3)) [] []), (7, none, .call [] [] (.pv (.bool y5)) [] [])]]) (kt := [3]) (ko := [(0, 0)]) (k' := [.code (sub b52 [1, 1])]) (σ' := ⟨13, [(3, .pv (.bool (!(y3 == y5))))], [(0, .varp [.sl (v2.map eInt)])]⟩) (ps := [Spec Try.prog 51 [.pv (.sl (v2.map eInt)), .pv (.int .i64 v1.From)] [] (.pv (.bool y3)) [], Spec Try.prog 51 [.pv (.sl (v2.map eInt)), .pv (.int .i64 v1.To)] [] (.pv (.bool y5)) []])
    (by kernel_rfl) ⟨slices_Contains_int_int.ok v2 v1.From e4, slices_Contains_int_int.ok v2 v1.To e6, trivial⟩ ?_
  exact WK.ret (fn := Try.f52) Try.func52 (frz := []) (esc := []) (ps := []) (by kernel_rfl) trivial

noncomputable def slices_IndexFunc_api_Edge_api_Edge_1.l0 (c3 : List Edge) (c4 : Int) (c5 : List Int) (s : Int) : Option (Nx Int (Int ⊕ Unit)) :=
  br (decide (s < c4)) (
    getR c3 s fun a7 =>
    bd (forest_CheckSide_1 a7 c5) fun y10 =>
    br y10 (
      some (.done (.inl s))) (
      some (.cont (IntKind.i64.wrap (s + 1))))) (
    some (.done (.inr ())))

abbrev slices_IndexFunc_api_Edge_api_Edge_1.l0.enc (c3 : List Edge) (c4 : Int) (c5 : List Int) (s : Int) : St := ⟨19, [(0, .pv (.sl (c3.map Edge.enc))), (1, .clo 52 [.ref 0 0 0 0]), (7, .pv (.int .i64 c4)), (8, .pv (.int .i64 s))], [(0, .varp [.sl (c5.map eInt)])]⟩

abbrev slices_IndexFunc_api_Edge_api_Edge_1.l0.post (c3 : List Edge) (c4 : Int) (c5 : List Int) (r : AV) (outs : List AObj) (q : Int ⊕ Unit) : Prop := match q with | .inl q => WK Try.prog (79, 1) [.code (sub b79 [1, 0, 1, 0, 0, 1, 1, 0, 0, 1, 1, 0, 1]), .inBlock 1, .code (sub b79 [1, 0, 1, 0, 0, 1, 1, 1]), .inLoop (sub b79 [1, 0, 1, 0, 0]), .inBlock 0, .code (sub b79 [1, 1])] ⟨19, [(4, .pv (.int .i64 q))], [(0, .varp [.sl (c5.map eInt)])]⟩ r outs | .inr q => WK Try.prog (79, 1) [.code (sub b79 [1, 1, 0]), .code (sub b79 [1, 1, 1])] ⟨19, [], [(0, .varp [.sl (c5.map eInt)])]⟩ r outs

theorem slices_IndexFunc_api_Edge_api_Edge_1.l0.ok (c3 : List Edge) (c4 : Int) (c5 : List Int) (r : AV) (outs : List AObj) (s : Int) (q : Int ⊕ Unit) (h : loopN fuel (slices_IndexFunc_api_Edge_api_Edge_1.l0 c3 c4 c5) s = some q) (hd : slices_IndexFunc_api_Edge_api_Edge_1.l0.post c3 c4 c5 r outs q) :
    WK Try.prog (79, 1) [.inLoop (sub b79 [1, 0, 1, 0, 0]), .inBlock 0, .code (sub b79 [1, 1])] (slices_IndexFunc_api_Edge_api_Edge_1.l0.enc c3 c4 c5 s) r outs := by
  refine WK.loop (slices_IndexFunc_api_Edge_api_Edge_1.l0.enc c3 c4 c5) (slices_IndexFunc_api_Edge_api_Edge_1.l0 c3 c4 c5) (slices_IndexFunc_api_Edge_api_Edge_1.l0.post c3 c4 c5 r outs) ?_ fuel s q h hd
  intro s x hx hn
  unfold slices_IndexFunc_api_Edge_api_Edge_1.l0 at hx
  refine br_ok hx (fun h6 hx => ?_) (fun h6 hx => ?_)
  · refine getR_ok hx fun a7 h8 h9 hx => ?_
    refine bd_ok hx fun y10 e11 hx => ?_
    refine br_ok hx (fun h12 hx => ?_) (fun h12 hx => ?_)
    · have hx := Option.some.inj hx
      subst hx
      refine WK.run (an := [.lp, .reg [], .br true, .reg [], .reg [(3, none, .row (Edge.enc a7)), (5, none, .call [] [0] (.pv (.bool y10)) [.varp [.sl (c5.map eInt)]] [])], .br true, .reg []]) (kt := [4]) (ko := [(0, 0)]) (k' := [.code (sub b79 [1, 0, 1, 0, 0, 1, 1, 0, 0, 1, 1, 0, 1]), .inBlock 1, .code (sub b79 [1, 0, 1, 0, 0, 1, 1, 1]), .inLoop (sub b79 [1, 0, 1, 0, 0]), .inBlock 0, .code (sub b79 [1, 1])]) (σ' := ⟨19, [(4, .pv (.int .i64 s))], [(0, .varp [.sl (c5.map eInt)])]⟩) (ps := [(decide (s < c4)) = true, 0 ≤ (s : Int), (c3.map Edge.enc)[(s : Int).toNat]? = some (Edge.enc a7), (Edge.enc a7).length = 6, Spec Try.prog 52 [.aggp [.int .i64 a7.ID, .int .i64 a7.From, .int .i64 a7.To, .bool a7.Directed, .int .i64 a7.Weight, .int .i64 a7.Cap], .ref 0 0 0 0] [.varp [.sl (c5.map eInt)]] (.pv (.bool y10)) [.varp [.sl (c5.map eInt)]], y10 = true])
        (by kernel_rfl) ⟨h6, h8, rowOb h9, rfl, forest_CheckSide_1.ok a7 c5 e11, h12, trivial⟩ ?_
      exact hn
    · have hx := Option.some.inj hx
      subst hx
      refine WK.run (an := [.lp, .reg [], .br true, .reg [], .reg [(3, none, .row (Edge.enc a7)), (5, none, .call [] [0] (.pv (.bool y10)) [.varp [.sl (c5.map eInt)]] [])], .br false, .reg []]) (kt := [0, 1, 7, 8]) (ko := [(0, 0)]) (k' := [.inLoop (sub b79 [1, 0, 1, 0, 0]), .inBlock 0, .code (sub b79 [1, 1])]) (σ' := slices_IndexFunc_api_Edge_api_Edge_1.l0.enc c3 c4 c5 (IntKind.i64.wrap (s + 1))) (ps := [(decide (s < c4)) = true, 0 ≤ (s : Int), (c3.map Edge.enc)[(s : Int).toNat]? = some (Edge.enc a7), (Edge.enc a7).length = 6, Spec Try.prog 52 [.aggp [.int .i64 a7.ID, .int .i64 a7.From, .int .i64 a7.To, .bool a7.Directed, .int .i64 a7.Weight, .int .i64 a7.Cap], .ref 0 0 0 0] [.varp [.sl (c5.map eInt)]] (.pv (.bool y10)) [.varp [.sl (c5.map eInt)]], y10 = false])
        (by kernel_rfl) ⟨h6, h8, rowOb h9, rfl, forest_CheckSide_1.ok a7 c5 e11, h12, trivial⟩ ?_
      exact hn
  · have hx := Option.some.inj hx
    subst hx
    refine WK.run (an := [.lp, .reg [], .br false]) (kt := []) (ko := [(0, 0)]) (k' := [.code (sub b79 [1, 1, 0]), .code (sub b79 [1, 1, 1])]) (σ' := ⟨19, [], [(0, .varp [.sl (c5.map eInt)])]⟩) (ps := [(decide (s < c4)) = false])
      (by kernel_rfl) ⟨h6, trivial⟩ ?_
    exact hn

noncomputable def slices_IndexFunc_api_Edge_api_Edge_1 (v1 : List Edge) (v2 : List Int) : Option Int :=
  bd (loopN fuel (slices_IndexFunc_api_Edge_api_Edge_1.l0 v1 ((v1.length : Nat) : Int) v2) 0) fun q13 =>
  match q13 with
  | .inl q13 =>
    some q13
  | .inr q13 =>
    some (-1)

theorem slices_IndexFunc_api_Edge_api_Edge_1.ok (v1 : List Edge) (v2 : List Int) {x : Int} (hx : slices_IndexFunc_api_Edge_api_Edge_1 v1 v2 = some x) :
    Spec Try.prog 79 [.pv (.sl (v1.map Edge.enc)), .clo 52 [.ref 0 0 0 0]] [.varp [.sl (v2.map eInt)]] (.pv (.int .i64 x)) [.varp [.sl (v2.map eInt)]] := by
  refine Spec.of (c := b79) Try.func79 rfl rfl rfl ?_
  unfold slices_IndexFunc_api_Edge_api_Edge_1 at hx
  refine bd_ok hx fun q13 e14 hx => ?_
  refine WK.run (an := [.reg [], .reg [(1, none, .val (.pv (.int .i64 ((v1.length : Nat) : Int))))]]) (kt := [0, 1, 7, 8]) (ko := [(0, 0)]) (k' := [.code (sub b79 [1, 0, 1, 0]), .inBlock 0, .code (sub b79 [1, 1])]) (σ' := slices_IndexFunc_api_Edge_api_Edge_1.l0.enc v1 ((v1.length : Nat) : Int) v2 0) (ps := [AV.pv (.int .i64 ((v1.map Edge.enc).length : Nat)) = .pv (.int .i64 (v1.length : Nat))])
    (by kernel_rfl) ⟨lenOb, trivial⟩ ?_
  refine WK.enterLoop (slices_IndexFunc_api_Edge_api_Edge_1.l0.ok v1 ((v1.length : Nat) : Int) v2 _ _ _ _ e14 ?_)
  rcases q13 with (q13 | q13)
  · have hx := Option.some.inj hx
    subst hx
    refine WK.run (an := []) (kt := [4]) (ko := [(0, 0)]) (k' := [.code (sub b79 [1, 0, 1, 0, 0, 1, 1, 0, 0, 1, 1, 0, 1]), .inBlock 1, .code (sub b79 [1, 0, 1, 0, 0, 1, 1, 1]), .inLoop (sub b79 [1, 0, 1, 0, 0]), .inBlock 0, .code (sub b79 [1, 1])]) (σ' := ⟨19, [(4, .pv (.int .i64 q13))], [(0, .varp [.sl (v2.map eInt)])]⟩) (ps := [])
      (by kernel_rfl) trivial ?_
    exact WK.ret (fn := Try.f79) Try.func79 (frz := []) (esc := []) (ps := []) (by kernel_rfl) trivial
  · have hx := Option.some.inj hx
    subst hx
    refine WK.run (an := [.reg []]) (kt := [4]) (ko := [(0, 0)]) (k' := [.code (sub b79 [1, 1, 1])]) (σ' := ⟨19, [(4, .pv (.int .i64 (-1)))], [(0, .varp [.sl (v2.map eInt)])]⟩) (ps := [])
      (by kernel_rfl) trivial ?_
    exact WK.ret (fn := Try.f79) Try.func79 (frz := []) (esc := []) (ps := []) (by kernel_rfl) trivial

noncomputable def slices_ContainsFunc_api_Edge_api_Edge_1 (v1 : List Edge) (v2 : List Int) : Option Bool :=
  bd (slices_IndexFunc_api_Edge_api_Edge_1 v1 v2) fun y3 =>
  some (decide (y3 ≥ 0))

theorem slices_ContainsFunc_api_Edge_api_Edge_1.ok (v1 : List Edge) (v2 : List Int) {x : Bool} (hx : slices_ContainsFunc_api_Edge_api_Edge_1 v1 v2 = some x) :
    Spec Try.prog 53 [.pv (.sl (v1.map Edge.enc)), .clo 52 [.ref 0 0 0 0]] [.varp [.sl (v2.map eInt)]] (.pv (.bool x)) [.varp [.sl (v2.map eInt)]] := by
  refine Spec.of (c := b53) Try.func53 rfl rfl rfl ?_
  unfold slices_ContainsFunc_api_Edge_api_Edge_1 at hx
  refine bd_ok hx fun y3 e4 hx => ?_
  have hx := Option.some.inj hx
  subst hx
  refine WK.run (an := [.reg [], .reg [(2, none, .call [] [0] (.pv (.int .i64 y3)) [.varp [.sl (v2.map eInt)]] [])]]) (kt := [4]) (ko := [(0, 0)]) (k' := [.code (sub b53 [1, 1])]) (σ' := ⟨9, [(4, .pv (.bool (decide (y3 ≥ 0))))], [(0, .varp [.sl (v2.map eInt)])]⟩) (ps := [Spec Try.prog 79 [.pv (.sl (v1.map Edge.enc)), .clo 52 [.ref 0 0 0 0]] [.varp [.sl (v2.map eInt)]] (.pv (.int .i64 y3)) [.varp [.sl (v2.map eInt)]]])
    (by kernel_rfl) ⟨slices_IndexFunc_api_Edge_api_Edge_1.ok v1 v2 e4, trivial⟩ ?_
  exact WK.ret (fn := Try.f53) Try.func53 (frz := []) (esc := []) (ps := []) (by kernel_rfl) trivial

noncomputable abbrev b24 : Code := body Try.f24
noncomputable def forest_CheckSide.l0 (c15 : List Int) (c16 : Int) (c17 : List Vertex) (c18 : List Edge) (c19 : List Int) (c20 : List Int) (s : Int) : Option (Nx Int (Unit ⊕ Unit)) :=
  br (decide (s < c16)) (
    getR c15 s fun a22 =>
    br (decide (s > 0)) (
      getR c20 (IntKind.i64.wrap (s - 1)) fun a26 =>
      br (decide (a26 ≥ a22)) (
        some (.done (.inl ()))) (
        some (.cont (IntKind.i64.wrap (s + 1))))) (
      some (.cont (IntKind.i64.wrap (s + 1))))) (
    some (.done (.inr ())))

abbrev forest_CheckSide.l0.enc (c15 : List Int) (c16 : Int) (c17 : List Vertex) (c18 : List Edge) (c19 : List Int) (c20 : List Int) (s : Int) : St := ⟨56, [(4, .ref 101 0 0 0), (7, .ref 103 0 0 0), (31, .pv (.sl (c15.map eInt))), (32, .pv (.int .i64 c16)), (33, .pv (.int .i64 s))], [(101, .varp [.sl (c17.map Vertex.enc), .sl (c18.map Edge.enc), .sl (c19.map eInt)]), (103, .varp [.sl (c20.map eInt)])]⟩

abbrev forest_CheckSide.l0.post (c15 : List Int) (c16 : Int) (c17 : List Vertex) (c18 : List Edge) (c19 : List Int) (c20 : List Int) (r : AV) (outs : List AObj) (q : Unit ⊕ Unit) : Prop := match q with | .inl q => WK Try.prog (24, 0) [.code (sub b24 [1, 1, 0, 1, 0, 0, 1, 1, 0, 0, 1, 1, 0, 1]), .inBlock 1, .code (sub b24 [1, 1, 0, 1, 0, 0, 1, 1, 1]), .inLoop (sub b24 [1, 1, 0, 1, 0, 0]), .inBlock 0, .code (sub b24 [1, 1, 1])] ⟨56, [(8, .pv (.bool false))], []⟩ r outs | .inr q => WK Try.prog (24, 0) [.code (sub b24 [1, 1, 1, 0]), .code (sub b24 [1, 1, 1, 1])] ⟨56, [(4, .ref 101 0 0 0), (7, .ref 103 0 0 0)], [(101, .varp [.sl (c17.map Vertex.enc), .sl (c18.map Edge.enc), .sl (c19.map eInt)]), (103, .varp [.sl (c20.map eInt)])]⟩ r outs

theorem forest_CheckSide.l0.ok (c15 : List Int) (c16 : Int) (c17 : List Vertex) (c18 : List Edge) (c19 : List Int) (c20 : List Int) (r : AV) (outs : List AObj) (s : Int) (q : Unit ⊕ Unit) (h : loopN fuel (forest_CheckSide.l0 c15 c16 c17 c18 c19 c20) s = some q) (hd : forest_CheckSide.l0.post c15 c16 c17 c18 c19 c20 r outs q) :
    WK Try.prog (24, 0) [.inLoop (sub b24 [1, 1, 0, 1, 0, 0]), .inBlock 0, .code (sub b24 [1, 1, 1])] (forest_CheckSide.l0.enc c15 c16 c17 c18 c19 c20 s) r outs := by
  refine WK.loop (forest_CheckSide.l0.enc c15 c16 c17 c18 c19 c20) (forest_CheckSide.l0 c15 c16 c17 c18 c19 c20) (forest_CheckSide.l0.post c15 c16 c17 c18 c19 c20 r outs) ?_ fuel s q h hd
  intro s x hx hn
  unfold forest_CheckSide.l0 at hx
  refine br_ok hx (fun h21 hx => ?_) (fun h21 hx => ?_)
  · refine getR_ok hx fun a22 h23 h24 hx => ?_
    refine br_ok hx (fun h25 hx => ?_) (fun h25 hx => ?_)
    · refine getR_ok hx fun a26 h27 h28 hx => ?_
      refine br_ok hx (fun h29 hx => ?_) (fun h29 hx => ?_)
      · have hx := Option.some.inj hx
        subst hx
        refine WK.run (an := [.lp, .reg [], .br true, .reg [(1, none, .row (eInt a22))], .reg [(3, some true, .no), (6, none, .row (eInt a26))], .br true, .reg []]) (kt := [8]) (ko := []) (k' := [.code (sub b24 [1, 1, 0, 1, 0, 0, 1, 1, 0, 0, 1, 1, 0, 1]), .inBlock 1, .code (sub b24 [1, 1, 0, 1, 0, 0, 1, 1, 1]), .inLoop (sub b24 [1, 1, 0, 1, 0, 0]), .inBlock 0, .code (sub b24 [1, 1, 1])]) (σ' := ⟨56, [(8, .pv (.bool false))], []⟩) (ps := [(decide (s < c16)) = true, 0 ≤ (s : Int), (c15.map eInt)[(s : Int).toNat]? = some (eInt a22), (eInt a22).length = 1, (decide (s > 0)) = true, 0 ≤ ((IntKind.i64.wrap (s - 1)) : Int), (c20.map eInt)[((IntKind.i64.wrap (s - 1)) : Int).toNat]? = some (eInt a26), (eInt a26).length = 1, (decide (a26 ≥ a22)) = true])
          (by kernel_rfl) ⟨h21, h23, rowOb h24, rfl, h25, h27, rowOb h28, rfl, h29, trivial⟩ ?_
        exact hn
      · have hx := Option.some.inj hx
        subst hx
        refine WK.run (an := [.lp, .reg [], .br true, .reg [(1, none, .row (eInt a22))], .reg [(3, some true, .no), (6, none, .row (eInt a26))], .br false, .reg []]) (kt := [4, 7, 31, 32, 33]) (ko := [(101, 101), (103, 103)]) (k' := [.inLoop (sub b24 [1, 1, 0, 1, 0, 0]), .inBlock 0, .code (sub b24 [1, 1, 1])]) (σ' := forest_CheckSide.l0.enc c15 c16 c17 c18 c19 c20 (IntKind.i64.wrap (s + 1))) (ps := [(decide (s < c16)) = true, 0 ≤ (s : Int), (c15.map eInt)[(s : Int).toNat]? = some (eInt a22), (eInt a22).length = 1, (decide (s > 0)) = true, 0 ≤ ((IntKind.i64.wrap (s - 1)) : Int), (c20.map eInt)[((IntKind.i64.wrap (s - 1)) : Int).toNat]? = some (eInt a26), (eInt a26).length = 1, (decide (a26 ≥ a22)) = false])
          (by kernel_rfl) ⟨h21, h23, rowOb h24, rfl, h25, h27, rowOb h28, rfl, h29, trivial⟩ ?_
        exact hn
    · have hx := Option.some.inj hx
      subst hx
      refine WK.run (an := [.lp, .reg [], .br true, .reg [(1, none, .row (eInt a22))], .reg [(3, some false, .no)], .bk, .reg []]) (kt := [4, 7, 31, 32, 33]) (ko := [(101, 101), (103, 103)]) (k' := [.inLoop (sub b24 [1, 1, 0, 1, 0, 0]), .inBlock 0, .code (sub b24 [1, 1, 1])]) (σ' := forest_CheckSide.l0.enc c15 c16 c17 c18 c19 c20 (IntKind.i64.wrap (s + 1))) (ps := [(decide (s < c16)) = true, 0 ≤ (s : Int), (c15.map eInt)[(s : Int).toNat]? = some (eInt a22), (eInt a22).length = 1, (decide (s > 0)) = false])
        (by kernel_rfl) ⟨h21, h23, rowOb h24, rfl, h25, trivial⟩ ?_
      exact hn
  · have hx := Option.some.inj hx
    subst hx
    refine WK.run (an := [.lp, .reg [], .br false]) (kt := [4, 7]) (ko := [(101, 101), (103, 103)]) (k' := [.code (sub b24 [1, 1, 1, 0]), .code (sub b24 [1, 1, 1, 1])]) (σ' := ⟨56, [(4, .ref 101 0 0 0), (7, .ref 103 0 0 0)], [(101, .varp [.sl (c17.map Vertex.enc), .sl (c18.map Edge.enc), .sl (c19.map eInt)]), (103, .varp [.sl (c20.map eInt)])]⟩) (ps := [(decide (s < c16)) = false])
      (by kernel_rfl) ⟨h21, trivial⟩ ?_
    exact hn

noncomputable def forest_CheckSide (v1 : Graph) (v2 : Int) (v3 : Int) (v4 : List Int) : Option Bool :=
  gd (([v2, v3] ++ v4).length ≤ bigLen) <|
  bd (forest_known v1 ([v2, v3] ++ v4)) fun y6 =>
  br (!y6) (
    some false) (
    bd (slices_Contains_int_int v4 v2) fun y9 =>
    br (!y9) (
      some false) (
      bd (slices_Contains_int_int v4 v3) fun y12 =>
      br y12 (
        some false) (
        bd (loopN fuel (forest_CheckSide.l0 v4 ((v4.length : Nat) : Int) v1.Vertices v1.Edges v1.Depots v4) 0) fun q30 =>
        match q30 with
        | .inl q30 =>
          some false
        | .inr q30 =>
          bd (slices_ContainsFunc_api_Edge_api_Edge_1 v1.Edges v4) fun y32 =>
          some (!y32))))

theorem forest_CheckSide.ok (v1 : Graph) (v2 : Int) (v3 : Int) (v4 : List Int) {x : Bool} (hx : forest_CheckSide v1 v2 v3 v4 = some x) :
    Spec Try.prog 24 [.aggp [.sl (v1.Vertices.map Vertex.enc), .sl (v1.Edges.map Edge.enc), .sl (v1.Depots.map eInt)], .pv (.int .i64 v2), .pv (.int .i64 v3), .pv (.sl (v4.map eInt))] [] (.pv (.bool x)) [] := by
  refine Spec.of (c := b24) Try.func24 rfl rfl rfl ?_
  unfold forest_CheckSide at hx
  refine gd_ok hx fun h5 hx => ?_
  refine bd_ok hx fun y6 e7 hx => ?_
  refine br_ok hx (fun h8 hx => ?_) (fun h8 hx => ?_)
  · have hx := Option.some.inj hx
    subst hx
    refine WK.run (an := [.reg [(0, none, .nm 1003), (1, none, .nm 1005)], .draw [0, 1, 2, 3, 4, 5, 6, 7, 8, 9, 10, 11, 12, 13, 14, 15, 16, 17, 18] [(3, none, .nm 1007), (5, none, .app 1009 (([v2, v3] ++ v4).map eInt)), (6, none, .call [1009] [] (.pv (.bool y6)) [] []), (9, some true, .no), (10, some true, .no), (11, some true, .no), (12, some true, .no), (13, none, .bit true)], .bk, .reg []]) (kt := [8]) (ko := []) (k' := [.code (sub b24 [1, 0, 1, 0, 1]), .code (sub b24 [1, 1])]) (σ' := ⟨56, [(8, .pv (.bool false))], []⟩) (ps := [1 = 1, 1 = 1, 1 = 1, 0 + 2 = ([v2, v3].map eInt).length, ([v2, v3].map eInt).drop 0 ++ (v4.map eInt) = (([v2, v3] ++ v4).map eInt), (([v2, v3] ++ v4).map eInt).length ≤ bigLen, ∀ r ∈ (v4.map eInt), r.length = 1, (([v2, v3] ++ v4).map eInt).length = (([v2, v3] ++ v4).map eInt).length, Spec Try.prog 45 [.aggp [.sl (v1.Vertices.map Vertex.enc), .sl (v1.Edges.map Edge.enc), .sl (v1.Depots.map eInt)], .pv (.sl (([v2, v3] ++ v4).map eInt))] [] (.pv (.bool y6)) [], (!y6) = true, (!y6) = true, (!y6) = true, (!y6) = true, (!y6) = true])
      (by kernel_rfl) ⟨rfl, rfl, rfl, Nat.zero_add _, by simp [cut1, List.take_of_length_le], bigOb h5, map_len fun _ => rfl, rfl, forest_known.ok v1 ([v2, v3] ++ v4) e7, h8, h8, h8, h8, h8, trivial⟩ ?_
    exact WK.ret (fn := Try.f24) Try.func24 (frz := []) (esc := []) (ps := []) (by kernel_rfl) trivial
  · refine bd_ok hx fun y9 e10 hx => ?_
    refine br_ok hx (fun h11 hx => ?_) (fun h11 hx => ?_)
    · have hx := Option.some.inj hx
      subst hx
      refine WK.run (an := [.reg [(0, none, .nm 1003), (1, none, .nm 1005)], .draw [0, 1, 2, 3, 4, 5, 6, 7, 8, 9, 10, 11, 12, 13, 14, 15, 16, 17, 18] [(3, none, .nm 1007), (5, none, .app 1009 (([v2, v3] ++ v4).map eInt)), (6, none, .call [1009] [] (.pv (.bool y6)) [] []), (9, some false, .no), (10, some false, .no), (11, some false, .call [] [] (.pv (.bool y9)) [] []), (12, some false, .no), (13, none, .bit false), (15, some true, .no), (16, some true, .no), (17, some true, .no), (18, none, .bit true)], .bk, .reg []]) (kt := [8]) (ko := []) (k' := [.code (sub b24 [1, 0, 1, 0, 1]), .code (sub b24 [1, 1])]) (σ' := ⟨56, [(8, .pv (.bool false))], []⟩) (ps := [1 = 1, 1 = 1, 1 = 1, 0 + 2 = ([v2, v3].map eInt).length, ([v2, v3].map eInt).drop 0 ++ (v4.map eInt) = (([v2, v3] ++ v4).map eInt), (([v2, v3] ++ v4).map eInt).length ≤ bigLen, ∀ r ∈ (v4.map eInt), r.length = 1, (([v2, v3] ++ v4).map eInt).length = (([v2, v3] ++ v4).map eInt).length, Spec Try.prog 45 [.aggp [.sl (v1.Vertices.map Vertex.enc), .sl (v1.Edges.map Edge.enc), .sl (v1.Depots.map eInt)], .pv (.sl (([v2, v3] ++ v4).map eInt))] [] (.pv (.bool y6)) [], (!y6) = false, (!y6) = false, (!y6) = false, Spec Try.prog 51 [.pv (.sl (v4.map eInt)), .pv (.int .i64 v2)] [] (.pv (.bool y9)) [], (!y6) = false, (!y6) = false, (!y9) = true, (!y9) = true, (!y9) = true, (!y9) = true])
        (by kernel_rfl) ⟨rfl, rfl, rfl, Nat.zero_add _, by simp [cut1, List.take_of_length_le], bigOb h5, map_len fun _ => rfl, rfl, forest_known.ok v1 ([v2, v3] ++ v4) e7, h8, h8, h8, slices_Contains_int_int.ok v4 v2 e10, h8, h8, h11, h11, h11, h11, trivial⟩ ?_
      exact WK.ret (fn := Try.f24) Try.func24 (frz := []) (esc := []) (ps := []) (by kernel_rfl) trivial
    · refine bd_ok hx fun y12 e13 hx => ?_
      refine WK.run (an := [.reg [(0, none, .nm 1003), (1, none, .nm 1005)], .draw [0, 1, 2, 3, 4, 5, 6, 7, 8, 9, 10, 11, 12, 13, 14, 15, 16, 17, 18] [(3, none, .nm 1007), (5, none, .app 1009 (([v2, v3] ++ v4).map eInt)), (6, none, .call [1009] [] (.pv (.bool y6)) [] []), (9, some false, .no), (10, some false, .no), (11, some false, .call [] [] (.pv (.bool y9)) [] []), (12, some false, .no), (13, none, .bit false), (15, some false, .no), (16, some false, .no), (17, some false, .call [] [] (.pv (.bool y12)) [] []), (18, none, .bit false)]]) (kt := [4, 7, 30]) (ko := [(1003, 101), (1005, 103)]) (k' := [.code (sub b24 [1, 0, 1]), .code (sub b24 [1, 1])]) (σ' := ⟨56, [(4, .ref 101 0 0 0), (7, .ref 103 0 0 0), (30, .pv (.bool y12))], [(101, .varp [.sl (v1.Vertices.map Vertex.enc), .sl (v1.Edges.map Edge.enc), .sl (v1.Depots.map eInt)]), (103, .varp [.sl (v4.map eInt)])]⟩) (ps := [1 = 1, 1 = 1, 1 = 1, 0 + 2 = ([v2, v3].map eInt).length, ([v2, v3].map eInt).drop 0 ++ (v4.map eInt) = (([v2, v3] ++ v4).map eInt), (([v2, v3] ++ v4).map eInt).length ≤ bigLen, ∀ r ∈ (v4.map eInt), r.length = 1, (([v2, v3] ++ v4).map eInt).length = (([v2, v3] ++ v4).map eInt).length, Spec Try.prog 45 [.aggp [.sl (v1.Vertices.map Vertex.enc), .sl (v1.Edges.map Edge.enc), .sl (v1.Depots.map eInt)], .pv (.sl (([v2, v3] ++ v4).map eInt))] [] (.pv (.bool y6)) [], (!y6) = false, (!y6) = false, (!y6) = false, Spec Try.prog 51 [.pv (.sl (v4.map eInt)), .pv (.int .i64 v2)] [] (.pv (.bool y9)) [], (!y6) = false, (!y6) = false, (!y9) = false, (!y9) = false, (!y9) = false, Spec Try.prog 51 [.pv (.sl (v4.map eInt)), .pv (.int .i64 v3)] [] (.pv (.bool y12)) [], (!y9) = false])
        (by kernel_rfl) ⟨rfl, rfl, rfl, Nat.zero_add _, by simp [cut1, List.take_of_length_le], bigOb h5, map_len fun _ => rfl, rfl, forest_known.ok v1 ([v2, v3] ++ v4) e7, h8, h8, h8, slices_Contains_int_int.ok v4 v2 e10, h8, h8, h11, h11, h11, slices_Contains_int_int.ok v4 v3 e13, h11, trivial⟩ ?_
      refine br_ok hx (fun h14 hx => ?_) (fun h14 hx => ?_)
      · have hx := Option.some.inj hx
        subst hx
        refine WK.run (an := [.br true, .reg []]) (kt := [8]) (ko := []) (k' := [.code (sub b24 [1, 0, 1, 0, 1]), .code (sub b24 [1, 1])]) (σ' := ⟨56, [(8, .pv (.bool false))], []⟩) (ps := [y12 = true])
          (by kernel_rfl) ⟨h14, trivial⟩ ?_
        exact WK.ret (fn := Try.f24) Try.func24 (frz := []) (esc := []) (ps := []) (by kernel_rfl) trivial
      · refine bd_ok hx fun q30 e31 hx => ?_
        refine WK.run (an := [.br false, .reg [(1, none, .val (.pv (.int .i64 ((v4.length : Nat) : Int))))]]) (kt := [4, 7, 31, 32, 33]) (ko := [(101, 101), (103, 103)]) (k' := [.code (sub b24 [1, 1, 0, 1, 0]), .inBlock 0, .code (sub b24 [1, 1, 1])]) (σ' := forest_CheckSide.l0.enc v4 ((v4.length : Nat) : Int) v1.Vertices v1.Edges v1.Depots v4 0) (ps := [y12 = false, AV.pv (.int .i64 ((v4.map eInt).length : Nat)) = .pv (.int .i64 (v4.length : Nat))])
          (by kernel_rfl) ⟨h14, lenOb, trivial⟩ ?_
        refine WK.enterLoop (forest_CheckSide.l0.ok v4 ((v4.length : Nat) : Int) v1.Vertices v1.Edges v1.Depots v4 _ _ _ _ e31 ?_)
        rcases q30 with (q30 | q30)
        · have hx := Option.some.inj hx
          subst hx
          refine WK.run (an := []) (kt := [8]) (ko := []) (k' := [.code (sub b24 [1, 1, 0, 1, 0, 0, 1, 1, 0, 0, 1, 1, 0, 1]), .inBlock 1, .code (sub b24 [1, 1, 0, 1, 0, 0, 1, 1, 1]), .inLoop (sub b24 [1, 1, 0, 1, 0, 0]), .inBlock 0, .code (sub b24 [1, 1, 1])]) (σ' := ⟨56, [(8, .pv (.bool false))], []⟩) (ps := [])
            (by kernel_rfl) trivial ?_
          exact WK.ret (fn := Try.f24) Try.func24 (frz := []) (esc := []) (ps := []) (by kernel_rfl) trivial
        · refine bd_ok hx fun y32 e33 hx => ?_
          have hx := Option.some.inj hx
          subst hx
          refine WK.run (an := [.reg [], .reg [(3, none, .call [] [103] (.pv (.bool y32)) [.varp [.sl (v4.map eInt)]] [])]]) (kt := [8]) (ko := []) (k' := [.code (sub b24 [1, 1, 1, 1, 1])]) (σ' := ⟨56, [(8, .pv (.bool (!y32)))], []⟩) (ps := [Spec Try.prog 53 [.pv (.sl (v1.Edges.map Edge.enc)), .clo 52 [.ref 0 0 0 0]] [.varp [.sl (v4.map eInt)]] (.pv (.bool y32)) [.varp [.sl (v4.map eInt)]]])
            (by kernel_rfl) ⟨slices_ContainsFunc_api_Edge_api_Edge_1.ok v1.Edges v4 e33, trivial⟩ ?_
          exact WK.ret (fn := Try.f24) Try.func24 (frz := []) (esc := []) (ps := []) (by kernel_rfl) trivial

noncomputable abbrev b21 : Code := body Try.f21
noncomputable def clearwayref03_Ints.l0 (c4 : List Int) (c5 : List Int) (s : Int) : Option (Nx Int (Unit ⊕ Unit)) :=
  br (decide (s < ((c4.length : Nat) : Int))) (
    getR c4 s fun a7 =>
    getR c5 s fun a10 =>
    br (a7 != a10) (
      some (.done (.inl ()))) (
      some (.cont (IntKind.i64.wrap (s + 1))))) (
    some (.done (.inr ())))

abbrev clearwayref03_Ints.l0.enc (c4 : List Int) (c5 : List Int) (s : Int) : St := ⟨26, [(0, .pv (.sl (c4.map eInt))), (1, .pv (.sl (c5.map eInt))), (5, .pv (.int .i64 s))], []⟩

abbrev clearwayref03_Ints.l0.post (c4 : List Int) (c5 : List Int) (r : AV) (outs : List AObj) (q : Unit ⊕ Unit) : Prop := match q with | .inl q => WK Try.prog (21, 0) [.code (sub b21 [1, 1, 0, 1, 0, 0, 1, 0, 0, 1, 0, 1]), .inBlock 1, .code (sub b21 [1, 1, 0, 1, 0, 0, 1, 1]), .inLoop (sub b21 [1, 1, 0, 1, 0, 0]), .inBlock 0, .code (sub b21 [1, 1, 1])] ⟨26, [(4, .pv (.bool false))], []⟩ r outs | .inr q => WK Try.prog (21, 0) [.code (sub b21 [1, 1, 1, 0]), .code (sub b21 [1, 1, 1, 1])] ⟨26, [], []⟩ r outs

theorem clearwayref03_Ints.l0.ok (c4 : List Int) (c5 : List Int) (r : AV) (outs : List AObj) (s : Int) (q : Unit ⊕ Unit) (h : loopN fuel (clearwayref03_Ints.l0 c4 c5) s = some q) (hd : clearwayref03_Ints.l0.post c4 c5 r outs q) :
    WK Try.prog (21, 0) [.inLoop (sub b21 [1, 1, 0, 1, 0, 0]), .inBlock 0, .code (sub b21 [1, 1, 1])] (clearwayref03_Ints.l0.enc c4 c5 s) r outs := by
  refine WK.loop (clearwayref03_Ints.l0.enc c4 c5) (clearwayref03_Ints.l0 c4 c5) (clearwayref03_Ints.l0.post c4 c5 r outs) ?_ fuel s q h hd
  intro s x hx hn
  unfold clearwayref03_Ints.l0 at hx
  refine br_ok hx (fun h6 hx => ?_) (fun h6 hx => ?_)
  · refine getR_ok hx fun a7 h8 h9 hx => ?_
    refine getR_ok hx fun a10 h11 h12 hx => ?_
    refine br_ok hx (fun h13 hx => ?_) (fun h13 hx => ?_)
    · have hx := Option.some.inj hx
      subst hx
      refine WK.run (an := [.lp, .reg [(2, none, .val (.pv (.int .i64 ((c4.length : Nat) : Int))))], .br true, .draw [0, 1, 2, 3, 4, 5, 6, 7, 8] [(2, none, .row (eInt a7)), (6, none, .row (eInt a10))], .br true, .reg []]) (kt := [4]) (ko := []) (k' := [.code (sub b21 [1, 1, 0, 1, 0, 0, 1, 0, 0, 1, 0, 1]), .inBlock 1, .code (sub b21 [1, 1, 0, 1, 0, 0, 1, 1]), .inLoop (sub b21 [1, 1, 0, 1, 0, 0]), .inBlock 0, .code (sub b21 [1, 1, 1])]) (σ' := ⟨26, [(4, .pv (.bool false))], []⟩) (ps := [AV.pv (.int .i64 ((c4.map eInt).length : Nat)) = .pv (.int .i64 (c4.length : Nat)), (decide (s < ((c4.length : Nat) : Int))) = true, 0 ≤ (s : Int), (c4.map eInt)[(s : Int).toNat]? = some (eInt a7), (eInt a7).length = 1, 0 ≤ (s : Int), (c5.map eInt)[(s : Int).toNat]? = some (eInt a10), (eInt a10).length = 1, (a7 != a10) = true])
        (by kernel_rfl) ⟨lenOb, h6, h8, rowOb h9, rfl, h11, rowOb h12, rfl, h13, trivial⟩ ?_
      exact hn
    · have hx := Option.some.inj hx
      subst hx
      refine WK.run (an := [.lp, .reg [(2, none, .val (.pv (.int .i64 ((c4.length : Nat) : Int))))], .br true, .draw [0, 1, 2, 3, 4, 5, 6, 7, 8] [(2, none, .row (eInt a7)), (6, none, .row (eInt a10))], .br false, .reg []]) (kt := [0, 1, 5]) (ko := []) (k' := [.inLoop (sub b21 [1, 1, 0, 1, 0, 0]), .inBlock 0, .code (sub b21 [1, 1, 1])]) (σ' := clearwayref03_Ints.l0.enc c4 c5 (IntKind.i64.wrap (s + 1))) (ps := [AV.pv (.int .i64 ((c4.map eInt).length : Nat)) = .pv (.int .i64 (c4.length : Nat)), (decide (s < ((c4.length : Nat) : Int))) = true, 0 ≤ (s : Int), (c4.map eInt)[(s : Int).toNat]? = some (eInt a7), (eInt a7).length = 1, 0 ≤ (s : Int), (c5.map eInt)[(s : Int).toNat]? = some (eInt a10), (eInt a10).length = 1, (a7 != a10) = false])
        (by kernel_rfl) ⟨lenOb, h6, h8, rowOb h9, rfl, h11, rowOb h12, rfl, h13, trivial⟩ ?_
      exact hn
  · have hx := Option.some.inj hx
    subst hx
    refine WK.run (an := [.lp, .reg [(2, none, .val (.pv (.int .i64 ((c4.length : Nat) : Int))))], .br false]) (kt := []) (ko := []) (k' := [.code (sub b21 [1, 1, 1, 0]), .code (sub b21 [1, 1, 1, 1])]) (σ' := ⟨26, [], []⟩) (ps := [AV.pv (.int .i64 ((c4.map eInt).length : Nat)) = .pv (.int .i64 (c4.length : Nat)), (decide (s < ((c4.length : Nat) : Int))) = false])
      (by kernel_rfl) ⟨lenOb, h6, trivial⟩ ?_
    exact hn

noncomputable def clearwayref03_Ints (v1 : List Int) (v2 : List Int) : Option Bool :=
  br (((v1.length : Nat) : Int) != ((v2.length : Nat) : Int)) (
    some false) (
    bd (loopN fuel (clearwayref03_Ints.l0 v1 v2) 0) fun q14 =>
    match q14 with
    | .inl q14 =>
      some false
    | .inr q14 =>
      some true)

theorem clearwayref03_Ints.ok (v1 : List Int) (v2 : List Int) {x : Bool} (hx : clearwayref03_Ints v1 v2 = some x) :
    Spec Try.prog 21 [.pv (.sl (v1.map eInt)), .pv (.sl (v2.map eInt))] [] (.pv (.bool x)) [] := by
  refine Spec.of (c := b21) Try.func21 rfl rfl rfl ?_
  unfold clearwayref03_Ints at hx
  refine br_ok hx (fun h3 hx => ?_) (fun h3 hx => ?_)
  · have hx := Option.some.inj hx
    subst hx
    refine WK.run (an := [.reg [], .reg [(1, none, .val (.pv (.int .i64 ((v1.length : Nat) : Int)))), (3, none, .val (.pv (.int .i64 ((v2.length : Nat) : Int))))], .br true, .reg []]) (kt := [4]) (ko := []) (k' := [.code (sub b21 [1, 0, 1, 0, 1]), .code (sub b21 [1, 1])]) (σ' := ⟨26, [(4, .pv (.bool false))], []⟩) (ps := [AV.pv (.int .i64 ((v1.map eInt).length : Nat)) = .pv (.int .i64 (v1.length : Nat)), AV.pv (.int .i64 ((v2.map eInt).length : Nat)) = .pv (.int .i64 (v2.length : Nat)), (((v1.length : Nat) : Int) != ((v2.length : Nat) : Int)) = true])
      (by kernel_rfl) ⟨lenOb, lenOb, h3, trivial⟩ ?_
    exact WK.ret (fn := Try.f21) Try.func21 (frz := []) (esc := []) (ps := []) (by kernel_rfl) trivial
  · refine bd_ok hx fun q14 e15 hx => ?_
    refine WK.run (an := [.reg [], .reg [(1, none, .val (.pv (.int .i64 ((v1.length : Nat) : Int)))), (3, none, .val (.pv (.int .i64 ((v2.length : Nat) : Int))))], .br false, .reg []]) (kt := [0, 1, 5]) (ko := []) (k' := [.code (sub b21 [1, 1, 0, 1, 0]), .inBlock 0, .code (sub b21 [1, 1, 1])]) (σ' := clearwayref03_Ints.l0.enc v1 v2 0) (ps := [AV.pv (.int .i64 ((v1.map eInt).length : Nat)) = .pv (.int .i64 (v1.length : Nat)), AV.pv (.int .i64 ((v2.map eInt).length : Nat)) = .pv (.int .i64 (v2.length : Nat)), (((v1.length : Nat) : Int) != ((v2.length : Nat) : Int)) = false])
      (by kernel_rfl) ⟨lenOb, lenOb, h3, trivial⟩ ?_
    refine WK.enterLoop (clearwayref03_Ints.l0.ok v1 v2 _ _ _ _ e15 ?_)
    rcases q14 with (q14 | q14)
    · have hx := Option.some.inj hx
      subst hx
      refine WK.run (an := []) (kt := [4]) (ko := []) (k' := [.code (sub b21 [1, 1, 0, 1, 0, 0, 1, 0, 0, 1, 0, 1]), .inBlock 1, .code (sub b21 [1, 1, 0, 1, 0, 0, 1, 1]), .inLoop (sub b21 [1, 1, 0, 1, 0, 0]), .inBlock 0, .code (sub b21 [1, 1, 1])]) (σ' := ⟨26, [(4, .pv (.bool false))], []⟩) (ps := [])
        (by kernel_rfl) trivial ?_
      exact WK.ret (fn := Try.f21) Try.func21 (frz := []) (esc := []) (ps := []) (by kernel_rfl) trivial
    · have hx := Option.some.inj hx
      subst hx
      refine WK.run (an := [.reg []]) (kt := [4]) (ko := []) (k' := [.code (sub b21 [1, 1, 1, 1])]) (σ' := ⟨26, [(4, .pv (.bool true))], []⟩) (ps := [])
        (by kernel_rfl) trivial ?_
      exact WK.ret (fn := Try.f21) Try.func21 (frz := []) (esc := []) (ps := []) (by kernel_rfl) trivial

noncomputable abbrev b13 : Code := body Try.f13
noncomputable def clearwayref07_SameLabels.l0 (c4 : List Named) (c5 : List Named) (s : Int) : Option (Nx Int (Unit ⊕ Unit)) :=
  br (decide (s < ((c4.length : Nat) : Int))) (
    getR c4 s fun a7 =>
    getR c5 s fun a10 =>
    br (a7.ID != a10.ID) (
      some (.done (.inl ()))) (
      getR c4 s fun a14 =>
      getR c5 s fun a17 =>
      bd (clearwayref03_Ints a14.Label a17.Label) fun y20 =>
      br (!y20) (
        some (.done (.inl ()))) (
        some (.cont (IntKind.i64.wrap (s + 1)))))) (
    some (.done (.inr ())))

abbrev clearwayref07_SameLabels.l0.enc (c4 : List Named) (c5 : List Named) (s : Int) : St := ⟨42, [(0, .pv (.sl (c4.map Named.enc))), (1, .pv (.sl (c5.map Named.enc))), (5, .pv (.int .i64 s))], []⟩

abbrev clearwayref07_SameLabels.l0.post (c4 : List Named) (c5 : List Named) (r : AV) (outs : List AObj) (q : Unit ⊕ Unit) : Prop := match q with | .inl q => WK Try.prog (13, 0) [.code (sub b13 [1, 1, 0, 1, 0, 0, 1, 0, 0, 1, 0, 1]), .inBlock 1, .code (sub b13 [1, 1, 0, 1, 0, 0, 1, 1]), .inLoop (sub b13 [1, 1, 0, 1, 0, 0]), .inBlock 0, .code (sub b13 [1, 1, 1])] ⟨42, [(4, .pv (.bool false))], []⟩ r outs | .inr q => WK Try.prog (13, 0) [.code (sub b13 [1, 1, 1, 0]), .code (sub b13 [1, 1, 1, 1])] ⟨42, [], []⟩ r outs

theorem clearwayref07_SameLabels.l0.ok (c4 : List Named) (c5 : List Named) (r : AV) (outs : List AObj) (s : Int) (q : Unit ⊕ Unit) (h : loopN fuel (clearwayref07_SameLabels.l0 c4 c5) s = some q) (hd : clearwayref07_SameLabels.l0.post c4 c5 r outs q) :
    WK Try.prog (13, 0) [.inLoop (sub b13 [1, 1, 0, 1, 0, 0]), .inBlock 0, .code (sub b13 [1, 1, 1])] (clearwayref07_SameLabels.l0.enc c4 c5 s) r outs := by
  refine WK.loop (clearwayref07_SameLabels.l0.enc c4 c5) (clearwayref07_SameLabels.l0 c4 c5) (clearwayref07_SameLabels.l0.post c4 c5 r outs) ?_ fuel s q h hd
  intro s x hx hn
  unfold clearwayref07_SameLabels.l0 at hx
  refine br_ok hx (fun h6 hx => ?_) (fun h6 hx => ?_)
  · refine getR_ok hx fun a7 h8 h9 hx => ?_
    refine getR_ok hx fun a10 h11 h12 hx => ?_
    refine br_ok hx (fun h13 hx => ?_) (fun h13 hx => ?_)
    · have hx := Option.some.inj hx
      subst hx
      refine WK.run (an := [.lp, .reg [(2, none, .val (.pv (.int .i64 ((c4.length : Nat) : Int))))], .br true, .draw [0, 1, 2, 3, 4, 5, 6, 7, 8, 9, 10, 11, 12, 13, 14, 15, 16, 17, 18, 19, 20, 21, 22, 23, 24] [(2, none, .row (Named.enc a7)), (7, none, .row (Named.enc a10)), (12, some true, .no), (13, some true, .no), (14, some true, .no), (15, some true, .no), (16, some true, .no), (17, some true, .no), (18, some true, .no), (19, some true, .no), (20, some true, .no), (21, some true, .no), (22, some true, .no), (23, some true, .no), (24, none, .bit true)], .bk, .reg []]) (kt := [4]) (ko := []) (k' := [.code (sub b13 [1, 1, 0, 1, 0, 0, 1, 0, 0, 1, 0, 1]), .inBlock 1, .code (sub b13 [1, 1, 0, 1, 0, 0, 1, 1]), .inLoop (sub b13 [1, 1, 0, 1, 0, 0]), .inBlock 0, .code (sub b13 [1, 1, 1])]) (σ' := ⟨42, [(4, .pv (.bool false))], []⟩) (ps := [AV.pv (.int .i64 ((c4.map Named.enc).length : Nat)) = .pv (.int .i64 (c4.length : Nat)), (decide (s < ((c4.length : Nat) : Int))) = true, 0 ≤ (s : Int), (c4.map Named.enc)[(s : Int).toNat]? = some (Named.enc a7), (Named.enc a7).length = 2, 0 ≤ (s : Int), (c5.map Named.enc)[(s : Int).toNat]? = some (Named.enc a10), (Named.enc a10).length = 2, (a7.ID != a10.ID) = true, (a7.ID != a10.ID) = true, (a7.ID != a10.ID) = true, (a7.ID != a10.ID) = true, (a7.ID != a10.ID) = true, (a7.ID != a10.ID) = true, (a7.ID != a10.ID) = true, (a7.ID != a10.ID) = true, (a7.ID != a10.ID) = true, (a7.ID != a10.ID) = true, (a7.ID != a10.ID) = true, (a7.ID != a10.ID) = true, (a7.ID != a10.ID) = true])
        (by kernel_rfl) ⟨lenOb, h6, h8, rowOb h9, rfl, h11, rowOb h12, rfl, h13, h13, h13, h13, h13, h13, h13, h13, h13, h13, h13, h13, h13, trivial⟩ ?_
      exact hn
    · refine getR_ok hx fun a14 h15 h16 hx => ?_
      refine getR_ok hx fun a17 h18 h19 hx => ?_
      refine bd_ok hx fun y20 e21 hx => ?_
      refine WK.run (an := [.lp, .reg [(2, none, .val (.pv (.int .i64 ((c4.length : Nat) : Int))))], .br true, .draw [0, 1, 2, 3, 4, 5, 6, 7, 8, 9, 10, 11, 12, 13, 14, 15, 16, 17, 18, 19, 20, 21, 22, 23, 24] [(2, none, .row (Named.enc a7)), (7, none, .row (Named.enc a10)), (12, some false, .no), (13, some false, .no), (14, some false, .row (Named.enc a14)), (15, some false, .no), (16, some false, .no), (17, some false, .no), (18, some false, .no), (19, some false, .row (Named.enc a17)), (20, some false, .no), (21, some false, .no), (22, some false, .call [] [] (.pv (.bool y20)) [] []), (23, some false, .no), (24, none, .bit false)]]) (kt := [0, 1, 5, 41]) (ko := []) (k' := [.code (sub b13 [1, 1, 0, 1, 0, 0, 1, 0, 0, 1]), .inBlock 1, .code (sub b13 [1, 1, 0, 1, 0, 0, 1, 1]), .inLoop (sub b13 [1, 1, 0, 1, 0, 0]), .inBlock 0, .code (sub b13 [1, 1, 1])]) (σ' := ⟨42, [(0, .pv (.sl (c4.map Named.enc))), (1, .pv (.sl (c5.map Named.enc))), (5, .pv (.int .i64 s)), (41, .pv (.bool (!y20)))], []⟩) (ps := [AV.pv (.int .i64 ((c4.map Named.enc).length : Nat)) = .pv (.int .i64 (c4.length : Nat)), (decide (s < ((c4.length : Nat) : Int))) = true, 0 ≤ (s : Int), (c4.map Named.enc)[(s : Int).toNat]? = some (Named.enc a7), (Named.enc a7).length = 2, 0 ≤ (s : Int), (c5.map Named.enc)[(s : Int).toNat]? = some (Named.enc a10), (Named.enc a10).length = 2, (a7.ID != a10.ID) = false, (a7.ID != a10.ID) = false, (a7.ID != a10.ID) = false, 0 ≤ (s : Int), (c4.map Named.enc)[(s : Int).toNat]? = some (Named.enc a14), (Named.enc a14).length = 2, (a7.ID != a10.ID) = false, (a7.ID != a10.ID) = false, (a7.ID != a10.ID) = false, (a7.ID != a10.ID) = false, (a7.ID != a10.ID) = false, 0 ≤ (s : Int), (c5.map Named.enc)[(s : Int).toNat]? = some (Named.enc a17), (Named.enc a17).length = 2, (a7.ID != a10.ID) = false, (a7.ID != a10.ID) = false, (a7.ID != a10.ID) = false, Spec Try.prog 21 [.pv (.sl (a14.Label.map eInt)), .pv (.sl (a17.Label.map eInt))] [] (.pv (.bool y20)) [], (a7.ID != a10.ID) = false, (a7.ID != a10.ID) = false])
        (by kernel_rfl) ⟨lenOb, h6, h8, rowOb h9, rfl, h11, rowOb h12, rfl, h13, h13, h13, h15, rowOb h16, rfl, h13, h13, h13, h13, h13, h18, rowOb h19, rfl, h13, h13, h13, clearwayref03_Ints.ok a14.Label a17.Label e21, h13, h13, trivial⟩ ?_
      refine br_ok hx (fun h22 hx => ?_) (fun h22 hx => ?_)
      · have hx := Option.some.inj hx
        subst hx
        refine WK.run (an := [.br true, .reg []]) (kt := [4]) (ko := []) (k' := [.code (sub b13 [1, 1, 0, 1, 0, 0, 1, 0, 0, 1, 0, 1]), .inBlock 1, .code (sub b13 [1, 1, 0, 1, 0, 0, 1, 1]), .inLoop (sub b13 [1, 1, 0, 1, 0, 0]), .inBlock 0, .code (sub b13 [1, 1, 1])]) (σ' := ⟨42, [(4, .pv (.bool false))], []⟩) (ps := [(!y20) = true])
          (by kernel_rfl) ⟨h22, trivial⟩ ?_
        exact hn
      · have hx := Option.some.inj hx
        subst hx
        refine WK.run (an := [.br false, .reg []]) (kt := [0, 1, 5]) (ko := []) (k' := [.inLoop (sub b13 [1, 1, 0, 1, 0, 0]), .inBlock 0, .code (sub b13 [1, 1, 1])]) (σ' := clearwayref07_SameLabels.l0.enc c4 c5 (IntKind.i64.wrap (s + 1))) (ps := [(!y20) = false])
          (by kernel_rfl) ⟨h22, trivial⟩ ?_
        exact hn
  · have hx := Option.some.inj hx
    subst hx
    refine WK.run (an := [.lp, .reg [(2, none, .val (.pv (.int .i64 ((c4.length : Nat) : Int))))], .br false]) (kt := []) (ko := []) (k' := [.code (sub b13 [1, 1, 1, 0]), .code (sub b13 [1, 1, 1, 1])]) (σ' := ⟨42, [], []⟩) (ps := [AV.pv (.int .i64 ((c4.map Named.enc).length : Nat)) = .pv (.int .i64 (c4.length : Nat)), (decide (s < ((c4.length : Nat) : Int))) = false])
      (by kernel_rfl) ⟨lenOb, h6, trivial⟩ ?_
    exact hn

noncomputable def clearwayref07_SameLabels (v1 : List Named) (v2 : List Named) : Option Bool :=
  br (((v1.length : Nat) : Int) != ((v2.length : Nat) : Int)) (
    some false) (
    bd (loopN fuel (clearwayref07_SameLabels.l0 v1 v2) 0) fun q23 =>
    match q23 with
    | .inl q23 =>
      some false
    | .inr q23 =>
      some true)

theorem clearwayref07_SameLabels.ok (v1 : List Named) (v2 : List Named) {x : Bool} (hx : clearwayref07_SameLabels v1 v2 = some x) :
    Spec Try.prog 13 [.pv (.sl (v1.map Named.enc)), .pv (.sl (v2.map Named.enc))] [] (.pv (.bool x)) [] := by
  refine Spec.of (c := b13) Try.func13 rfl rfl rfl ?_
  unfold clearwayref07_SameLabels at hx
  refine br_ok hx (fun h3 hx => ?_) (fun h3 hx => ?_)
  · have hx := Option.some.inj hx
    subst hx
    refine WK.run (an := [.reg [], .reg [(1, none, .val (.pv (.int .i64 ((v1.length : Nat) : Int)))), (3, none, .val (.pv (.int .i64 ((v2.length : Nat) : Int))))], .br true, .reg []]) (kt := [4]) (ko := []) (k' := [.code (sub b13 [1, 0, 1, 0, 1]), .code (sub b13 [1, 1])]) (σ' := ⟨42, [(4, .pv (.bool false))], []⟩) (ps := [AV.pv (.int .i64 ((v1.map Named.enc).length : Nat)) = .pv (.int .i64 (v1.length : Nat)), AV.pv (.int .i64 ((v2.map Named.enc).length : Nat)) = .pv (.int .i64 (v2.length : Nat)), (((v1.length : Nat) : Int) != ((v2.length : Nat) : Int)) = true])
      (by kernel_rfl) ⟨lenOb, lenOb, h3, trivial⟩ ?_
    exact WK.ret (fn := Try.f13) Try.func13 (frz := []) (esc := []) (ps := []) (by kernel_rfl) trivial
  · refine bd_ok hx fun q23 e24 hx => ?_
    refine WK.run (an := [.reg [], .reg [(1, none, .val (.pv (.int .i64 ((v1.length : Nat) : Int)))), (3, none, .val (.pv (.int .i64 ((v2.length : Nat) : Int))))], .br false, .reg []]) (kt := [0, 1, 5]) (ko := []) (k' := [.code (sub b13 [1, 1, 0, 1, 0]), .inBlock 0, .code (sub b13 [1, 1, 1])]) (σ' := clearwayref07_SameLabels.l0.enc v1 v2 0) (ps := [AV.pv (.int .i64 ((v1.map Named.enc).length : Nat)) = .pv (.int .i64 (v1.length : Nat)), AV.pv (.int .i64 ((v2.map Named.enc).length : Nat)) = .pv (.int .i64 (v2.length : Nat)), (((v1.length : Nat) : Int) != ((v2.length : Nat) : Int)) = false])
      (by kernel_rfl) ⟨lenOb, lenOb, h3, trivial⟩ ?_
    refine WK.enterLoop (clearwayref07_SameLabels.l0.ok v1 v2 _ _ _ _ e24 ?_)
    rcases q23 with (q23 | q23)
    · have hx := Option.some.inj hx
      subst hx
      refine WK.run (an := []) (kt := [4]) (ko := []) (k' := [.code (sub b13 [1, 1, 0, 1, 0, 0, 1, 0, 0, 1, 0, 1]), .inBlock 1, .code (sub b13 [1, 1, 0, 1, 0, 0, 1, 1]), .inLoop (sub b13 [1, 1, 0, 1, 0, 0]), .inBlock 0, .code (sub b13 [1, 1, 1])]) (σ' := ⟨42, [(4, .pv (.bool false))], []⟩) (ps := [])
        (by kernel_rfl) trivial ?_
      exact WK.ret (fn := Try.f13) Try.func13 (frz := []) (esc := []) (ps := []) (by kernel_rfl) trivial
    · have hx := Option.some.inj hx
      subst hx
      refine WK.run (an := [.reg []]) (kt := [4]) (ko := []) (k' := [.code (sub b13 [1, 1, 1, 1])]) (σ' := ⟨42, [(4, .pv (.bool true))], []⟩) (ps := [])
        (by kernel_rfl) trivial ?_
      exact WK.ret (fn := Try.f13) Try.func13 (frz := []) (esc := []) (ps := []) (by kernel_rfl) trivial

noncomputable abbrev b57 : Code := body Try.f57
noncomputable def forest_seen.l0 (c2 : List Named) (c3 : Int) (s : Int × (List (Int × (Option (List Int))))) : Option (Nx (Int × (List (Int × (Option (List Int))))) (List (Int × (Option (List Int))))) :=
  br (decide (s.1 < c3)) (
    getR c2 s.1 fun a5 =>
    oc (mapGet s.2 a5.ID) (
      br (((a5.Label.length : Nat) : Int) == 3) (
        some (.cont ((IntKind.i64.wrap (s.1 + 1)), (mapSet (mapSet s.2 a5.ID none) a5.ID (some a5.Label))))) (
        some (.cont ((IntKind.i64.wrap (s.1 + 1)), (mapSet s.2 a5.ID none))))) fun a8 => (
      oc (a8) (
        some (.cont ((IntKind.i64.wrap (s.1 + 1)), s.2))) fun a11 => (
        some (.cont ((IntKind.i64.wrap (s.1 + 1)), s.2))))) (
    some (.done s.2))

abbrev forest_seen.l0.enc (c2 : List Named) (c3 : Int) (s : Int × (List (Int × (Option (List Int))))) : St := ⟨38, [(3, .mp 101), (10, .pv (.sl (c2.map Named.enc))), (11, .pv (.int .i64 c3)), (12, .pv (.int .i64 s.1))], [(101, .mp false false true (s.2.map mKey) (s.2.map (mRow (eOpt eInt))))]⟩

abbrev forest_seen.l0.post (c2 : List Named) (c3 : Int) (r : AV) (outs : List AObj) (q : (List (Int × (Option (List Int))))) : Prop := WK Try.prog (57, 0) [.code (sub b57 [1, 1, 1, 0]), .code (sub b57 [1, 1, 1, 1])] ⟨38, [(3, .mp 101)], [(101, .mp false false true (q.map mKey) (q.map (mRow (eOpt eInt))))]⟩ r outs

theorem forest_seen.l0.ok (c2 : List Named) (c3 : Int) (r : AV) (outs : List AObj) (s : Int × (List (Int × (Option (List Int))))) (q : (List (Int × (Option (List Int))))) (h : loopN fuel (forest_seen.l0 c2 c3) s = some q) (hd : forest_seen.l0.post c2 c3 r outs q) :
    WK Try.prog (57, 0) [.inLoop (sub b57 [1, 1, 0, 1, 0, 0]), .inBlock 0, .code (sub b57 [1, 1, 1])] (forest_seen.l0.enc c2 c3 s) r outs := by
  refine WK.loop (forest_seen.l0.enc c2 c3) (forest_seen.l0 c2 c3) (forest_seen.l0.post c2 c3 r outs) ?_ fuel s q h hd
  intro s x hx hn
  unfold forest_seen.l0 at hx
  refine br_ok hx (fun h4 hx => ?_) (fun h4 hx => ?_)
  · refine getR_ok hx fun a5 h6 h7 hx => ?_
    refine oc_ok hx (fun h9 hx => ?_) (fun a8 h9 hx => ?_)
    · refine br_ok hx (fun h10 hx => ?_) (fun h10 hx => ?_)
      · have hx := Option.some.inj hx
        subst hx
        refine WK.run (an := [.lp, .reg [], .br true, .reg [(0, none, .row (Named.enc a5)), (2, none, .nmv 1009 (.aggp [.int .i64 0, .sl ([].map eInt)]))], .reg [(3, none, .mget .undef none)], .reg [], .bk, .reg [(3, none, .mset ((mapSet s.2 a5.ID none).map mKey) ((mapSet s.2 a5.ID none).map (mRow (eOpt eInt))))], .reg [(2, none, .val (.pv (.int .i64 ((a5.Label.length : Nat) : Int))))], .br true, .reg [(5, none, .mset ((mapSet (mapSet s.2 a5.ID none) a5.ID (some a5.Label)).map mKey) ((mapSet (mapSet s.2 a5.ID none) a5.ID (some a5.Label)).map (mRow (eOpt eInt))))], .reg []]) (kt := [3, 10, 11, 12]) (ko := [(101, 101)]) (k' := [.inLoop (sub b57 [1, 1, 0, 1, 0, 0]), .inBlock 0, .code (sub b57 [1, 1, 1])]) (σ' := forest_seen.l0.enc c2 c3 ((IntKind.i64.wrap (s.1 + 1)), (mapSet (mapSet s.2 a5.ID none) a5.ID (some a5.Label)))) (ps := [(decide (s.1 < c3)) = true, 0 ≤ (s.1 : Int), (c2.map Named.enc)[(s.1 : Int).toNat]? = some (Named.enc a5), (Named.enc a5).length = 2, AV.pv (.int .i64 0) = .pv (.int .i64 0), 2 = 2, intKeys .i64 (s.2.map mKey), mfind (s.2.map mKey) (s.2.map (mRow (eOpt eInt))) (.int .i64 a5.ID) = none, intKeys .i64 (s.2.map mKey), mput (s.2.map mKey) (s.2.map (mRow (eOpt eInt))) (.int .i64 a5.ID) [.nilsl] = (((mapSet s.2 a5.ID none).map mKey), ((mapSet s.2 a5.ID none).map (mRow (eOpt eInt)))), AV.pv (.int .i64 ((a5.Label.map eInt).length : Nat)) = .pv (.int .i64 (a5.Label.length : Nat)), (((a5.Label.length : Nat) : Int) == 3) = true, intKeys .i64 ((mapSet s.2 a5.ID none).map mKey), mput ((mapSet s.2 a5.ID none).map mKey) ((mapSet s.2 a5.ID none).map (mRow (eOpt eInt))) (.int .i64 a5.ID) [.sl (a5.Label.map eInt)] = (((mapSet (mapSet s.2 a5.ID none) a5.ID (some a5.Label)).map mKey), ((mapSet (mapSet s.2 a5.ID none) a5.ID (some a5.Label)).map (mRow (eOpt eInt))))])
          (by kernel_rfl) ⟨h4, h6, rowOb h7, rfl, rfl, rfl, ikOb, mfindOb0 h9, ikOb, mputOb (f := (eOpt eInt)) (v := none), lenOb, h10, ikOb, mputOb (f := (eOpt eInt)) (v := (some a5.Label)), trivial⟩ ?_
        exact hn
      · have hx := Option.some.inj hx
        subst hx
        refine WK.run (an := [.lp, .reg [], .br true, .reg [(0, none, .row (Named.enc a5)), (2, none, .nmv 1009 (.aggp [.int .i64 0, .sl ([].map eInt)]))], .reg [(3, none, .mget .undef none)], .reg [], .bk, .reg [(3, none, .mset ((mapSet s.2 a5.ID none).map mKey) ((mapSet s.2 a5.ID none).map (mRow (eOpt eInt))))], .reg [(2, none, .val (.pv (.int .i64 ((a5.Label.length : Nat) : Int))))], .br false, .reg []]) (kt := [3, 10, 11, 12]) (ko := [(101, 101)]) (k' := [.inLoop (sub b57 [1, 1, 0, 1, 0, 0]), .inBlock 0, .code (sub b57 [1, 1, 1])]) (σ' := forest_seen.l0.enc c2 c3 ((IntKind.i64.wrap (s.1 + 1)), (mapSet s.2 a5.ID none))) (ps := [(decide (s.1 < c3)) = true, 0 ≤ (s.1 : Int), (c2.map Named.enc)[(s.1 : Int).toNat]? = some (Named.enc a5), (Named.enc a5).length = 2, AV.pv (.int .i64 0) = .pv (.int .i64 0), 2 = 2, intKeys .i64 (s.2.map mKey), mfind (s.2.map mKey) (s.2.map (mRow (eOpt eInt))) (.int .i64 a5.ID) = none, intKeys .i64 (s.2.map mKey), mput (s.2.map mKey) (s.2.map (mRow (eOpt eInt))) (.int .i64 a5.ID) [.nilsl] = (((mapSet s.2 a5.ID none).map mKey), ((mapSet s.2 a5.ID none).map (mRow (eOpt eInt)))), AV.pv (.int .i64 ((a5.Label.map eInt).length : Nat)) = .pv (.int .i64 (a5.Label.length : Nat)), (((a5.Label.length : Nat) : Int) == 3) = false])
          (by kernel_rfl) ⟨h4, h6, rowOb h7, rfl, rfl, rfl, ikOb, mfindOb0 h9, ikOb, mputOb (f := (eOpt eInt)) (v := none), lenOb, h10, trivial⟩ ?_
        exact hn
    · refine oc_ok hx (fun h12 hx => ?_) (fun a11 h12 hx => ?_)
      · have hx := Option.some.inj hx
        subst hx
        refine WK.run (an := [.lp, .reg [], .br true, .reg [(0, none, .row (Named.enc a5)), (2, none, .nmv 1009 (.aggp [.int .i64 0, .sl ([].map eInt)]))], .reg [(3, none, .mget (.pv .nilsl) (some [.nilsl]))], .reg [], .bk, .reg []]) (kt := [3, 10, 11, 12]) (ko := [(101, 101)]) (k' := [.inLoop (sub b57 [1, 1, 0, 1, 0, 0]), .inBlock 0, .code (sub b57 [1, 1, 1])]) (σ' := forest_seen.l0.enc c2 c3 ((IntKind.i64.wrap (s.1 + 1)), s.2)) (ps := [(decide (s.1 < c3)) = true, 0 ≤ (s.1 : Int), (c2.map Named.enc)[(s.1 : Int).toNat]? = some (Named.enc a5), (Named.enc a5).length = 2, AV.pv (.int .i64 0) = .pv (.int .i64 0), 2 = 2, intKeys .i64 (s.2.map mKey), mfind (s.2.map mKey) (s.2.map (mRow (eOpt eInt))) (.int .i64 a5.ID) = some [.nilsl], rowAV false [.nilsl] = some (.pv .nilsl)])
          (by kernel_rfl) ⟨h4, h6, rowOb h7, rfl, rfl, rfl, ikOb, mfindOb_n h9 h12, rfl, trivial⟩ ?_
        exact hn
      · have hx := Option.some.inj hx
        subst hx
        refine WK.run (an := [.lp, .reg [], .br true, .reg [(0, none, .row (Named.enc a5)), (2, none, .nmv 1009 (.aggp [.int .i64 0, .sl ([].map eInt)]))], .reg [(3, none, .mget (.pv (.sl (a11.map eInt))) (some [.sl (a11.map eInt)]))], .reg [], .bk, .reg []]) (kt := [3, 10, 11, 12]) (ko := [(101, 101)]) (k' := [.inLoop (sub b57 [1, 1, 0, 1, 0, 0]), .inBlock 0, .code (sub b57 [1, 1, 1])]) (σ' := forest_seen.l0.enc c2 c3 ((IntKind.i64.wrap (s.1 + 1)), s.2)) (ps := [(decide (s.1 < c3)) = true, 0 ≤ (s.1 : Int), (c2.map Named.enc)[(s.1 : Int).toNat]? = some (Named.enc a5), (Named.enc a5).length = 2, AV.pv (.int .i64 0) = .pv (.int .i64 0), 2 = 2, intKeys .i64 (s.2.map mKey), mfind (s.2.map mKey) (s.2.map (mRow (eOpt eInt))) (.int .i64 a5.ID) = some [.sl (a11.map eInt)], rowAV false [.sl (a11.map eInt)] = some (.pv (.sl (a11.map eInt)))])
          (by kernel_rfl) ⟨h4, h6, rowOb h7, rfl, rfl, rfl, ikOb, mfindOb_s h9 h12, rfl, trivial⟩ ?_
        exact hn
  · have hx := Option.some.inj hx
    subst hx
    refine WK.run (an := [.lp, .reg [], .br false]) (kt := [3]) (ko := [(101, 101)]) (k' := [.code (sub b57 [1, 1, 1, 0]), .code (sub b57 [1, 1, 1, 1])]) (σ' := ⟨38, [(3, .mp 101)], [(101, .mp false false true (s.2.map mKey) (s.2.map (mRow (eOpt eInt))))]⟩) (ps := [(decide (s.1 < c3)) = false])
      (by kernel_rfl) ⟨h4, trivial⟩ ?_
    exact hn

noncomputable def forest_seen (v1 : View) : Option (List (Int × (Option (List Int)))) :=
  bd (loopN fuel (forest_seen.l0 v1.Labels ((v1.Labels.length : Nat) : Int)) (0, ([] : List (Int × (Option (List Int)))))) fun q13 =>
  some q13

theorem forest_seen.ok (v1 : View) {x : (List (Int × (Option (List Int))))} (hx : forest_seen v1 = some x) :
    Spec Try.prog 57 [.aggp [.int .i64 v1.Vertex.ID, .int .i64 v1.Vertex.Side, .sl (v1.Depots.map eInt), .sl (v1.Edges.map Edge.enc), .sl (v1.Labels.map Named.enc)]] [] (.pv (.mp false (x.map mKey) (x.map (mRow (eOpt eInt))))) [] := by
  refine Spec.of (c := b57) Try.func57 rfl rfl rfl ?_
  unfold forest_seen at hx
  refine bd_ok hx fun q13 e14 hx => ?_
  refine WK.run (an := [.reg [(0, none, .nm 1003)], .reg [(0, none, .nm 1005)], .reg [(2, none, .val (.pv (.int .i64 ((v1.Labels.length : Nat) : Int))))]]) (kt := [3, 10, 11, 12]) (ko := [(1005, 101)]) (k' := [.code (sub b57 [1, 1, 0, 1, 0]), .inBlock 0, .code (sub b57 [1, 1, 1])]) (σ' := forest_seen.l0.enc v1.Labels ((v1.Labels.length : Nat) : Int) (0, ([] : List (Int × (Option (List Int)))))) (ps := [AV.pv (.int .i64 ((v1.Labels.map Named.enc).length : Nat)) = .pv (.int .i64 (v1.Labels.length : Nat))])
    (by kernel_rfl) ⟨lenOb, trivial⟩ ?_
  refine WK.enterLoop (forest_seen.l0.ok v1.Labels ((v1.Labels.length : Nat) : Int) _ _ _ _ e14 ?_)
  have hx := Option.some.inj hx
  subst hx
  refine WK.run (an := [.reg []]) (kt := [2]) (ko := [(101, 101)]) (k' := [.code (sub b57 [1, 1, 1, 1])]) (σ' := ⟨38, [(2, .mp 101)], [(101, .mp false false true (q13.map mKey) (q13.map (mRow (eOpt eInt))))]⟩) (ps := [])
    (by kernel_rfl) trivial ?_
  exact WK.ret (fn := Try.f57) Try.func57 (frz := [101]) (esc := []) (ps := []) (by kernel_rfl) trivial

noncomputable abbrev b80 : Code := body Try.f80
noncomputable def forest_around_1 (v1 : Int) : Option Bool :=
  br (decide (v1 ≥ 0)) (
    some (decide (v1 < 24))) (
    some false)

theorem forest_around_1.ok (v1 : Int) {x : Bool} (hx : forest_around_1 v1 = some x) :
    Spec Try.prog 80 [.pv (.int .i64 v1)] [] (.pv (.bool x)) [] := by
  refine Spec.of (c := b80) Try.func80 rfl rfl rfl ?_
  unfold forest_around_1 at hx
  refine br_ok hx (fun h2 hx => ?_) (fun h2 hx => ?_)
  · have hx := Option.some.inj hx
    subst hx
    refine WK.run (an := [.reg [], .reg [(3, some true, .no)]]) (kt := [2]) (ko := []) (k' := [.code (sub b80 [1, 1])]) (σ' := ⟨9, [(2, .pv (.bool (decide (v1 < 24))))], []⟩) (ps := [(decide (v1 ≥ 0)) = true])
      (by kernel_rfl) ⟨h2, trivial⟩ ?_
    exact WK.ret (fn := Try.f80) Try.func80 (frz := []) (esc := []) (ps := []) (by kernel_rfl) trivial
  · have hx := Option.some.inj hx
    subst hx
    refine WK.run (an := [.reg [], .reg [(3, some false, .no)]]) (kt := [2]) (ko := []) (k' := [.code (sub b80 [1, 1])]) (σ' := ⟨9, [(2, .pv (.bool false))], []⟩) (ps := [(decide (v1 ≥ 0)) = false])
      (by kernel_rfl) ⟨h2, trivial⟩ ?_
    exact WK.ret (fn := Try.f80) Try.func80 (frz := []) (esc := []) (ps := []) (by kernel_rfl) trivial

noncomputable abbrev b81 : Code := body Try.f81
noncomputable def forest_around_2 (v1 : Edge) (v2 : Int) (v3 : Int) (v4 : Int) (v5 : List Int) (v6 : List Edge) (v7 : List Named) : Option (Bool × Int) :=
  br (decide (v1.ID > v2)) (
    br (decide (v1.ID < 40)) (
      br (decide (v1.Weight ≥ (-1000))) (
        br (!(decide (v1.Weight ≤ 1000))) (
          some (true, v1.ID)) (
          bd (forest_around_1 v1.From) fun y12 =>
          br (!y12) (
            some (true, v1.ID)) (
            bd (forest_around_1 v1.To) fun y15 =>
            br (!y15) (
              some (true, v1.ID)) (
              br (v1.From != v3) (
                some ((v1.To != v3), v1.ID)) (
                some (false, v1.ID)))))) (
        some (true, v1.ID))) (
      some (true, v1.ID))) (
    some (true, v1.ID))

theorem forest_around_2.ok (v1 : Edge) (v2 : Int) (v3 : Int) (v4 : Int) (v5 : List Int) (v6 : List Edge) (v7 : List Named) {x : Bool × Int} (hx : forest_around_2 v1 v2 v3 v4 v5 v6 v7 = some x) :
    Spec Try.prog 81 [.aggp [.int .i64 v1.ID, .int .i64 v1.From, .int .i64 v1.To, .bool v1.Directed, .int .i64 v1.Weight, .int .i64 v1.Cap], .ref 0 0 0 0, .ref 2 0 0 0, .ref 4 0 0 0] [.varp [.int .i64 v2], .var [.clo 80 []], .varp [.int .i64 v3, .int .i64 v4, .sl (v5.map eInt), .sl (v6.map Edge.enc), .sl (v7.map Named.enc)]] (.pv (.bool x.1)) [.varp [.int .i64 x.2], .var [.clo 80 []], .varp [.int .i64 v3, .int .i64 v4, .sl (v5.map eInt), .sl (v6.map Edge.enc), .sl (v7.map Named.enc)]] := by
  refine Spec.of (c := b81) Try.func81 rfl rfl rfl ?_
  unfold forest_around_2 at hx
  refine br_ok hx (fun h8 hx => ?_) (fun h8 hx => ?_)
  · refine br_ok hx (fun h9 hx => ?_) (fun h9 hx => ?_)
    · refine br_ok hx (fun h10 hx => ?_) (fun h10 hx => ?_)
      · refine br_ok hx (fun h11 hx => ?_) (fun h11 hx => ?_)
        · have hx := Option.some.inj hx
          subst hx
          refine WK.run (an := [.reg [(0, none, .nm 1003)], .reg [(5, some true, .no), (10, some true, .no), (15, some true, .no)], .reg [], .reg [(3, some true, .no)]]) (kt := [5]) (ko := [(0, 0), (2, 2), (4, 4)]) (k' := [.code (sub b81 [1, 1, 1, 1])]) (σ' := ⟨60, [(5, .pv (.bool true))], [(0, .varp [.int .i64 v1.ID]), (2, .var [.clo 80 []]), (4, .varp [.int .i64 v3, .int .i64 v4, .sl (v5.map eInt), .sl (v6.map Edge.enc), .sl (v7.map Named.enc)])]⟩) (ps := [(decide (v1.ID > v2)) = true, (decide (v1.ID < 40)) = true, (decide (v1.Weight ≥ (-1000))) = true, 1 = 1, (!(decide (v1.Weight ≤ 1000))) = true])
            (by kernel_rfl) ⟨h8, h9, h10, rfl, h11, trivial⟩ ?_
          exact WK.ret (fn := Try.f81) Try.func81 (frz := []) (esc := []) (ps := []) (by kernel_rfl) trivial
        · refine bd_ok hx fun y12 e13 hx => ?_
          refine br_ok hx (fun h14 hx => ?_) (fun h14 hx => ?_)
          · have hx := Option.some.inj hx
            subst hx
            refine WK.run (an := [.reg [(0, none, .nm 1003)], .reg [(5, some true, .no), (10, some true, .no), (15, some true, .no)], .reg [], .reg [(3, some false, .no), (6, none, .call [] [] (.pv (.bool y12)) [] []), (10, some true, .no)]]) (kt := [5]) (ko := [(0, 0), (2, 2), (4, 4)]) (k' := [.code (sub b81 [1, 1, 1, 1])]) (σ' := ⟨60, [(5, .pv (.bool true))], [(0, .varp [.int .i64 v1.ID]), (2, .var [.clo 80 []]), (4, .varp [.int .i64 v3, .int .i64 v4, .sl (v5.map eInt), .sl (v6.map Edge.enc), .sl (v7.map Named.enc)])]⟩) (ps := [(decide (v1.ID > v2)) = true, (decide (v1.ID < 40)) = true, (decide (v1.Weight ≥ (-1000))) = true, 1 = 1, (!(decide (v1.Weight ≤ 1000))) = false, Spec Try.prog 80 [.pv (.int .i64 v1.From)] [] (.pv (.bool y12)) [], (!y12) = true])
              (by kernel_rfl) ⟨h8, h9, h10, rfl, h11, forest_around_1.ok v1.From e13, h14, trivial⟩ ?_
            exact WK.ret (fn := Try.f81) Try.func81 (frz := []) (esc := []) (ps := []) (by kernel_rfl) trivial
          · refine bd_ok hx fun y15 e16 hx => ?_
            refine br_ok hx (fun h17 hx => ?_) (fun h17 hx => ?_)
            · have hx := Option.some.inj hx
              subst hx
              refine WK.run (an := [.reg [(0, none, .nm 1003)], .reg [(5, some true, .no), (10, some true, .no), (15, some true, .no)], .reg [], .reg [(3, some false, .no), (6, none, .call [] [] (.pv (.bool y12)) [] []), (10, some false, .no), (13, none, .call [] [] (.pv (.bool y15)) [] []), (17, some true, .no)]]) (kt := [5]) (ko := [(0, 0), (2, 2), (4, 4)]) (k' := [.code (sub b81 [1, 1, 1, 1])]) (σ' := ⟨60, [(5, .pv (.bool true))], [(0, .varp [.int .i64 v1.ID]), (2, .var [.clo 80 []]), (4, .varp [.int .i64 v3, .int .i64 v4, .sl (v5.map eInt), .sl (v6.map Edge.enc), .sl (v7.map Named.enc)])]⟩) (ps := [(decide (v1.ID > v2)) = true, (decide (v1.ID < 40)) = true, (decide (v1.Weight ≥ (-1000))) = true, 1 = 1, (!(decide (v1.Weight ≤ 1000))) = false, Spec Try.prog 80 [.pv (.int .i64 v1.From)] [] (.pv (.bool y12)) [], (!y12) = false, Spec Try.prog 80 [.pv (.int .i64 v1.To)] [] (.pv (.bool y15)) [], (!y15) = true])
                (by kernel_rfl) ⟨h8, h9, h10, rfl, h11, forest_around_1.ok v1.From e13, h14, forest_around_1.ok v1.To e16, h17, trivial⟩ ?_
              exact WK.ret (fn := Try.f81) Try.func81 (frz := []) (esc := []) (ps := []) (by kernel_rfl) trivial
            · refine br_ok hx (fun h18 hx => ?_) (fun h18 hx => ?_)
              · have hx := Option.some.inj hx
                subst hx
                refine WK.run (an := [.reg [(0, none, .nm 1003)], .reg [(5, some true, .no), (10, some true, .no), (15, some true, .no)], .reg [], .reg [(3, some false, .no), (6, none, .call [] [] (.pv (.bool y12)) [] []), (10, some false, .no), (13, none, .call [] [] (.pv (.bool y15)) [] []), (17, some false, .no), (24, some true, .no)]]) (kt := [5]) (ko := [(0, 0), (2, 2), (4, 4)]) (k' := [.code (sub b81 [1, 1, 1, 1])]) (σ' := ⟨60, [(5, .pv (.bool (v1.To != v3)))], [(0, .varp [.int .i64 v1.ID]), (2, .var [.clo 80 []]), (4, .varp [.int .i64 v3, .int .i64 v4, .sl (v5.map eInt), .sl (v6.map Edge.enc), .sl (v7.map Named.enc)])]⟩) (ps := [(decide (v1.ID > v2)) = true, (decide (v1.ID < 40)) = true, (decide (v1.Weight ≥ (-1000))) = true, 1 = 1, (!(decide (v1.Weight ≤ 1000))) = false, Spec Try.prog 80 [.pv (.int .i64 v1.From)] [] (.pv (.bool y12)) [], (!y12) = false, Spec Try.prog 80 [.pv (.int .i64 v1.To)] [] (.pv (.bool y15)) [], (!y15) = false, (v1.From != v3) = true])
                  (by kernel_rfl) ⟨h8, h9, h10, rfl, h11, forest_around_1.ok v1.From e13, h14, forest_around_1.ok v1.To e16, h17, h18, trivial⟩ ?_
                exact WK.ret (fn := Try.f81) Try.func81 (frz := []) (esc := []) (ps := []) (by kernel_rfl) trivial
              · have hx := Option.some.inj hx
                subst hx
                refine WK.run (an := [.reg [(0, none, .nm 1003)], .reg [(5, some true, .no), (10, some true, .no), (15, some true, .no)], .reg [], .reg [(3, some false, .no), (6, none, .call [] [] (.pv (.bool y12)) [] []), (10, some false, .no), (13, none, .call [] [] (.pv (.bool y15)) [] []), (17, some false, .no), (24, some false, .no)]]) (kt := [5]) (ko := [(0, 0), (2, 2), (4, 4)]) (k' := [.code (sub b81 [1, 1, 1, 1])]) (σ' := ⟨60, [(5, .pv (.bool false))], [(0, .varp [.int .i64 v1.ID]), (2, .var [.clo 80 []]), (4, .varp [.int .i64 v3, .int .i64 v4, .sl (v5.map eInt), .sl (v6.map Edge.enc), .sl (v7.map Named.enc)])]⟩) (ps := [(decide (v1.ID > v2)) = true, (decide (v1.ID < 40)) = true, (decide (v1.Weight ≥ (-1000))) = true, 1 = 1, (!(decide (v1.Weight ≤ 1000))) = false, Spec Try.prog 80 [.pv (.int .i64 v1.From)] [] (.pv (.bool y12)) [], (!y12) = false, Spec Try.prog 80 [.pv (.int .i64 v1.To)] [] (.pv (.bool y15)) [], (!y15) = false, (v1.From != v3) = false])
                  (by kernel_rfl) ⟨h8, h9, h10, rfl, h11, forest_around_1.ok v1.From e13, h14, forest_around_1.ok v1.To e16, h17, h18, trivial⟩ ?_
                exact WK.ret (fn := Try.f81) Try.func81 (frz := []) (esc := []) (ps := []) (by kernel_rfl) trivial
      · have hx := Option.some.inj hx
        subst hx
        refine WK.run (an := [.reg [(0, none, .nm 1003)], .reg [(5, some true, .no), (10, some true, .no), (15, some false, .no)], .reg [], .reg []]) (kt := [5]) (ko := [(0, 0), (2, 2), (4, 4)]) (k' := [.code (sub b81 [1, 1, 1, 1])]) (σ' := ⟨60, [(5, .pv (.bool true))], [(0, .varp [.int .i64 v1.ID]), (2, .var [.clo 80 []]), (4, .varp [.int .i64 v3, .int .i64 v4, .sl (v5.map eInt), .sl (v6.map Edge.enc), .sl (v7.map Named.enc)])]⟩) (ps := [(decide (v1.ID > v2)) = true, (decide (v1.ID < 40)) = true, (decide (v1.Weight ≥ (-1000))) = false, 1 = 1])
          (by kernel_rfl) ⟨h8, h9, h10, rfl, trivial⟩ ?_
        exact WK.ret (fn := Try.f81) Try.func81 (frz := []) (esc := []) (ps := []) (by kernel_rfl) trivial
    · have hx := Option.some.inj hx
      subst hx
      refine WK.run (an := [.reg [(0, none, .nm 1003)], .reg [(5, some true, .no), (10, some false, .no)], .reg [], .reg []]) (kt := [5]) (ko := [(0, 0), (2, 2), (4, 4)]) (k' := [.code (sub b81 [1, 1, 1, 1])]) (σ' := ⟨60, [(5, .pv (.bool true))], [(0, .varp [.int .i64 v1.ID]), (2, .var [.clo 80 []]), (4, .varp [.int .i64 v3, .int .i64 v4, .sl (v5.map eInt), .sl (v6.map Edge.enc), .sl (v7.map Named.enc)])]⟩) (ps := [(decide (v1.ID > v2)) = true, (decide (v1.ID < 40)) = false, 1 = 1])
        (by kernel_rfl) ⟨h8, h9, rfl, trivial⟩ ?_
      exact WK.ret (fn := Try.f81) Try.func81 (frz := []) (esc := []) (ps := []) (by kernel_rfl) trivial
  · have hx := Option.some.inj hx
    subst hx
    refine WK.run (an := [.reg [(0, none, .nm 1003)], .reg [(5, some false, .no)], .reg [], .reg []]) (kt := [5]) (ko := [(0, 0), (2, 2), (4, 4)]) (k' := [.code (sub b81 [1, 1, 1, 1])]) (σ' := ⟨60, [(5, .pv (.bool true))], [(0, .varp [.int .i64 v1.ID]), (2, .var [.clo 80 []]), (4, .varp [.int .i64 v3, .int .i64 v4, .sl (v5.map eInt), .sl (v6.map Edge.enc), .sl (v7.map Named.enc)])]⟩) (ps := [(decide (v1.ID > v2)) = false, 1 = 1])
      (by kernel_rfl) ⟨h8, rfl, trivial⟩ ?_
    exact WK.ret (fn := Try.f81) Try.func81 (frz := []) (esc := []) (ps := []) (by kernel_rfl) trivial

noncomputable def slices_IndexFunc_api_Edge_api_Edge_2.l0 (c8 : List Edge) (c9 : Int) (c10 : Int) (c11 : Int) (c12 : List Int) (c13 : List Edge) (c14 : List Named) (s : Int × Int) : Option (Nx (Int × Int) ((Int × Int) ⊕ Int)) :=
  br (decide (s.1 < c9)) (
    getR c8 s.1 fun a16 =>
    bd (forest_around_2 a16 s.2 c10 c11 c12 c13 c14) fun y19 =>
    br y19.1 (
      some (.done (.inl (s.1, y19.2)))) (
      some (.cont ((IntKind.i64.wrap (s.1 + 1)), y19.2)))) (
    some (.done (.inr s.2)))

abbrev slices_IndexFunc_api_Edge_api_Edge_2.l0.enc (c8 : List Edge) (c9 : Int) (c10 : Int) (c11 : Int) (c12 : List Int) (c13 : List Edge) (c14 : List Named) (s : Int × Int) : St := ⟨19, [(0, .pv (.sl (c8.map Edge.enc))), (1, .clo 81 [.ref 0 0 0 0, .ref 2 0 0 0, .ref 4 0 0 0]), (7, .pv (.int .i64 c9)), (8, .pv (.int .i64 s.1))], [(0, .varp [.int .i64 s.2]), (2, .var [.clo 80 []]), (4, .varp [.int .i64 c10, .int .i64 c11, .sl (c12.map eInt), .sl (c13.map Edge.enc), .sl (c14.map Named.enc)])]⟩

abbrev slices_IndexFunc_api_Edge_api_Edge_2.l0.post (c8 : List Edge) (c9 : Int) (c10 : Int) (c11 : Int) (c12 : List Int) (c13 : List Edge) (c14 : List Named) (r : AV) (outs : List AObj) (q : (Int × Int) ⊕ Int) : Prop := match q with | .inl q => WK Try.prog (79, 3) [.code (sub b79 [1, 0, 1, 0, 0, 1, 1, 0, 0, 1, 1, 0, 1]), .inBlock 1, .code (sub b79 [1, 0, 1, 0, 0, 1, 1, 1]), .inLoop (sub b79 [1, 0, 1, 0, 0]), .inBlock 0, .code (sub b79 [1, 1])] ⟨19, [(4, .pv (.int .i64 q.1))], [(0, .varp [.int .i64 q.2]), (2, .var [.clo 80 []]), (4, .varp [.int .i64 c10, .int .i64 c11, .sl (c12.map eInt), .sl (c13.map Edge.enc), .sl (c14.map Named.enc)])]⟩ r outs | .inr q => WK Try.prog (79, 3) [.code (sub b79 [1, 1, 0]), .code (sub b79 [1, 1, 1])] ⟨19, [], [(0, .varp [.int .i64 q]), (2, .var [.clo 80 []]), (4, .varp [.int .i64 c10, .int .i64 c11, .sl (c12.map eInt), .sl (c13.map Edge.enc), .sl (c14.map Named.enc)])]⟩ r outs

theorem slices_IndexFunc_api_Edge_api_Edge_2.l0.ok (c8 : List Edge) (c9 : Int) (c10 : Int) (c11 : Int) (c12 : List Int) (c13 : List Edge) (c14 : List Named) (r : AV) (outs : List AObj) (s : Int × Int) (q : (Int × Int) ⊕ Int) (h : loopN fuel (slices_IndexFunc_api_Edge_api_Edge_2.l0 c8 c9 c10 c11 c12 c13 c14) s = some q) (hd : slices_IndexFunc_api_Edge_api_Edge_2.l0.post c8 c9 c10 c11 c12 c13 c14 r outs q) :
    WK Try.prog (79, 3) [.inLoop (sub b79 [1, 0, 1, 0, 0]), .inBlock 0, .code (sub b79 [1, 1])] (slices_IndexFunc_api_Edge_api_Edge_2.l0.enc c8 c9 c10 c11 c12 c13 c14 s) r outs := by
  refine WK.loop (slices_IndexFunc_api_Edge_api_Edge_2.l0.enc c8 c9 c10 c11 c12 c13 c14) (slices_IndexFunc_api_Edge_api_Edge_2.l0 c8 c9 c10 c11 c12 c13 c14) (slices_IndexFunc_api_Edge_api_Edge_2.l0.post c8 c9 c10 c11 c12 c13 c14 r outs) ?_ fuel s q h hd
  intro s x hx hn
  unfold slices_IndexFunc_api_Edge_api_Edge_2.l0 at hx
  refine br_ok hx (fun h15 hx => ?_) (fun h15 hx => ?_)
  · refine getR_ok hx fun a16 h17 h18 hx => ?_
    refine bd_ok hx fun y19 e20 hx => ?_
    refine br_ok hx (fun h21 hx => ?_) (fun h21 hx => ?_)
    · have hx := Option.some.inj hx
      subst hx
      refine WK.run (an := [.lp, .reg [], .br true, .reg [], .reg [(3, none, .row (Edge.enc a16)), (5, none, .call [] [0, 2, 4] (.pv (.bool y19.1)) [.varp [.int .i64 y19.2], .var [.clo 80 []], .varp [.int .i64 c10, .int .i64 c11, .sl (c12.map eInt), .sl (c13.map Edge.enc), .sl (c14.map Named.enc)]] [])], .br true, .reg []]) (kt := [4]) (ko := [(0, 0), (2, 2), (4, 4)]) (k' := [.code (sub b79 [1, 0, 1, 0, 0, 1, 1, 0, 0, 1, 1, 0, 1]), .inBlock 1, .code (sub b79 [1, 0, 1, 0, 0, 1, 1, 1]), .inLoop (sub b79 [1, 0, 1, 0, 0]), .inBlock 0, .code (sub b79 [1, 1])]) (σ' := ⟨19, [(4, .pv (.int .i64 s.1))], [(0, .varp [.int .i64 y19.2]), (2, .var [.clo 80 []]), (4, .varp [.int .i64 c10, .int .i64 c11, .sl (c12.map eInt), .sl (c13.map Edge.enc), .sl (c14.map Named.enc)])]⟩) (ps := [(decide (s.1 < c9)) = true, 0 ≤ (s.1 : Int), (c8.map Edge.enc)[(s.1 : Int).toNat]? = some (Edge.enc a16), (Edge.enc a16).length = 6, Spec Try.prog 81 [.aggp [.int .i64 a16.ID, .int .i64 a16.From, .int .i64 a16.To, .bool a16.Directed, .int .i64 a16.Weight, .int .i64 a16.Cap], .ref 0 0 0 0, .ref 2 0 0 0, .ref 4 0 0 0] [.varp [.int .i64 s.2], .var [.clo 80 []], .varp [.int .i64 c10, .int .i64 c11, .sl (c12.map eInt), .sl (c13.map Edge.enc), .sl (c14.map Named.enc)]] (.pv (.bool y19.1)) [.varp [.int .i64 y19.2], .var [.clo 80 []], .varp [.int .i64 c10, .int .i64 c11, .sl (c12.map eInt), .sl (c13.map Edge.enc), .sl (c14.map Named.enc)]], y19.1 = true])
        (by kernel_rfl) ⟨h15, h17, rowOb h18, rfl, forest_around_2.ok a16 s.2 c10 c11 c12 c13 c14 e20, h21, trivial⟩ ?_
      exact hn
    · have hx := Option.some.inj hx
      subst hx
      refine WK.run (an := [.lp, .reg [], .br true, .reg [], .reg [(3, none, .row (Edge.enc a16)), (5, none, .call [] [0, 2, 4] (.pv (.bool y19.1)) [.varp [.int .i64 y19.2], .var [.clo 80 []], .varp [.int .i64 c10, .int .i64 c11, .sl (c12.map eInt), .sl (c13.map Edge.enc), .sl (c14.map Named.enc)]] [])], .br false, .reg []]) (kt := [0, 1, 7, 8]) (ko := [(0, 0), (2, 2), (4, 4)]) (k' := [.inLoop (sub b79 [1, 0, 1, 0, 0]), .inBlock 0, .code (sub b79 [1, 1])]) (σ' := slices_IndexFunc_api_Edge_api_Edge_2.l0.enc c8 c9 c10 c11 c12 c13 c14 ((IntKind.i64.wrap (s.1 + 1)), y19.2)) (ps := [(decide (s.1 < c9)) = true, 0 ≤ (s.1 : Int), (c8.map Edge.enc)[(s.1 : Int).toNat]? = some (Edge.enc a16), (Edge.enc a16).length = 6, Spec Try.prog 81 [.aggp [.int .i64 a16.ID, .int .i64 a16.From, .int .i64 a16.To, .bool a16.Directed, .int .i64 a16.Weight, .int .i64 a16.Cap], .ref 0 0 0 0, .ref 2 0 0 0, .ref 4 0 0 0] [.varp [.int .i64 s.2], .var [.clo 80 []], .varp [.int .i64 c10, .int .i64 c11, .sl (c12.map eInt), .sl (c13.map Edge.enc), .sl (c14.map Named.enc)]] (.pv (.bool y19.1)) [.varp [.int .i64 y19.2], .var [.clo 80 []], .varp [.int .i64 c10, .int .i64 c11, .sl (c12.map eInt), .sl (c13.map Edge.enc), .sl (c14.map Named.enc)]], y19.1 = false])
        (by kernel_rfl) ⟨h15, h17, rowOb h18, rfl, forest_around_2.ok a16 s.2 c10 c11 c12 c13 c14 e20, h21, trivial⟩ ?_
      exact hn
  · have hx := Option.some.inj hx
    subst hx
    refine WK.run (an := [.lp, .reg [], .br false]) (kt := []) (ko := [(0, 0), (2, 2), (4, 4)]) (k' := [.code (sub b79 [1, 1, 0]), .code (sub b79 [1, 1, 1])]) (σ' := ⟨19, [], [(0, .varp [.int .i64 s.2]), (2, .var [.clo 80 []]), (4, .varp [.int .i64 c10, .int .i64 c11, .sl (c12.map eInt), .sl (c13.map Edge.enc), .sl (c14.map Named.enc)])]⟩) (ps := [(decide (s.1 < c9)) = false])
      (by kernel_rfl) ⟨h15, trivial⟩ ?_
    exact hn

noncomputable def slices_IndexFunc_api_Edge_api_Edge_2 (v1 : List Edge) (v2 : Int) (v3 : Int) (v4 : Int) (v5 : List Int) (v6 : List Edge) (v7 : List Named) : Option (Int × Int × Int × Int × (List Int) × (List Edge) × (List Named)) :=
  bd (loopN fuel (slices_IndexFunc_api_Edge_api_Edge_2.l0 v1 ((v1.length : Nat) : Int) v3 v4 v5 v6 v7) (0, v2)) fun q22 =>
  match q22 with
  | .inl q22 =>
    some (q22.1, q22.2, v3, v4, v5, v6, v7)
  | .inr q22 =>
    some ((-1), q22, v3, v4, v5, v6, v7)

theorem slices_IndexFunc_api_Edge_api_Edge_2.ok (v1 : List Edge) (v2 : Int) (v3 : Int) (v4 : Int) (v5 : List Int) (v6 : List Edge) (v7 : List Named) {x : Int × Int × Int × Int × (List Int) × (List Edge) × (List Named)} (hx : slices_IndexFunc_api_Edge_api_Edge_2 v1 v2 v3 v4 v5 v6 v7 = some x) :
    Spec Try.prog 79 [.pv (.sl (v1.map Edge.enc)), .clo 81 [.ref 0 0 0 0, .ref 2 0 0 0, .ref 4 0 0 0]] [.varp [.int .i64 v2], .var [.clo 80 []], .varp [.int .i64 v3, .int .i64 v4, .sl (v5.map eInt), .sl (v6.map Edge.enc), .sl (v7.map Named.enc)]] (.pv (.int .i64 x.1)) [.varp [.int .i64 x.2.1], .var [.clo 80 []], .varp [.int .i64 x.2.2.1, .int .i64 x.2.2.2.1, .sl (x.2.2.2.2.1.map eInt), .sl (x.2.2.2.2.2.1.map Edge.enc), .sl (x.2.2.2.2.2.2.map Named.enc)]] := by
  refine Spec.of (c := b79) Try.func79 rfl rfl rfl ?_
  unfold slices_IndexFunc_api_Edge_api_Edge_2 at hx
  refine bd_ok hx fun q22 e23 hx => ?_
  refine WK.run (an := [.reg [], .reg [(1, none, .val (.pv (.int .i64 ((v1.length : Nat) : Int))))]]) (kt := [0, 1, 7, 8]) (ko := [(0, 0), (2, 2), (4, 4)]) (k' := [.code (sub b79 [1, 0, 1, 0]), .inBlock 0, .code (sub b79 [1, 1])]) (σ' := slices_IndexFunc_api_Edge_api_Edge_2.l0.enc v1 ((v1.length : Nat) : Int) v3 v4 v5 v6 v7 (0, v2)) (ps := [AV.pv (.int .i64 ((v1.map Edge.enc).length : Nat)) = .pv (.int .i64 (v1.length : Nat))])
    (by kernel_rfl) ⟨lenOb, trivial⟩ ?_
  refine WK.enterLoop (slices_IndexFunc_api_Edge_api_Edge_2.l0.ok v1 ((v1.length : Nat) : Int) v3 v4 v5 v6 v7 _ _ _ _ e23 ?_)
  rcases q22 with (q22 | q22)
  · have hx := Option.some.inj hx
    subst hx
    refine WK.run (an := []) (kt := [4]) (ko := [(0, 0), (2, 2), (4, 4)]) (k' := [.code (sub b79 [1, 0, 1, 0, 0, 1, 1, 0, 0, 1, 1, 0, 1]), .inBlock 1, .code (sub b79 [1, 0, 1, 0, 0, 1, 1, 1]), .inLoop (sub b79 [1, 0, 1, 0, 0]), .inBlock 0, .code (sub b79 [1, 1])]) (σ' := ⟨19, [(4, .pv (.int .i64 q22.1))], [(0, .varp [.int .i64 q22.2]), (2, .var [.clo 80 []]), (4, .varp [.int .i64 v3, .int .i64 v4, .sl (v5.map eInt), .sl (v6.map Edge.enc), .sl (v7.map Named.enc)])]⟩) (ps := [])
      (by kernel_rfl) trivial ?_
    exact WK.ret (fn := Try.f79) Try.func79 (frz := []) (esc := []) (ps := []) (by kernel_rfl) trivial
  · have hx := Option.some.inj hx
    subst hx
    refine WK.run (an := [.reg []]) (kt := [4]) (ko := [(0, 0), (2, 2), (4, 4)]) (k' := [.code (sub b79 [1, 1, 1])]) (σ' := ⟨19, [(4, .pv (.int .i64 (-1)))], [(0, .varp [.int .i64 q22]), (2, .var [.clo 80 []]), (4, .varp [.int .i64 v3, .int .i64 v4, .sl (v5.map eInt), .sl (v6.map Edge.enc), .sl (v7.map Named.enc)])]⟩) (ps := [])
      (by kernel_rfl) trivial ?_
    exact WK.ret (fn := Try.f79) Try.func79 (frz := []) (esc := []) (ps := []) (by kernel_rfl) trivial

noncomputable def slices_ContainsFunc_api_Edge_api_Edge_2 (v1 : List Edge) (v2 : Int) (v3 : Int) (v4 : Int) (v5 : List Int) (v6 : List Edge) (v7 : List Named) : Option (Bool × Int × Int × Int × (List Int) × (List Edge) × (List Named)) :=
  bd (slices_IndexFunc_api_Edge_api_Edge_2 v1 v2 v3 v4 v5 v6 v7) fun y8 =>
  some ((decide (y8.1 ≥ 0)), y8.2.1, y8.2.2.1, y8.2.2.2.1, y8.2.2.2.2.1, y8.2.2.2.2.2.1, y8.2.2.2.2.2.2)

theorem slices_ContainsFunc_api_Edge_api_Edge_2.ok (v1 : List Edge) (v2 : Int) (v3 : Int) (v4 : Int) (v5 : List Int) (v6 : List Edge) (v7 : List Named) {x : Bool × Int × Int × Int × (List Int) × (List Edge) × (List Named)} (hx : slices_ContainsFunc_api_Edge_api_Edge_2 v1 v2 v3 v4 v5 v6 v7 = some x) :
    Spec Try.prog 53 [.pv (.sl (v1.map Edge.enc)), .clo 81 [.ref 0 0 0 0, .ref 2 0 0 0, .ref 4 0 0 0]] [.varp [.int .i64 v2], .var [.clo 80 []], .varp [.int .i64 v3, .int .i64 v4, .sl (v5.map eInt), .sl (v6.map Edge.enc), .sl (v7.map Named.enc)]] (.pv (.bool x.1)) [.varp [.int .i64 x.2.1], .var [.clo 80 []], .varp [.int .i64 x.2.2.1, .int .i64 x.2.2.2.1, .sl (x.2.2.2.2.1.map eInt), .sl (x.2.2.2.2.2.1.map Edge.enc), .sl (x.2.2.2.2.2.2.map Named.enc)]] := by
  refine Spec.of (c := b53) Try.func53 rfl rfl rfl ?_
  unfold slices_ContainsFunc_api_Edge_api_Edge_2 at hx
  refine bd_ok hx fun y8 e9 hx => ?_
  have hx := Option.some.inj hx
  subst hx
  refine WK.run (an := [.reg [], .reg [(2, none, .call [] [0, 2, 4] (.pv (.int .i64 y8.1)) [.varp [.int .i64 y8.2.1], .var [.clo 80 []], .varp [.int .i64 y8.2.2.1, .int .i64 y8.2.2.2.1, .sl (y8.2.2.2.2.1.map eInt), .sl (y8.2.2.2.2.2.1.map Edge.enc), .sl (y8.2.2.2.2.2.2.map Named.enc)]] [])]]) (kt := [4]) (ko := [(0, 0), (2, 2), (4, 4)]) (k' := [.code (sub b53 [1, 1])]) (σ' := ⟨9, [(4, .pv (.bool (decide (y8.1 ≥ 0))))], [(0, .varp [.int .i64 y8.2.1]), (2, .var [.clo 80 []]), (4, .varp [.int .i64 y8.2.2.1, .int .i64 y8.2.2.2.1, .sl (y8.2.2.2.2.1.map eInt), .sl (y8.2.2.2.2.2.1.map Edge.enc), .sl (y8.2.2.2.2.2.2.map Named.enc)])]⟩) (ps := [Spec Try.prog 79 [.pv (.sl (v1.map Edge.enc)), .clo 81 [.ref 0 0 0 0, .ref 2 0 0 0, .ref 4 0 0 0]] [.varp [.int .i64 v2], .var [.clo 80 []], .varp [.int .i64 v3, .int .i64 v4, .sl (v5.map eInt), .sl (v6.map Edge.enc), .sl (v7.map Named.enc)]] (.pv (.int .i64 y8.1)) [.varp [.int .i64 y8.2.1], .var [.clo 80 []], .varp [.int .i64 y8.2.2.1, .int .i64 y8.2.2.2.1, .sl (y8.2.2.2.2.1.map eInt), .sl (y8.2.2.2.2.2.1.map Edge.enc), .sl (y8.2.2.2.2.2.2.map Named.enc)]]])
    (by kernel_rfl) ⟨slices_IndexFunc_api_Edge_api_Edge_2.ok v1 v2 v3 v4 v5 v6 v7 e9, trivial⟩ ?_
  exact WK.ret (fn := Try.f53) Try.func53 (frz := []) (esc := []) (ps := []) (by kernel_rfl) trivial

noncomputable abbrev b58 : Code := body Try.f58
noncomputable def forest_around (v1 : View) : Option Bool :=
  bd (forest_around_1 v1.Vertex.ID) fun y2 =>
  br y2 (
    bd (slices_ContainsFunc_api_Edge_api_Edge_2 v1.Edges (-1) v1.Vertex.ID v1.Vertex.Side v1.Depots v1.Edges v1.Labels) fun y5 =>
    some (!y5.1)) (
    some false)

theorem forest_around.ok (v1 : View) {x : Bool} (hx : forest_around v1 = some x) :
    Spec Try.prog 58 [.aggp [.int .i64 v1.Vertex.ID, .int .i64 v1.Vertex.Side, .sl (v1.Depots.map eInt), .sl (v1.Edges.map Edge.enc), .sl (v1.Labels.map Named.enc)]] [] (.pv (.bool x)) [] := by
  refine Spec.of (c := b58) Try.func58 rfl rfl rfl ?_
  unfold forest_around at hx
  refine bd_ok hx fun y2 e3 hx => ?_
  refine br_ok hx (fun h4 hx => ?_) (fun h4 hx => ?_)
  · refine bd_ok hx fun y5 e6 hx => ?_
    have hx := Option.some.inj hx
    subst hx
    refine WK.run (an := [.reg [(0, none, .nm 1003)], .reg [(0, none, .nm 1005)], .reg [(0, none, .nm 1007)], .reg [], .reg [(4, none, .call [] [] (.pv (.bool y2)) [] []), (6, some true, .no), (9, none, .call [] [1007, 1005, 1003] (.pv (.bool y5.1)) [.varp [.int .i64 y5.2.1], .var [.clo 80 []], .varp [.int .i64 y5.2.2.1, .int .i64 y5.2.2.2.1, .sl (y5.2.2.2.2.1.map eInt), .sl (y5.2.2.2.2.2.1.map Edge.enc), .sl (y5.2.2.2.2.2.2.map Named.enc)]] [])]]) (kt := [2]) (ko := []) (k' := [.code (sub b58 [1, 1, 1, 1, 1])]) (σ' := ⟨19, [(2, .pv (.bool (!y5.1)))], []⟩) (ps := [1 = 1, 1 = 1, Spec Try.prog 80 [.pv (.int .i64 v1.Vertex.ID)] [] (.pv (.bool y2)) [], y2 = true, Spec Try.prog 53 [.pv (.sl (v1.Edges.map Edge.enc)), .clo 81 [.ref 0 0 0 0, .ref 2 0 0 0, .ref 4 0 0 0]] [.varp [.int .i64 (-1)], .var [.clo 80 []], .varp [.int .i64 v1.Vertex.ID, .int .i64 v1.Vertex.Side, .sl (v1.Depots.map eInt), .sl (v1.Edges.map Edge.enc), .sl (v1.Labels.map Named.enc)]] (.pv (.bool y5.1)) [.varp [.int .i64 y5.2.1], .var [.clo 80 []], .varp [.int .i64 y5.2.2.1, .int .i64 y5.2.2.2.1, .sl (y5.2.2.2.2.1.map eInt), .sl (y5.2.2.2.2.2.1.map Edge.enc), .sl (y5.2.2.2.2.2.2.map Named.enc)]]])
      (by kernel_rfl) ⟨rfl, rfl, forest_around_1.ok v1.Vertex.ID e3, h4, slices_ContainsFunc_api_Edge_api_Edge_2.ok v1.Edges (-1) v1.Vertex.ID v1.Vertex.Side v1.Depots v1.Edges v1.Labels e6, trivial⟩ ?_
    exact WK.ret (fn := Try.f58) Try.func58 (frz := []) (esc := []) (ps := []) (by kernel_rfl) trivial
  · have hx := Option.some.inj hx
    subst hx
    refine WK.run (an := [.reg [(0, none, .nm 1003)], .reg [(0, none, .nm 1005)], .reg [(0, none, .nm 1007)], .reg [], .reg [(4, none, .call [] [] (.pv (.bool y2)) [] []), (6, some false, .no)]]) (kt := [2]) (ko := []) (k' := [.code (sub b58 [1, 1, 1, 1, 1])]) (σ' := ⟨19, [(2, .pv (.bool false))], []⟩) (ps := [1 = 1, 1 = 1, Spec Try.prog 80 [.pv (.int .i64 v1.Vertex.ID)] [] (.pv (.bool y2)) [], y2 = false])
      (by kernel_rfl) ⟨rfl, rfl, forest_around_1.ok v1.Vertex.ID e3, h4, trivial⟩ ?_
    exact WK.ret (fn := Try.f58) Try.func58 (frz := []) (esc := []) (ps := []) (by kernel_rfl) trivial

noncomputable abbrev b29 : Code := body Try.f29
noncomputable def forest_Good.l0 (c37 : List (Int × (Option (List Int)))) (c38 : Int) (c39 : List Int) (c40 : List Edge) (c41 : Int) (s : Int × Int) : Option (Nx (Int × Int) (Unit ⊕ (Int × Bool))) :=
  br (decide (s.2 < c41)) (
    getR c40 s.2 fun a43 =>
    bd (graph_Other a43 c38) fun y46 =>
    oc (mapGet c37 y46) (
      some (.done (.inl ()))) fun a48 => (
      oc (a48) (
        some (.done (.inl ()))) fun a50 => (
        gd (a50.isEmpty = false) <|
        getR a50 0 fun a53 =>
        getR c39 0 fun a56 =>
        br (a53 != a56) (
          some (.done (.inl ()))) (
          getR a50 1 fun a60 =>
          getR c39 1 fun a63 =>
          br (decide (a60 < (IntKind.i64.wrap (a63 - 1)))) (
            some (.done (.inl ()))) (
            getR a50 1 fun a67 =>
            getR c39 1 fun a70 =>
            br (a67 == (IntKind.i64.wrap (a70 - 1))) (
              br (decide (s.1 < 0)) (
                some (.cont (a43.ID, (IntKind.i64.wrap (s.2 + 1))))) (
                some (.cont (s.1, (IntKind.i64.wrap (s.2 + 1)))))) (
              some (.cont (s.1, (IntKind.i64.wrap (s.2 + 1)))))))))) (
    getR c39 1 fun a75 =>
    some (.done (.inr (s.1, (a75 == 0)))))

abbrev forest_Good.l0.enc (c37 : List (Int × (Option (List Int)))) (c38 : Int) (c39 : List Int) (c40 : List Edge) (c41 : Int) (s : Int × Int) : St := ⟨121, [(3, .pv (.mp false (c37.map mKey) (c37.map (mRow (eOpt eInt))))), (4, .pv (.int .i64 c38)), (5, .pv (.sl (c39.map eInt))), (6, .pv (.int .i64 s.1)), (57, .pv (.sl (c40.map Edge.enc))), (58, .pv (.int .i64 c41)), (59, .pv (.int .i64 s.2))], []⟩

abbrev forest_Good.l0.post (c37 : List (Int × (Option (List Int)))) (c38 : Int) (c39 : List Int) (c40 : List Edge) (c41 : Int) (r : AV) (outs : List AObj) (q : Unit ⊕ (Int × Bool)) : Prop := match q with | .inl q => WK Try.prog (29, 0) [.code (sub b29 [1, 1, 1, 1, 1, 0, 1, 0, 0, 1, 1, 0, 0, 1, 1, 0, 1, 0, 1]), .code (sub b29 [1, 1, 1, 1, 1, 0, 1, 0, 0, 1, 1, 0, 0, 1, 1, 1]), .inBlock 1, .code (sub b29 [1, 1, 1, 1, 1, 0, 1, 0, 0, 1, 1, 1]), .inLoop (sub b29 [1, 1, 1, 1, 1, 0, 1, 0, 0]), .inBlock 0, .code (sub b29 [1, 1, 1, 1, 1, 1])] ⟨121, [(2, .pv (.bool false))], []⟩ r outs | .inr q => WK Try.prog (29, 0) [.code (sub b29 [1, 1, 1, 1, 1, 1, 0, 1]), .code (sub b29 [1, 1, 1, 1, 1, 1, 1])] ⟨121, [(5, .pv (.sl (c39.map eInt))), (6, .pv (.int .i64 q.1)), (107, .pv (.bool q.2))], []⟩ r outs

theorem forest_Good.l0.ok (c37 : List (Int × (Option (List Int)))) (c38 : Int) (c39 : List Int) (c40 : List Edge) (c41 : Int) (r : AV) (outs : List AObj) (s : Int × Int) (q : Unit ⊕ (Int × Bool)) (h : loopN fuel (forest_Good.l0 c37 c38 c39 c40 c41) s = some q) (hd : forest_Good.l0.post c37 c38 c39 c40 c41 r outs q) :
    WK Try.prog (29, 0) [.inLoop (sub b29 [1, 1, 1, 1, 1, 0, 1, 0, 0]), .inBlock 0, .code (sub b29 [1, 1, 1, 1, 1, 1])] (forest_Good.l0.enc c37 c38 c39 c40 c41 s) r outs := by
  refine WK.loop (forest_Good.l0.enc c37 c38 c39 c40 c41) (forest_Good.l0 c37 c38 c39 c40 c41) (forest_Good.l0.post c37 c38 c39 c40 c41 r outs) ?_ fuel s q h hd
  intro s x hx hn
  unfold forest_Good.l0 at hx
  refine br_ok hx (fun h42 hx => ?_) (fun h42 hx => ?_)
  · refine getR_ok hx fun a43 h44 h45 hx => ?_
    refine bd_ok hx fun y46 e47 hx => ?_
    refine oc_ok hx (fun h49 hx => ?_) (fun a48 h49 hx => ?_)
    · have hx := Option.some.inj hx
      subst hx
      refine WK.run (an := [.lp, .reg [], .br true, .reg [(0, none, .row (Edge.enc a43)), (2, none, .nm 1007)], .reg [(3, none, .call [] [] (.pv (.int .i64 y46)) [] []), (4, none, .mget .undef none)], .draw [0, 1, 2, 3, 4, 5, 6, 7, 8, 9, 10, 11, 12, 13, 14, 15, 16, 17, 18, 19, 20] [], .bk, .reg []]) (kt := [2]) (ko := []) (k' := [.code (sub b29 [1, 1, 1, 1, 1, 0, 1, 0, 0, 1, 1, 0, 0, 1, 1, 0, 1, 0, 1]), .code (sub b29 [1, 1, 1, 1, 1, 0, 1, 0, 0, 1, 1, 0, 0, 1, 1, 1]), .inBlock 1, .code (sub b29 [1, 1, 1, 1, 1, 0, 1, 0, 0, 1, 1, 1]), .inLoop (sub b29 [1, 1, 1, 1, 1, 0, 1, 0, 0]), .inBlock 0, .code (sub b29 [1, 1, 1, 1, 1, 1])]) (σ' := ⟨121, [(2, .pv (.bool false))], []⟩) (ps := [(decide (s.2 < c41)) = true, 0 ≤ (s.2 : Int), (c40.map Edge.enc)[(s.2 : Int).toNat]? = some (Edge.enc a43), (Edge.enc a43).length = 6, 6 = 6, Spec Try.prog 35 [.aggp [.int .i64 a43.ID, .int .i64 a43.From, .int .i64 a43.To, .bool a43.Directed, .int .i64 a43.Weight, .int .i64 a43.Cap], .pv (.int .i64 c38)] [] (.pv (.int .i64 y46)) [], intKeys .i64 (c37.map mKey), mfind (c37.map mKey) (c37.map (mRow (eOpt eInt))) (.int .i64 y46) = none])
        (by kernel_rfl) ⟨h42, h44, rowOb h45, rfl, rfl, graph_Other.ok a43 c38 e47, ikOb, mfindOb0 h49, trivial⟩ ?_
      exact hn
    · refine oc_ok hx (fun h51 hx => ?_) (fun a50 h51 hx => ?_)
      · have hx := Option.some.inj hx
        subst hx
        refine WK.run (an := [.lp, .reg [], .br true, .reg [(0, none, .row (Edge.enc a43)), (2, none, .nm 1007)], .reg [(3, none, .call [] [] (.pv (.int .i64 y46)) [] []), (4, none, .mget (.pv .nilsl) (some [.nilsl]))], .draw [0, 1, 2, 3, 4, 5, 6, 7, 8, 9, 10, 11, 12, 13, 14, 15, 16, 17, 18, 19, 20] [], .bk, .reg []]) (kt := [2]) (ko := []) (k' := [.code (sub b29 [1, 1, 1, 1, 1, 0, 1, 0, 0, 1, 1, 0, 0, 1, 1, 0, 1, 0, 1]), .code (sub b29 [1, 1, 1, 1, 1, 0, 1, 0, 0, 1, 1, 0, 0, 1, 1, 1]), .inBlock 1, .code (sub b29 [1, 1, 1, 1, 1, 0, 1, 0, 0, 1, 1, 1]), .inLoop (sub b29 [1, 1, 1, 1, 1, 0, 1, 0, 0]), .inBlock 0, .code (sub b29 [1, 1, 1, 1, 1, 1])]) (σ' := ⟨121, [(2, .pv (.bool false))], []⟩) (ps := [(decide (s.2 < c41)) = true, 0 ≤ (s.2 : Int), (c40.map Edge.enc)[(s.2 : Int).toNat]? = some (Edge.enc a43), (Edge.enc a43).length = 6, 6 = 6, Spec Try.prog 35 [.aggp [.int .i64 a43.ID, .int .i64 a43.From, .int .i64 a43.To, .bool a43.Directed, .int .i64 a43.Weight, .int .i64 a43.Cap], .pv (.int .i64 c38)] [] (.pv (.int .i64 y46)) [], intKeys .i64 (c37.map mKey), mfind (c37.map mKey) (c37.map (mRow (eOpt eInt))) (.int .i64 y46) = some [.nilsl], rowAV false [.nilsl] = some (.pv .nilsl)])
          (by kernel_rfl) ⟨h42, h44, rowOb h45, rfl, rfl, graph_Other.ok a43 c38 e47, ikOb, mfindOb_n h49 h51, rfl, trivial⟩ ?_
        exact hn
      · refine gd_ok hx fun h52 hx => ?_
        refine getR_ok hx fun a53 h54 h55 hx => ?_
        refine getR_ok hx fun a56 h57 h58 hx => ?_
        refine br_ok hx (fun h59 hx => ?_) (fun h59 hx => ?_)
        · have hx := Option.some.inj hx
          subst hx
          refine WK.run (an := [.lp, .reg [], .br true, .reg [(0, none, .row (Edge.enc a43)), (2, none, .nm 1007)], .reg [(3, none, .call [] [] (.pv (.int .i64 y46)) [] []), (4, none, .mget (.pv (.sl (a50.map eInt))) (some [.sl (a50.map eInt)]))], .draw [0, 1, 2, 3, 4, 5, 6, 7, 8, 9, 10, 11, 12, 13, 14, 15, 16, 17, 18, 19, 20] [(4, none, .row (eInt a53)), (7, none, .row (eInt a56)), (12, some true, .no), (13, some true, .no), (14, some true, .no), (15, some true, .no), (16, some true, .no), (17, some true, .no), (18, some true, .no), (19, some true, .no), (20, none, .bit true)], .bk, .reg []]) (kt := [2]) (ko := []) (k' := [.code (sub b29 [1, 1, 1, 1, 1, 0, 1, 0, 0, 1, 1, 0, 0, 1, 1, 0, 1, 0, 1]), .code (sub b29 [1, 1, 1, 1, 1, 0, 1, 0, 0, 1, 1, 0, 0, 1, 1, 1]), .inBlock 1, .code (sub b29 [1, 1, 1, 1, 1, 0, 1, 0, 0, 1, 1, 1]), .inLoop (sub b29 [1, 1, 1, 1, 1, 0, 1, 0, 0]), .inBlock 0, .code (sub b29 [1, 1, 1, 1, 1, 1])]) (σ' := ⟨121, [(2, .pv (.bool false))], []⟩) (ps := [(decide (s.2 < c41)) = true, 0 ≤ (s.2 : Int), (c40.map Edge.enc)[(s.2 : Int).toNat]? = some (Edge.enc a43), (Edge.enc a43).length = 6, 6 = 6, Spec Try.prog 35 [.aggp [.int .i64 a43.ID, .int .i64 a43.From, .int .i64 a43.To, .bool a43.Directed, .int .i64 a43.Weight, .int .i64 a43.Cap], .pv (.int .i64 c38)] [] (.pv (.int .i64 y46)) [], intKeys .i64 (c37.map mKey), mfind (c37.map mKey) (c37.map (mRow (eOpt eInt))) (.int .i64 y46) = some [.sl (a50.map eInt)], rowAV false [.sl (a50.map eInt)] = some (.pv (.sl (a50.map eInt))), (a50.map eInt) ≠ [], 0 ≤ (0 : Int), (a50.map eInt)[(0 : Int).toNat]? = some (eInt a53), (eInt a53).length = 1, 0 ≤ (0 : Int), (c39.map eInt)[(0 : Int).toNat]? = some (eInt a56), (eInt a56).length = 1, (a53 != a56) = true, (a53 != a56) = true, (a53 != a56) = true, (a53 != a56) = true, (a53 != a56) = true, (a53 != a56) = true, (a53 != a56) = true, (a53 != a56) = true, (a53 != a56) = true])
            (by kernel_rfl) ⟨h42, h44, rowOb h45, rfl, rfl, graph_Other.ok a43 c38 e47, ikOb, mfindOb_s h49 h51, rfl, neOb h52, h54, rowOb h55, rfl, h57, rowOb h58, rfl, h59, h59, h59, h59, h59, h59, h59, h59, h59, trivial⟩ ?_
          exact hn
        · refine getR_ok hx fun a60 h61 h62 hx => ?_
          refine getR_ok hx fun a63 h64 h65 hx => ?_
          refine br_ok hx (fun h66 hx => ?_) (fun h66 hx => ?_)
          · have hx := Option.some.inj hx
            subst hx
            refine WK.run (an := [.lp, .reg [], .br true, .reg [(0, none, .row (Edge.enc a43)), (2, none, .nm 1007)], .reg [(3, none, .call [] [] (.pv (.int .i64 y46)) [] []), (4, none, .mget (.pv (.sl (a50.map eInt))) (some [.sl (a50.map eInt)]))], .draw [0, 1, 2, 3, 4, 5, 6, 7, 8, 9, 10, 11, 12, 13, 14, 15, 16, 17, 18, 19, 20] [(4, none, .row (eInt a53)), (7, none, .row (eInt a56)), (12, some false, .no), (13, some false, .row (eInt a60)), (14, some false, .no), (15, some false, .no), (16, some false, .row (eInt a63)), (17, some false, .no), (18, some false, .no), (19, some false, .no), (20, none, .bit false)], .br true, .reg []]) (kt := [2]) (ko := []) (k' := [.code (sub b29 [1, 1, 1, 1, 1, 0, 1, 0, 0, 1, 1, 0, 0, 1, 1, 0, 1, 0, 1]), .code (sub b29 [1, 1, 1, 1, 1, 0, 1, 0, 0, 1, 1, 0, 0, 1, 1, 1]), .inBlock 1, .code (sub b29 [1, 1, 1, 1, 1, 0, 1, 0, 0, 1, 1, 1]), .inLoop (sub b29 [1, 1, 1, 1, 1, 0, 1, 0, 0]), .inBlock 0, .code (sub b29 [1, 1, 1, 1, 1, 1])]) (σ' := ⟨121, [(2, .pv (.bool false))], []⟩) (ps := [(decide (s.2 < c41)) = true, 0 ≤ (s.2 : Int), (c40.map Edge.enc)[(s.2 : Int).toNat]? = some (Edge.enc a43), (Edge.enc a43).length = 6, 6 = 6, Spec Try.prog 35 [.aggp [.int .i64 a43.ID, .int .i64 a43.From, .int .i64 a43.To, .bool a43.Directed, .int .i64 a43.Weight, .int .i64 a43.Cap], .pv (.int .i64 c38)] [] (.pv (.int .i64 y46)) [], intKeys .i64 (c37.map mKey), mfind (c37.map mKey) (c37.map (mRow (eOpt eInt))) (.int .i64 y46) = some [.sl (a50.map eInt)], rowAV false [.sl (a50.map eInt)] = some (.pv (.sl (a50.map eInt))), (a50.map eInt) ≠ [], 0 ≤ (0 : Int), (a50.map eInt)[(0 : Int).toNat]? = some (eInt a53), (eInt a53).length = 1, 0 ≤ (0 : Int), (c39.map eInt)[(0 : Int).toNat]? = some (eInt a56), (eInt a56).length = 1, (a53 != a56) = false, (a53 != a56) = false, 0 ≤ (1 : Int), (a50.map eInt)[(1 : Int).toNat]? = some (eInt a60), (eInt a60).length = 1, (a53 != a56) = false, (a53 != a56) = false, (a53 != a56) = false, 0 ≤ (1 : Int), (c39.map eInt)[(1 : Int).toNat]? = some (eInt a63), (eInt a63).length = 1, (a53 != a56) = false, (a53 != a56) = false, (a53 != a56) = false, (a53 != a56) = false, (decide (a60 < (IntKind.i64.wrap (a63 - 1)))) = true])
              (by kernel_rfl) ⟨h42, h44, rowOb h45, rfl, rfl, graph_Other.ok a43 c38 e47, ikOb, mfindOb_s h49 h51, rfl, neOb h52, h54, rowOb h55, rfl, h57, rowOb h58, rfl, h59, h59, h61, rowOb h62, rfl, h59, h59, h59, h64, rowOb h65, rfl, h59, h59, h59, h59, h66, trivial⟩ ?_
            exact hn
          · refine getR_ok hx fun a67 h68 h69 hx => ?_
            refine getR_ok hx fun a70 h71 h72 hx => ?_
            refine br_ok hx (fun h73 hx => ?_) (fun h73 hx => ?_)
            · refine WK.run (an := [.lp, .reg [], .br true, .reg [(0, none, .row (Edge.enc a43)), (2, none, .nm 1007)], .reg [(3, none, .call [] [] (.pv (.int .i64 y46)) [] []), (4, none, .mget (.pv (.sl (a50.map eInt))) (some [.sl (a50.map eInt)]))], .draw [0, 1, 2, 3, 4, 5, 6, 7, 8, 9, 10, 11, 12, 13, 14, 15, 16, 17, 18, 19, 20] [(4, none, .row (eInt a53)), (7, none, .row (eInt a56)), (12, some false, .no), (13, some false, .row (eInt a60)), (14, some false, .no), (15, some false, .no), (16, some false, .row (eInt a63)), (17, some false, .no), (18, some false, .no), (19, some false, .no), (20, none, .bit false)], .br false, .draw [0, 1, 2, 3, 4, 5, 6, 7, 8, 9, 10, 11] [(1, none, .row (eInt a67)), (4, none, .row (eInt a70)), (9, some true, .no), (10, some true, .no), (11, none, .bit true)]]) (kt := [3, 4, 5, 6, 8, 57, 58, 59, 100]) (ko := [(1007, 101)]) (k' := [.code (sub b29 [1, 1, 1, 1, 1, 0, 1, 0, 0, 1, 1, 0, 0, 1, 1, 1, 1]), .inBlock 1, .code (sub b29 [1, 1, 1, 1, 1, 0, 1, 0, 0, 1, 1, 1]), .inLoop (sub b29 [1, 1, 1, 1, 1, 0, 1, 0, 0]), .inBlock 0, .code (sub b29 [1, 1, 1, 1, 1, 1])]) (σ' := ⟨121, [(3, .pv (.mp false (c37.map mKey) (c37.map (mRow (eOpt eInt))))), (4, .pv (.int .i64 c38)), (5, .pv (.sl (c39.map eInt))), (6, .pv (.int .i64 s.1)), (8, .ref 101 0 0 0), (57, .pv (.sl (c40.map Edge.enc))), (58, .pv (.int .i64 c41)), (59, .pv (.int .i64 s.2)), (100, .pv (.bool (decide (s.1 < 0))))], [(101, .varp [.int .i64 a43.ID, .int .i64 a43.From, .int .i64 a43.To, .bool a43.Directed, .int .i64 a43.Weight, .int .i64 a43.Cap])]⟩) (ps := [(decide (s.2 < c41)) = true, 0 ≤ (s.2 : Int), (c40.map Edge.enc)[(s.2 : Int).toNat]? = some (Edge.enc a43), (Edge.enc a43).length = 6, 6 = 6, Spec Try.prog 35 [.aggp [.int .i64 a43.ID, .int .i64 a43.From, .int .i64 a43.To, .bool a43.Directed, .int .i64 a43.Weight, .int .i64 a43.Cap], .pv (.int .i64 c38)] [] (.pv (.int .i64 y46)) [], intKeys .i64 (c37.map mKey), mfind (c37.map mKey) (c37.map (mRow (eOpt eInt))) (.int .i64 y46) = some [.sl (a50.map eInt)], rowAV false [.sl (a50.map eInt)] = some (.pv (.sl (a50.map eInt))), (a50.map eInt) ≠ [], 0 ≤ (0 : Int), (a50.map eInt)[(0 : Int).toNat]? = some (eInt a53), (eInt a53).length = 1, 0 ≤ (0 : Int), (c39.map eInt)[(0 : Int).toNat]? = some (eInt a56), (eInt a56).length = 1, (a53 != a56) = false, (a53 != a56) = false, 0 ≤ (1 : Int), (a50.map eInt)[(1 : Int).toNat]? = some (eInt a60), (eInt a60).length = 1, (a53 != a56) = false, (a53 != a56) = false, (a53 != a56) = false, 0 ≤ (1 : Int), (c39.map eInt)[(1 : Int).toNat]? = some (eInt a63), (eInt a63).length = 1, (a53 != a56) = false, (a53 != a56) = false, (a53 != a56) = false, (a53 != a56) = false, (decide (a60 < (IntKind.i64.wrap (a63 - 1)))) = false, 0 ≤ (1 : Int), (a50.map eInt)[(1 : Int).toNat]? = some (eInt a67), (eInt a67).length = 1, 0 ≤ (1 : Int), (c39.map eInt)[(1 : Int).toNat]? = some (eInt a70), (eInt a70).length = 1, (a67 == (IntKind.i64.wrap (a70 - 1))) = true, (a67 == (IntKind.i64.wrap (a70 - 1))) = true, (a67 == (IntKind.i64.wrap (a70 - 1))) = true])
                (by kernel_rfl) ⟨h42, h44, rowOb h45, rfl, rfl, graph_Other.ok a43 c38 e47, ikOb, mfindOb_s h49 h51, rfl, neOb h52, h54, rowOb h55, rfl, h57, rowOb h58, rfl, h59, h59, h61, rowOb h62, rfl, h59, h59, h59, h64, rowOb h65, rfl, h59, h59, h59, h59, h66, h68, rowOb h69, rfl, h71, rowOb h72, rfl, h73, h73, h73, trivial⟩ ?_
              refine br_ok hx (fun h74 hx => ?_) (fun h74 hx => ?_)
              · have hx := Option.some.inj hx
                subst hx
                refine WK.run (an := [.br true, .reg [], .reg []]) (kt := [3, 4, 5, 6, 57, 58, 59]) (ko := []) (k' := [.inLoop (sub b29 [1, 1, 1, 1, 1, 0, 1, 0, 0]), .inBlock 0, .code (sub b29 [1, 1, 1, 1, 1, 1])]) (σ' := forest_Good.l0.enc c37 c38 c39 c40 c41 (a43.ID, (IntKind.i64.wrap (s.2 + 1)))) (ps := [(decide (s.1 < 0)) = true])
                  (by kernel_rfl) ⟨h74, trivial⟩ ?_
                exact hn
              · have hx := Option.some.inj hx
                subst hx
                refine WK.run (an := [.br false, .reg []]) (kt := [3, 4, 5, 6, 57, 58, 59]) (ko := []) (k' := [.inLoop (sub b29 [1, 1, 1, 1, 1, 0, 1, 0, 0]), .inBlock 0, .code (sub b29 [1, 1, 1, 1, 1, 1])]) (σ' := forest_Good.l0.enc c37 c38 c39 c40 c41 (s.1, (IntKind.i64.wrap (s.2 + 1)))) (ps := [(decide (s.1 < 0)) = false])
                  (by kernel_rfl) ⟨h74, trivial⟩ ?_
                exact hn
            · have hx := Option.some.inj hx
              subst hx
              refine WK.run (an := [.lp, .reg [], .br true, .reg [(0, none, .row (Edge.enc a43)), (2, none, .nm 1007)], .reg [(3, none, .call [] [] (.pv (.int .i64 y46)) [] []), (4, none, .mget (.pv (.sl (a50.map eInt))) (some [.sl (a50.map eInt)]))], .draw [0, 1, 2, 3, 4, 5, 6, 7, 8, 9, 10, 11, 12, 13, 14, 15, 16, 17, 18, 19, 20] [(4, none, .row (eInt a53)), (7, none, .row (eInt a56)), (12, some false, .no), (13, some false, .row (eInt a60)), (14, some false, .no), (15, some false, .no), (16, some false, .row (eInt a63)), (17, some false, .no), (18, some false, .no), (19, some false, .no), (20, none, .bit false)], .br false, .draw [0, 1, 2, 3, 4, 5, 6, 7, 8, 9, 10, 11] [(1, none, .row (eInt a67)), (4, none, .row (eInt a70)), (9, some false, .no), (10, some false, .no), (11, none, .bit false)], .bk, .reg []]) (kt := [3, 4, 5, 6, 57, 58, 59]) (ko := []) (k' := [.inLoop (sub b29 [1, 1, 1, 1, 1, 0, 1, 0, 0]), .inBlock 0, .code (sub b29 [1, 1, 1, 1, 1, 1])]) (σ' := forest_Good.l0.enc c37 c38 c39 c40 c41 (s.1, (IntKind.i64.wrap (s.2 + 1)))) (ps := [(decide (s.2 < c41)) = true, 0 ≤ (s.2 : Int), (c40.map Edge.enc)[(s.2 : Int).toNat]? = some (Edge.enc a43), (Edge.enc a43).length = 6, 6 = 6, Spec Try.prog 35 [.aggp [.int .i64 a43.ID, .int .i64 a43.From, .int .i64 a43.To, .bool a43.Directed, .int .i64 a43.Weight, .int .i64 a43.Cap], .pv (.int .i64 c38)] [] (.pv (.int .i64 y46)) [], intKeys .i64 (c37.map mKey), mfind (c37.map mKey) (c37.map (mRow (eOpt eInt))) (.int .i64 y46) = some [.sl (a50.map eInt)], rowAV false [.sl (a50.map eInt)] = some (.pv (.sl (a50.map eInt))), (a50.map eInt) ≠ [], 0 ≤ (0 : Int), (a50.map eInt)[(0 : Int).toNat]? = some (eInt a53), (eInt a53).length = 1, 0 ≤ (0 : Int), (c39.map eInt)[(0 : Int).toNat]? = some (eInt a56), (eInt a56).length = 1, (a53 != a56) = false, (a53 != a56) = false, 0 ≤ (1 : Int), (a50.map eInt)[(1 : Int).toNat]? = some (eInt a60), (eInt a60).length = 1, (a53 != a56) = false, (a53 != a56) = false, (a53 != a56) = false, 0 ≤ (1 : Int), (c39.map eInt)[(1 : Int).toNat]? = some (eInt a63), (eInt a63).length = 1, (a53 != a56) = false, (a53 != a56) = false, (a53 != a56) = false, (a53 != a56) = false, (decide (a60 < (IntKind.i64.wrap (a63 - 1)))) = false, 0 ≤ (1 : Int), (a50.map eInt)[(1 : Int).toNat]? = some (eInt a67), (eInt a67).length = 1, 0 ≤ (1 : Int), (c39.map eInt)[(1 : Int).toNat]? = some (eInt a70), (eInt a70).length = 1, (a67 == (IntKind.i64.wrap (a70 - 1))) = false, (a67 == (IntKind.i64.wrap (a70 - 1))) = false, (a67 == (IntKind.i64.wrap (a70 - 1))) = false])
                (by kernel_rfl) ⟨h42, h44, rowOb h45, rfl, rfl, graph_Other.ok a43 c38 e47, ikOb, mfindOb_s h49 h51, rfl, neOb h52, h54, rowOb h55, rfl, h57, rowOb h58, rfl, h59, h59, h61, rowOb h62, rfl, h59, h59, h59, h64, rowOb h65, rfl, h59, h59, h59, h59, h66, h68, rowOb h69, rfl, h71, rowOb h72, rfl, h73, h73, h73, trivial⟩ ?_
              exact hn
  · refine getR_ok hx fun a75 h76 h77 hx => ?_
    have hx := Option.some.inj hx
    subst hx
    refine WK.run (an := [.lp, .reg [], .br false, .reg [(1, none, .row (eInt a75))]]) (kt := [5, 6, 107]) (ko := []) (k' := [.code (sub b29 [1, 1, 1, 1, 1, 1, 0, 1]), .code (sub b29 [1, 1, 1, 1, 1, 1, 1])]) (σ' := ⟨121, [(5, .pv (.sl (c39.map eInt))), (6, .pv (.int .i64 s.1)), (107, .pv (.bool (a75 == 0)))], []⟩) (ps := [(decide (s.2 < c41)) = false, 0 ≤ (1 : Int), (c39.map eInt)[(1 : Int).toNat]? = some (eInt a75), (eInt a75).length = 1])
      (by kernel_rfl) ⟨h42, h76, rowOb h77, rfl, trivial⟩ ?_
    exact hn

noncomputable def forest_Good (v1 : View) : Option Bool :=
  bd (forest_seen v1) fun y2 =>
  oc (mapGet y2 v1.Vertex.ID) (
    bd (forest_around v1) fun y6 =>
    br (!y6) (
      some false) (
      some false)) fun a4 => (
    oc (a4) (
      bd (forest_around v1) fun y11 =>
      br (!y11) (
        some false) (
        some false)) fun a9 => (
      bd (forest_around v1) fun y14 =>
      br (!y14) (
        some false) (
        gd (a9.isEmpty = false) <|
        getR a9 0 fun a18 =>
        br (decide (a18 < 0)) (
          some false) (
          getR a9 0 fun a22 =>
          br (decide (a22 > v1.Vertex.ID)) (
            some false) (
            getR a9 1 fun a26 =>
            br (decide (a26 < 0)) (
              some false) (
              getR a9 1 fun a30 =>
              getR a9 0 fun a33 =>
              br (!((a30 == 0) == (a33 == v1.Vertex.ID))) (
                some false) (
                bd (loopN fuel (forest_Good.l0 y2 v1.Vertex.ID a9 v1.Edges ((v1.Edges.length : Nat) : Int)) ((-1), 0)) fun q78 =>
                match q78 with
                | .inl q78 =>
                  some false
                | .inr q78 =>
                  br q78.2 (
                    getR a9 2 fun a81 =>
                    some (a81 == (-1))) (
                    br (decide (q78.1 ≥ 0)) (
                      getR a9 2 fun a85 =>
                      some (a85 == q78.1)) (
                      some false)))))))))

theorem forest_Good.ok (v1 : View) {x : Bool} (hx : forest_Good v1 = some x) :
    Spec Try.prog 29 [.aggp [.int .i64 v1.Vertex.ID, .int .i64 v1.Vertex.Side, .sl (v1.Depots.map eInt), .sl (v1.Edges.map Edge.enc), .sl (v1.Labels.map Named.enc)]] [] (.pv (.bool x)) [] := by
  refine Spec.of (c := b29) Try.func29 rfl rfl rfl ?_
  unfold forest_Good at hx
  refine bd_ok hx fun y2 e3 hx => ?_
  refine oc_ok hx (fun h5 hx => ?_) (fun a4 h5 hx => ?_)
  · refine bd_ok hx fun y6 e7 hx => ?_
    refine br_ok hx (fun h8 hx => ?_) (fun h8 hx => ?_)
    · have hx := Option.some.inj hx
      subst hx
      refine WK.run (an := [.reg [(0, none, .nm 1003)], .draw [0, 1, 2, 3, 4, 5, 6] [(1, none, .call [] [] (.pv (.mp false (y2.map mKey) (y2.map (mRow (eOpt eInt))))) [] [])], .reg [(2, none, .mget .undef none)], .draw [0, 1, 2, 3, 4, 5, 6, 7, 8, 9, 10, 11, 12, 13, 14, 15, 16, 17, 18, 19, 20, 21, 22, 23, 24, 25, 26, 27, 28, 29, 30, 31, 32, 33, 34, 35, 36, 37] [(1, none, .call [] [] (.pv (.bool y6)) [] []), (4, some true, .no), (5, some true, .no), (6, none, .bit true)], .bk, .reg []]) (kt := [2]) (ko := []) (k' := [.code (sub b29 [1, 1, 1, 0, 1, 0, 1]), .code (sub b29 [1, 1, 1, 1])]) (σ' := ⟨121, [(2, .pv (.bool false))], []⟩) (ps := [Spec Try.prog 57 [.aggp [.int .i64 v1.Vertex.ID, .int .i64 v1.Vertex.Side, .sl (v1.Depots.map eInt), .sl (v1.Edges.map Edge.enc), .sl (v1.Labels.map Named.enc)]] [] (.pv (.mp false (y2.map mKey) (y2.map (mRow (eOpt eInt))))) [], intKeys .i64 (y2.map mKey), mfind (y2.map mKey) (y2.map (mRow (eOpt eInt))) (.int .i64 v1.Vertex.ID) = none, Spec Try.prog 58 [.aggp [.int .i64 v1.Vertex.ID, .int .i64 v1.Vertex.Side, .sl (v1.Depots.map eInt), .sl (v1.Edges.map Edge.enc), .sl (v1.Labels.map Named.enc)]] [] (.pv (.bool y6)) [], (!y6) = true, (!y6) = true, (!y6) = true])
        (by kernel_rfl) ⟨forest_seen.ok v1 e3, ikOb, mfindOb0 h5, forest_around.ok v1 e7, h8, h8, h8, trivial⟩ ?_
      exact WK.ret (fn := Try.f29) Try.func29 (frz := []) (esc := []) (ps := []) (by kernel_rfl) trivial
    · have hx := Option.some.inj hx
      subst hx
      refine WK.run (an := [.reg [(0, none, .nm 1003)], .draw [0, 1, 2, 3, 4, 5, 6] [(1, none, .call [] [] (.pv (.mp false (y2.map mKey) (y2.map (mRow (eOpt eInt))))) [] [])], .reg [(2, none, .mget .undef none)], .draw [0, 1, 2, 3, 4, 5, 6, 7, 8, 9, 10, 11, 12, 13, 14, 15, 16, 17, 18, 19, 20, 21, 22, 23, 24, 25, 26, 27, 28, 29, 30, 31, 32, 33, 34, 35, 36, 37] [(1, none, .call [] [] (.pv (.bool y6)) [] []), (4, some false, .no), (5, some false, .no), (6, none, .bit false)], .bk, .reg []]) (kt := [2]) (ko := []) (k' := [.code (sub b29 [1, 1, 1, 0, 1, 0, 1]), .code (sub b29 [1, 1, 1, 1])]) (σ' := ⟨121, [(2, .pv (.bool false))], []⟩) (ps := [Spec Try.prog 57 [.aggp [.int .i64 v1.Vertex.ID, .int .i64 v1.Vertex.Side, .sl (v1.Depots.map eInt), .sl (v1.Edges.map Edge.enc), .sl (v1.Labels.map Named.enc)]] [] (.pv (.mp false (y2.map mKey) (y2.map (mRow (eOpt eInt))))) [], intKeys .i64 (y2.map mKey), mfind (y2.map mKey) (y2.map (mRow (eOpt eInt))) (.int .i64 v1.Vertex.ID) = none, Spec Try.prog 58 [.aggp [.int .i64 v1.Vertex.ID, .int .i64 v1.Vertex.Side, .sl (v1.Depots.map eInt), .sl (v1.Edges.map Edge.enc), .sl (v1.Labels.map Named.enc)]] [] (.pv (.bool y6)) [], (!y6) = false, (!y6) = false, (!y6) = false])
        (by kernel_rfl) ⟨forest_seen.ok v1 e3, ikOb, mfindOb0 h5, forest_around.ok v1 e7, h8, h8, h8, trivial⟩ ?_
      exact WK.ret (fn := Try.f29) Try.func29 (frz := []) (esc := []) (ps := []) (by kernel_rfl) trivial
  · refine oc_ok hx (fun h10 hx => ?_) (fun a9 h10 hx => ?_)
    · refine bd_ok hx fun y11 e12 hx => ?_
      refine br_ok hx (fun h13 hx => ?_) (fun h13 hx => ?_)
      · have hx := Option.some.inj hx
        subst hx
        refine WK.run (an := [.reg [(0, none, .nm 1003)], .draw [0, 1, 2, 3, 4, 5, 6] [(1, none, .call [] [] (.pv (.mp false (y2.map mKey) (y2.map (mRow (eOpt eInt))))) [] [])], .reg [(2, none, .mget (.pv .nilsl) (some [.nilsl]))], .draw [0, 1, 2, 3, 4, 5, 6, 7, 8, 9, 10, 11, 12, 13, 14, 15, 16, 17, 18, 19, 20, 21, 22, 23, 24, 25, 26, 27, 28, 29, 30, 31, 32, 33, 34, 35, 36, 37] [(1, none, .call [] [] (.pv (.bool y11)) [] []), (4, some true, .no), (5, some true, .no), (6, none, .bit true)], .bk, .reg []]) (kt := [2]) (ko := []) (k' := [.code (sub b29 [1, 1, 1, 0, 1, 0, 1]), .code (sub b29 [1, 1, 1, 1])]) (σ' := ⟨121, [(2, .pv (.bool false))], []⟩) (ps := [Spec Try.prog 57 [.aggp [.int .i64 v1.Vertex.ID, .int .i64 v1.Vertex.Side, .sl (v1.Depots.map eInt), .sl (v1.Edges.map Edge.enc), .sl (v1.Labels.map Named.enc)]] [] (.pv (.mp false (y2.map mKey) (y2.map (mRow (eOpt eInt))))) [], intKeys .i64 (y2.map mKey), mfind (y2.map mKey) (y2.map (mRow (eOpt eInt))) (.int .i64 v1.Vertex.ID) = some [.nilsl], rowAV false [.nilsl] = some (.pv .nilsl), Spec Try.prog 58 [.aggp [.int .i64 v1.Vertex.ID, .int .i64 v1.Vertex.Side, .sl (v1.Depots.map eInt), .sl (v1.Edges.map Edge.enc), .sl (v1.Labels.map Named.enc)]] [] (.pv (.bool y11)) [], (!y11) = true, (!y11) = true, (!y11) = true])
          (by kernel_rfl) ⟨forest_seen.ok v1 e3, ikOb, mfindOb_n h5 h10, rfl, forest_around.ok v1 e12, h13, h13, h13, trivial⟩ ?_
        exact WK.ret (fn := Try.f29) Try.func29 (frz := []) (esc := []) (ps := []) (by kernel_rfl) trivial
      · have hx := Option.some.inj hx
        subst hx
        refine WK.run (an := [.reg [(0, none, .nm 1003)], .draw [0, 1, 2, 3, 4, 5, 6] [(1, none, .call [] [] (.pv (.mp false (y2.map mKey) (y2.map (mRow (eOpt eInt))))) [] [])], .reg [(2, none, .mget (.pv .nilsl) (some [.nilsl]))], .draw [0, 1, 2, 3, 4, 5, 6, 7, 8, 9, 10, 11, 12, 13, 14, 15, 16, 17, 18, 19, 20, 21, 22, 23, 24, 25, 26, 27, 28, 29, 30, 31, 32, 33, 34, 35, 36, 37] [(1, none, .call [] [] (.pv (.bool y11)) [] []), (4, some false, .no), (5, some false, .no), (6, none, .bit false)], .bk, .reg []]) (kt := [2]) (ko := []) (k' := [.code (sub b29 [1, 1, 1, 0, 1, 0, 1]), .code (sub b29 [1, 1, 1, 1])]) (σ' := ⟨121, [(2, .pv (.bool false))], []⟩) (ps := [Spec Try.prog 57 [.aggp [.int .i64 v1.Vertex.ID, .int .i64 v1.Vertex.Side, .sl (v1.Depots.map eInt), .sl (v1.Edges.map Edge.enc), .sl (v1.Labels.map Named.enc)]] [] (.pv (.mp false (y2.map mKey) (y2.map (mRow (eOpt eInt))))) [], intKeys .i64 (y2.map mKey), mfind (y2.map mKey) (y2.map (mRow (eOpt eInt))) (.int .i64 v1.Vertex.ID) = some [.nilsl], rowAV false [.nilsl] = some (.pv .nilsl), Spec Try.prog 58 [.aggp [.int .i64 v1.Vertex.ID, .int .i64 v1.Vertex.Side, .sl (v1.Depots.map eInt), .sl (v1.Edges.map Edge.enc), .sl (v1.Labels.map Named.enc)]] [] (.pv (.bool y11)) [], (!y11) = false, (!y11) = false, (!y11) = false])
          (by kernel_rfl) ⟨forest_seen.ok v1 e3, ikOb, mfindOb_n h5 h10, rfl, forest_around.ok v1 e12, h13, h13, h13, trivial⟩ ?_
        exact WK.ret (fn := Try.f29) Try.func29 (frz := []) (esc := []) (ps := []) (by kernel_rfl) trivial
    · refine bd_ok hx fun y14 e15 hx => ?_
      refine br_ok hx (fun h16 hx => ?_) (fun h16 hx => ?_)
      · have hx := Option.some.inj hx
        subst hx
        refine WK.run (an := [.reg [(0, none, .nm 1003)], .draw [0, 1, 2, 3, 4, 5, 6] [(1, none, .call [] [] (.pv (.mp false (y2.map mKey) (y2.map (mRow (eOpt eInt))))) [] [])], .reg [(2, none, .mget (.pv (.sl (a9.map eInt))) (some [.sl (a9.map eInt)]))], .draw [0, 1, 2, 3, 4, 5, 6, 7, 8, 9, 10, 11, 12, 13, 14, 15, 16, 17, 18, 19, 20, 21, 22, 23, 24, 25, 26, 27, 28, 29, 30, 31, 32, 33, 34, 35, 36, 37] [(1, none, .call [] [] (.pv (.bool y14)) [] []), (4, some true, .no), (5, some true, .no), (6, none, .bit true)], .bk, .reg []]) (kt := [2]) (ko := []) (k' := [.code (sub b29 [1, 1, 1, 0, 1, 0, 1]), .code (sub b29 [1, 1, 1, 1])]) (σ' := ⟨121, [(2, .pv (.bool false))], []⟩) (ps := [Spec Try.prog 57 [.aggp [.int .i64 v1.Vertex.ID, .int .i64 v1.Vertex.Side, .sl (v1.Depots.map eInt), .sl (v1.Edges.map Edge.enc), .sl (v1.Labels.map Named.enc)]] [] (.pv (.mp false (y2.map mKey) (y2.map (mRow (eOpt eInt))))) [], intKeys .i64 (y2.map mKey), mfind (y2.map mKey) (y2.map (mRow (eOpt eInt))) (.int .i64 v1.Vertex.ID) = some [.sl (a9.map eInt)], rowAV false [.sl (a9.map eInt)] = some (.pv (.sl (a9.map eInt))), Spec Try.prog 58 [.aggp [.int .i64 v1.Vertex.ID, .int .i64 v1.Vertex.Side, .sl (v1.Depots.map eInt), .sl (v1.Edges.map Edge.enc), .sl (v1.Labels.map Named.enc)]] [] (.pv (.bool y14)) [], (!y14) = true, (!y14) = true, (!y14) = true])
          (by kernel_rfl) ⟨forest_seen.ok v1 e3, ikOb, mfindOb_s h5 h10, rfl, forest_around.ok v1 e15, h16, h16, h16, trivial⟩ ?_
        exact WK.ret (fn := Try.f29) Try.func29 (frz := []) (esc := []) (ps := []) (by kernel_rfl) trivial
      · refine gd_ok hx fun h17 hx => ?_
        refine getR_ok hx fun a18 h19 h20 hx => ?_
        refine br_ok hx (fun h21 hx => ?_) (fun h21 hx => ?_)
        · have hx := Option.some.inj hx
          subst hx
          refine WK.run (an := [.reg [(0, none, .nm 1003)], .draw [0, 1, 2, 3, 4, 5, 6] [(1, none, .call [] [] (.pv (.mp false (y2.map mKey) (y2.map (mRow (eOpt eInt))))) [] [])], .reg [(2, none, .mget (.pv (.sl (a9.map eInt))) (some [.sl (a9.map eInt)]))], .draw [0, 1, 2, 3, 4, 5, 6, 7, 8, 9, 10, 11, 12, 13, 14, 15, 16, 17, 18, 19, 20, 21, 22, 23, 24, 25, 26, 27, 28, 29, 30, 31, 32, 33, 34, 35, 36, 37] [(1, none, .call [] [] (.pv (.bool y14)) [] []), (4, some false, .no), (5, some false, .no), (6, none, .bit false), (9, none, .row (eInt a18)), (14, some true, .no), (15, some true, .no), (16, some true, .no), (17, some true, .no), (18, some true, .no), (19, none, .bit true)], .bk, .reg []]) (kt := [2]) (ko := []) (k' := [.code (sub b29 [1, 1, 1, 0, 1, 0, 1]), .code (sub b29 [1, 1, 1, 1])]) (σ' := ⟨121, [(2, .pv (.bool false))], []⟩) (ps := [Spec Try.prog 57 [.aggp [.int .i64 v1.Vertex.ID, .int .i64 v1.Vertex.Side, .sl (v1.Depots.map eInt), .sl (v1.Edges.map Edge.enc), .sl (v1.Labels.map Named.enc)]] [] (.pv (.mp false (y2.map mKey) (y2.map (mRow (eOpt eInt))))) [], intKeys .i64 (y2.map mKey), mfind (y2.map mKey) (y2.map (mRow (eOpt eInt))) (.int .i64 v1.Vertex.ID) = some [.sl (a9.map eInt)], rowAV false [.sl (a9.map eInt)] = some (.pv (.sl (a9.map eInt))), Spec Try.prog 58 [.aggp [.int .i64 v1.Vertex.ID, .int .i64 v1.Vertex.Side, .sl (v1.Depots.map eInt), .sl (v1.Edges.map Edge.enc), .sl (v1.Labels.map Named.enc)]] [] (.pv (.bool y14)) [], (!y14) = false, (!y14) = false, (a9.map eInt) ≠ [], (!y14) = false, 0 ≤ (0 : Int), (a9.map eInt)[(0 : Int).toNat]? = some (eInt a18), (eInt a18).length = 1, (decide (a18 < 0)) = true, (decide (a18 < 0)) = true, (decide (a18 < 0)) = true, (decide (a18 < 0)) = true, (decide (a18 < 0)) = true, (decide (a18 < 0)) = true])
            (by kernel_rfl) ⟨forest_seen.ok v1 e3, ikOb, mfindOb_s h5 h10, rfl, forest_around.ok v1 e15, h16, h16, neOb h17, h16, h19, rowOb h20, rfl, h21, h21, h21, h21, h21, h21, trivial⟩ ?_
          exact WK.ret (fn := Try.f29) Try.func29 (frz := []) (esc := []) (ps := []) (by kernel_rfl) trivial
        · refine getR_ok hx fun a22 h23 h24 hx => ?_
          refine br_ok hx (fun h25 hx => ?_) (fun h25 hx => ?_)
          · have hx := Option.some.inj hx
            subst hx
            refine WK.run (an := [.reg [(0, none, .nm 1003)], .draw [0, 1, 2, 3, 4, 5, 6] [(1, none, .call [] [] (.pv (.mp false (y2.map mKey) (y2.map (mRow (eOpt eInt))))) [] [])], .reg [(2, none, .mget (.pv (.sl (a9.map eInt))) (some [.sl (a9.map eInt)]))], .draw [0, 1, 2, 3, 4, 5, 6, 7, 8, 9, 10, 11, 12, 13, 14, 15, 16, 17, 18, 19, 20, 21, 22, 23, 24, 25, 26, 27, 28, 29, 30, 31, 32, 33, 34, 35, 36, 37] [(1, none, .call [] [] (.pv (.bool y14)) [] []), (4, some false, .no), (5, some false, .no), (6, none, .bit false), (9, none, .row (eInt a18)), (14, some false, .no), (15, some false, .row (eInt a22)), (16, some false, .no), (17, some false, .no), (18, some false, .no), (19, none, .bit false), (21, some true, .no), (22, some true, .no), (23, some true, .no), (24, some true, .no), (25, none, .bit true)], .bk, .reg []]) (kt := [2]) (ko := []) (k' := [.code (sub b29 [1, 1, 1, 0, 1, 0, 1]), .code (sub b29 [1, 1, 1, 1])]) (σ' := ⟨121, [(2, .pv (.bool false))], []⟩) (ps := [Spec Try.prog 57 [.aggp [.int .i64 v1.Vertex.ID, .int .i64 v1.Vertex.Side, .sl (v1.Depots.map eInt), .sl (v1.Edges.map Edge.enc), .sl (v1.Labels.map Named.enc)]] [] (.pv (.mp false (y2.map mKey) (y2.map (mRow (eOpt eInt))))) [], intKeys .i64 (y2.map mKey), mfind (y2.map mKey) (y2.map (mRow (eOpt eInt))) (.int .i64 v1.Vertex.ID) = some [.sl (a9.map eInt)], rowAV false [.sl (a9.map eInt)] = some (.pv (.sl (a9.map eInt))), Spec Try.prog 58 [.aggp [.int .i64 v1.Vertex.ID, .int .i64 v1.Vertex.Side, .sl (v1.Depots.map eInt), .sl (v1.Edges.map Edge.enc), .sl (v1.Labels.map Named.enc)]] [] (.pv (.bool y14)) [], (!y14) = false, (!y14) = false, (a9.map eInt) ≠ [], (!y14) = false, 0 ≤ (0 : Int), (a9.map eInt)[(0 : Int).toNat]? = some (eInt a18), (eInt a18).length = 1, (decide (a18 < 0)) = false, (decide (a18 < 0)) = false, 0 ≤ (0 : Int), (a9.map eInt)[(0 : Int).toNat]? = some (eInt a22), (eInt a22).length = 1, (decide (a18 < 0)) = false, (decide (a18 < 0)) = false, (decide (a18 < 0)) = false, (decide (a18 < 0)) = false, (decide (a22 > v1.Vertex.ID)) = true, (decide (a22 > v1.Vertex.ID)) = true, (decide (a22 > v1.Vertex.ID)) = true, (decide (a22 > v1.Vertex.ID)) = true, (decide (a22 > v1.Vertex.ID)) = true])
              (by kernel_rfl) ⟨forest_seen.ok v1 e3, ikOb, mfindOb_s h5 h10, rfl, forest_around.ok v1 e15, h16, h16, neOb h17, h16, h19, rowOb h20, rfl, h21, h21, h23, rowOb h24, rfl, h21, h21, h21, h21, h25, h25, h25, h25, h25, trivial⟩ ?_
            exact WK.ret (fn := Try.f29) Try.func29 (frz := []) (esc := []) (ps := []) (by kernel_rfl) trivial
          · refine getR_ok hx fun a26 h27 h28 hx => ?_
            refine br_ok hx (fun h29 hx => ?_) (fun h29 hx => ?_)
            · have hx := Option.some.inj hx
              subst hx
              refine WK.run (an := [.reg [(0, none, .nm 1003)], .draw [0, 1, 2, 3, 4, 5, 6] [(1, none, .call [] [] (.pv (.mp false (y2.map mKey) (y2.map (mRow (eOpt eInt))))) [] [])], .reg [(2, none, .mget (.pv (.sl (a9.map eInt))) (some [.sl (a9.map eInt)]))], .draw [0, 1, 2, 3, 4, 5, 6, 7, 8, 9, 10, 11, 12, 13, 14, 15, 16, 17, 18, 19, 20, 21, 22, 23, 24, 25, 26, 27, 28, 29, 30, 31, 32, 33, 34, 35, 36, 37] [(1, none, .call [] [] (.pv (.bool y14)) [] []), (4, some false, .no), (5, some false, .no), (6, none, .bit false), (9, none, .row (eInt a18)), (14, some false, .no), (15, some false, .row (eInt a22)), (16, some false, .no), (17, some false, .no), (18, some false, .no), (19, none, .bit false), (21, some false, .no), (22, some false, .row (eInt a26)), (23, some false, .no), (24, some false, .no), (25, none, .bit false), (27, some true, .no), (28, some true, .no), (29, some true, .no), (30, some true, .no), (31, some true, .no), (32, some true, .no), (33, some true, .no), (34, some true, .no), (35, some true, .no), (36, some true, .no), (37, none, .bit true)], .bk, .reg []]) (kt := [2]) (ko := []) (k' := [.code (sub b29 [1, 1, 1, 0, 1, 0, 1]), .code (sub b29 [1, 1, 1, 1])]) (σ' := ⟨121, [(2, .pv (.bool false))], []⟩) (ps := [Spec Try.prog 57 [.aggp [.int .i64 v1.Vertex.ID, .int .i64 v1.Vertex.Side, .sl (v1.Depots.map eInt), .sl (v1.Edges.map Edge.enc), .sl (v1.Labels.map Named.enc)]] [] (.pv (.mp false (y2.map mKey) (y2.map (mRow (eOpt eInt))))) [], intKeys .i64 (y2.map mKey), mfind (y2.map mKey) (y2.map (mRow (eOpt eInt))) (.int .i64 v1.Vertex.ID) = some [.sl (a9.map eInt)], rowAV false [.sl (a9.map eInt)] = some (.pv (.sl (a9.map eInt))), Spec Try.prog 58 [.aggp [.int .i64 v1.Vertex.ID, .int .i64 v1.Vertex.Side, .sl (v1.Depots.map eInt), .sl (v1.Edges.map Edge.enc), .sl (v1.Labels.map Named.enc)]] [] (.pv (.bool y14)) [], (!y14) = false, (!y14) = false, (a9.map eInt) ≠ [], (!y14) = false, 0 ≤ (0 : Int), (a9.map eInt)[(0 : Int).toNat]? = some (eInt a18), (eInt a18).length = 1, (decide (a18 < 0)) = false, (decide (a18 < 0)) = false, 0 ≤ (0 : Int), (a9.map eInt)[(0 : Int).toNat]? = some (eInt a22), (eInt a22).length = 1, (decide (a18 < 0)) = false, (decide (a18 < 0)) = false, (decide (a18 < 0)) = false, (decide (a18 < 0)) = false, (decide (a22 > v1.Vertex.ID)) = false, (decide (a22 > v1.Vertex.ID)) = false, 0 ≤ (1 : Int), (a9.map eInt)[(1 : Int).toNat]? = some (eInt a26), (eInt a26).length = 1, (decide (a22 > v1.Vertex.ID)) = false, (decide (a22 > v1.Vertex.ID)) = false, (decide (a22 > v1.Vertex.ID)) = false, (decide (a26 < 0)) = true, (decide (a26 < 0)) = true, (decide (a26 < 0)) = true, (decide (a26 < 0)) = true, (decide (a26 < 0)) = true, (decide (a26 < 0)) = true, (decide (a26 < 0)) = true, (decide (a26 < 0)) = true, (decide (a26 < 0)) = true, (decide (a26 < 0)) = true, (decide (a26 < 0)) = true])
                (by kernel_rfl) ⟨forest_seen.ok v1 e3, ikOb, mfindOb_s h5 h10, rfl, forest_around.ok v1 e15, h16, h16, neOb h17, h16, h19, rowOb h20, rfl, h21, h21, h23, rowOb h24, rfl, h21, h21, h21, h21, h25, h25, h27, rowOb h28, rfl, h25, h25, h25, h29, h29, h29, h29, h29, h29, h29, h29, h29, h29, h29, trivial⟩ ?_
              exact WK.ret (fn := Try.f29) Try.func29 (frz := []) (esc := []) (ps := []) (by kernel_rfl) trivial
            · refine getR_ok hx fun a30 h31 h32 hx => ?_
              refine getR_ok hx fun a33 h34 h35 hx => ?_
              refine WK.run (an := [.reg [(0, none, .nm 1003)], .draw [0, 1, 2, 3, 4, 5, 6] [(1, none, .call [] [] (.pv (.mp false (y2.map mKey) (y2.map (mRow (eOpt eInt))))) [] [])], .reg [(2, none, .mget (.pv (.sl (a9.map eInt))) (some [.sl (a9.map eInt)]))], .draw [0, 1, 2, 3, 4, 5, 6, 7, 8, 9, 10, 11, 12, 13, 14, 15, 16, 17, 18, 19, 20, 21, 22, 23, 24, 25, 26, 27, 28, 29, 30, 31, 32, 33, 34, 35, 36, 37] [(1, none, .call [] [] (.pv (.bool y14)) [] []), (4, some false, .no), (5, some false, .no), (6, none, .bit false), (9, none, .row (eInt a18)), (14, some false, .no), (15, some false, .row (eInt a22)), (16, some false, .no), (17, some false, .no), (18, some false, .no), (19, none, .bit false), (21, some false, .no), (22, some false, .row (eInt a26)), (23, some false, .no), (24, some false, .no), (25, none, .bit false), (27, some false, .no), (28, some false, .row (eInt a30)), (29, some false, .no), (30, some false, .no), (31, some false, .no), (32, some false, .row (eInt a33)), (33, some false, .no), (34, some false, .no), (35, some false, .no), (36, some false, .no), (37, none, .bit false)]]) (kt := [1, 3, 4, 5, 55]) (ko := [(1003, 101)]) (k' := [.code (sub b29 [1, 1, 1, 0, 1]), .code (sub b29 [1, 1, 1, 1])]) (σ' := ⟨121, [(1, .ref 101 0 0 0), (3, .pv (.mp false (y2.map mKey) (y2.map (mRow (eOpt eInt))))), (4, .pv (.int .i64 v1.Vertex.ID)), (5, .pv (.sl (a9.map eInt))), (55, .pv (.bool (!((a30 == 0) == (a33 == v1.Vertex.ID)))))], [(101, .varp [.int .i64 v1.Vertex.ID, .int .i64 v1.Vertex.Side, .sl (v1.Depots.map eInt), .sl (v1.Edges.map Edge.enc), .sl (v1.Labels.map Named.enc)])]⟩) (ps := [Spec Try.prog 57 [.aggp [.int .i64 v1.Vertex.ID, .int .i64 v1.Vertex.Side, .sl (v1.Depots.map eInt), .sl (v1.Edges.map Edge.enc), .sl (v1.Labels.map Named.enc)]] [] (.pv (.mp false (y2.map mKey) (y2.map (mRow (eOpt eInt))))) [], intKeys .i64 (y2.map mKey), mfind (y2.map mKey) (y2.map (mRow (eOpt eInt))) (.int .i64 v1.Vertex.ID) = some [.sl (a9.map eInt)], rowAV false [.sl (a9.map eInt)] = some (.pv (.sl (a9.map eInt))), Spec Try.prog 58 [.aggp [.int .i64 v1.Vertex.ID, .int .i64 v1.Vertex.Side, .sl (v1.Depots.map eInt), .sl (v1.Edges.map Edge.enc), .sl (v1.Labels.map Named.enc)]] [] (.pv (.bool y14)) [], (!y14) = false, (!y14) = false, (a9.map eInt) ≠ [], (!y14) = false, 0 ≤ (0 : Int), (a9.map eInt)[(0 : Int).toNat]? = some (eInt a18), (eInt a18).length = 1, (decide (a18 < 0)) = false, (decide (a18 < 0)) = false, 0 ≤ (0 : Int), (a9.map eInt)[(0 : Int).toNat]? = some (eInt a22), (eInt a22).length = 1, (decide (a18 < 0)) = false, (decide (a18 < 0)) = false, (decide (a18 < 0)) = false, (decide (a18 < 0)) = false, (decide (a22 > v1.Vertex.ID)) = false, (decide (a22 > v1.Vertex.ID)) = false, 0 ≤ (1 : Int), (a9.map eInt)[(1 : Int).toNat]? = some (eInt a26), (eInt a26).length = 1, (decide (a22 > v1.Vertex.ID)) = false, (decide (a22 > v1.Vertex.ID)) = false, (decide (a22 > v1.Vertex.ID)) = false, (decide (a26 < 0)) = false, (decide (a26 < 0)) = false, 0 ≤ (1 : Int), (a9.map eInt)[(1 : Int).toNat]? = some (eInt a30), (eInt a30).length = 1, (decide (a26 < 0)) = false, (decide (a26 < 0)) = false, (decide (a26 < 0)) = false, (decide (a26 < 0)) = false, 0 ≤ (0 : Int), (a9.map eInt)[(0 : Int).toNat]? = some (eInt a33), (eInt a33).length = 1, (decide (a26 < 0)) = false, (decide (a26 < 0)) = false, (decide (a26 < 0)) = false, (decide (a26 < 0)) = false, (decide (a26 < 0)) = false])
                (by kernel_rfl) ⟨forest_seen.ok v1 e3, ikOb, mfindOb_s h5 h10, rfl, forest_around.ok v1 e15, h16, h16, neOb h17, h16, h19, rowOb h20, rfl, h21, h21, h23, rowOb h24, rfl, h21, h21, h21, h21, h25, h25, h27, rowOb h28, rfl, h25, h25, h25, h29, h29, h31, rowOb h32, rfl, h29, h29, h29, h29, h34, rowOb h35, rfl, h29, h29, h29, h29, h29, trivial⟩ ?_
              refine br_ok hx (fun h36 hx => ?_) (fun h36 hx => ?_)
              · have hx := Option.some.inj hx
                subst hx
                refine WK.run (an := [.br true, .reg []]) (kt := [2]) (ko := []) (k' := [.code (sub b29 [1, 1, 1, 0, 1, 0, 1]), .code (sub b29 [1, 1, 1, 1])]) (σ' := ⟨121, [(2, .pv (.bool false))], []⟩) (ps := [(!((a30 == 0) == (a33 == v1.Vertex.ID))) = true])
                  (by kernel_rfl) ⟨h36, trivial⟩ ?_
                exact WK.ret (fn := Try.f29) Try.func29 (frz := []) (esc := []) (ps := []) (by kernel_rfl) trivial
              · refine bd_ok hx fun q78 e79 hx => ?_
                refine WK.run (an := [.br false, .reg [], .reg [(2, none, .val (.pv (.int .i64 ((v1.Edges.length : Nat) : Int))))]]) (kt := [3, 4, 5, 6, 57, 58, 59]) (ko := []) (k' := [.code (sub b29 [1, 1, 1, 1, 1, 0, 1, 0]), .inBlock 0, .code (sub b29 [1, 1, 1, 1, 1, 1])]) (σ' := forest_Good.l0.enc y2 v1.Vertex.ID a9 v1.Edges ((v1.Edges.length : Nat) : Int) ((-1), 0)) (ps := [(!((a30 == 0) == (a33 == v1.Vertex.ID))) = false, AV.pv (.int .i64 ((v1.Edges.map Edge.enc).length : Nat)) = .pv (.int .i64 (v1.Edges.length : Nat))])
                  (by kernel_rfl) ⟨h36, lenOb, trivial⟩ ?_
                refine WK.enterLoop (forest_Good.l0.ok y2 v1.Vertex.ID a9 v1.Edges ((v1.Edges.length : Nat) : Int) _ _ _ _ e79 ?_)
                rcases q78 with (q78 | q78)
                · have hx := Option.some.inj hx
                  subst hx
                  refine WK.run (an := []) (kt := [2]) (ko := []) (k' := [.code (sub b29 [1, 1, 1, 1, 1, 0, 1, 0, 0, 1, 1, 0, 0, 1, 1, 0, 1, 0, 1]), .code (sub b29 [1, 1, 1, 1, 1, 0, 1, 0, 0, 1, 1, 0, 0, 1, 1, 1]), .inBlock 1, .code (sub b29 [1, 1, 1, 1, 1, 0, 1, 0, 0, 1, 1, 1]), .inLoop (sub b29 [1, 1, 1, 1, 1, 0, 1, 0, 0]), .inBlock 0, .code (sub b29 [1, 1, 1, 1, 1, 1])]) (σ' := ⟨121, [(2, .pv (.bool false))], []⟩) (ps := [])
                    (by kernel_rfl) trivial ?_
                  exact WK.ret (fn := Try.f29) Try.func29 (frz := []) (esc := []) (ps := []) (by kernel_rfl) trivial
                · refine br_ok hx (fun h80 hx => ?_) (fun h80 hx => ?_)
                  · refine getR_ok hx fun a81 h82 h83 hx => ?_
                    have hx := Option.some.inj hx
                    subst hx
                    refine WK.run (an := [.br true, .reg [(1, none, .row (eInt a81))]]) (kt := [2]) (ko := []) (k' := [.code (sub b29 [1, 1, 1, 1, 1, 1, 0, 1, 0, 1]), .code (sub b29 [1, 1, 1, 1, 1, 1, 1])]) (σ' := ⟨121, [(2, .pv (.bool (a81 == (-1))))], []⟩) (ps := [q78.2 = true, 0 ≤ (2 : Int), (a9.map eInt)[(2 : Int).toNat]? = some (eInt a81), (eInt a81).length = 1])
                      (by kernel_rfl) ⟨h80, h82, rowOb h83, rfl, trivial⟩ ?_
                    exact WK.ret (fn := Try.f29) Try.func29 (frz := []) (esc := []) (ps := []) (by kernel_rfl) trivial
                  · refine br_ok hx (fun h84 hx => ?_) (fun h84 hx => ?_)
                    · refine getR_ok hx fun a85 h86 h87 hx => ?_
                      have hx := Option.some.inj hx
                      subst hx
                      refine WK.run (an := [.br false, .reg [(3, some true, .no), (4, none, .row (eInt a85))]]) (kt := [2]) (ko := []) (k' := [.code (sub b29 [1, 1, 1, 1, 1, 1, 1, 1])]) (σ' := ⟨121, [(2, .pv (.bool (a85 == q78.1)))], []⟩) (ps := [q78.2 = false, (decide (q78.1 ≥ 0)) = true, 0 ≤ (2 : Int), (a9.map eInt)[(2 : Int).toNat]? = some (eInt a85), (eInt a85).length = 1])
                        (by kernel_rfl) ⟨h80, h84, h86, rowOb h87, rfl, trivial⟩ ?_
                      exact WK.ret (fn := Try.f29) Try.func29 (frz := []) (esc := []) (ps := []) (by kernel_rfl) trivial
                    · have hx := Option.some.inj hx
                      subst hx
                      refine WK.run (an := [.br false, .reg [(3, some false, .no)]]) (kt := [2]) (ko := []) (k' := [.code (sub b29 [1, 1, 1, 1, 1, 1, 1, 1])]) (σ' := ⟨121, [(2, .pv (.bool false))], []⟩) (ps := [q78.2 = false, (decide (q78.1 ≥ 0)) = false])
                        (by kernel_rfl) ⟨h80, h84, trivial⟩ ?_
                      exact WK.ret (fn := Try.f29) Try.func29 (frz := []) (esc := []) (ps := []) (by kernel_rfl) trivial

noncomputable abbrev b31 : Code := body Try.f31
noncomputable def forest_Count (v1 : View) : Option Int :=
  bd (forest_seen v1) fun y2 =>
  oc (mapGet y2 v1.Vertex.ID) (
    some 0) fun a4 => (
    oc (a4) (
      some 0) fun a6 => (
      gd (a6.isEmpty = false) <|
      getR a6 1 fun a9 =>
      br (a9 == 0) (
        some 1) (
        some 0)))

theorem forest_Count.ok (v1 : View) {x : Int} (hx : forest_Count v1 = some x) :
    Spec Try.prog 31 [.aggp [.int .i64 v1.Vertex.ID, .int .i64 v1.Vertex.Side, .sl (v1.Depots.map eInt), .sl (v1.Edges.map Edge.enc), .sl (v1.Labels.map Named.enc)]] [] (.pv (.int .i64 x)) [] := by
  refine Spec.of (c := b31) Try.func31 rfl rfl rfl ?_
  unfold forest_Count at hx
  refine bd_ok hx fun y2 e3 hx => ?_
  refine oc_ok hx (fun h5 hx => ?_) (fun a4 h5 hx => ?_)
  · have hx := Option.some.inj hx
    subst hx
    refine WK.run (an := [.reg [(0, none, .nm 1003)], .draw [0, 1, 2, 3, 4, 5, 6] [(1, none, .call [] [] (.pv (.mp false (y2.map mKey) (y2.map (mRow (eOpt eInt))))) [] []), (5, none, .mget .undef none)], .reg [], .bk, .reg []]) (kt := [2]) (ko := []) (k' := [.code (sub b31 [1, 1, 1])]) (σ' := ⟨18, [(2, .pv (.int .i64 0))], []⟩) (ps := [Spec Try.prog 57 [.aggp [.int .i64 v1.Vertex.ID, .int .i64 v1.Vertex.Side, .sl (v1.Depots.map eInt), .sl (v1.Edges.map Edge.enc), .sl (v1.Labels.map Named.enc)]] [] (.pv (.mp false (y2.map mKey) (y2.map (mRow (eOpt eInt))))) [], intKeys .i64 (y2.map mKey), mfind (y2.map mKey) (y2.map (mRow (eOpt eInt))) (.int .i64 v1.Vertex.ID) = none])
      (by kernel_rfl) ⟨forest_seen.ok v1 e3, ikOb, mfindOb0 h5, trivial⟩ ?_
    exact WK.ret (fn := Try.f31) Try.func31 (frz := []) (esc := []) (ps := []) (by kernel_rfl) trivial
  · refine oc_ok hx (fun h7 hx => ?_) (fun a6 h7 hx => ?_)
    · have hx := Option.some.inj hx
      subst hx
      refine WK.run (an := [.reg [(0, none, .nm 1003)], .draw [0, 1, 2, 3, 4, 5, 6] [(1, none, .call [] [] (.pv (.mp false (y2.map mKey) (y2.map (mRow (eOpt eInt))))) [] []), (5, none, .mget (.pv .nilsl) (some [.nilsl]))], .reg [], .bk, .reg []]) (kt := [2]) (ko := []) (k' := [.code (sub b31 [1, 1, 1])]) (σ' := ⟨18, [(2, .pv (.int .i64 0))], []⟩) (ps := [Spec Try.prog 57 [.aggp [.int .i64 v1.Vertex.ID, .int .i64 v1.Vertex.Side, .sl (v1.Depots.map eInt), .sl (v1.Edges.map Edge.enc), .sl (v1.Labels.map Named.enc)]] [] (.pv (.mp false (y2.map mKey) (y2.map (mRow (eOpt eInt))))) [], intKeys .i64 (y2.map mKey), mfind (y2.map mKey) (y2.map (mRow (eOpt eInt))) (.int .i64 v1.Vertex.ID) = some [.nilsl], rowAV false [.nilsl] = some (.pv .nilsl)])
        (by kernel_rfl) ⟨forest_seen.ok v1 e3, ikOb, mfindOb_n h5 h7, rfl, trivial⟩ ?_
      exact WK.ret (fn := Try.f31) Try.func31 (frz := []) (esc := []) (ps := []) (by kernel_rfl) trivial
    · refine gd_ok hx fun h8 hx => ?_
      refine getR_ok hx fun a9 h10 h11 hx => ?_
      refine br_ok hx (fun h12 hx => ?_) (fun h12 hx => ?_)
      · have hx := Option.some.inj hx
        subst hx
        refine WK.run (an := [.reg [(0, none, .nm 1003)], .draw [0, 1, 2, 3, 4, 5, 6] [(1, none, .call [] [] (.pv (.mp false (y2.map mKey) (y2.map (mRow (eOpt eInt))))) [] []), (5, none, .mget (.pv (.sl (a6.map eInt))) (some [.sl (a6.map eInt)]))], .reg [(4, none, .row (eInt a9))], .br true, .reg []]) (kt := [2]) (ko := []) (k' := [.code (sub b31 [1, 0, 1, 1, 0, 1]), .code (sub b31 [1, 1])]) (σ' := ⟨18, [(2, .pv (.int .i64 1))], []⟩) (ps := [Spec Try.prog 57 [.aggp [.int .i64 v1.Vertex.ID, .int .i64 v1.Vertex.Side, .sl (v1.Depots.map eInt), .sl (v1.Edges.map Edge.enc), .sl (v1.Labels.map Named.enc)]] [] (.pv (.mp false (y2.map mKey) (y2.map (mRow (eOpt eInt))))) [], intKeys .i64 (y2.map mKey), mfind (y2.map mKey) (y2.map (mRow (eOpt eInt))) (.int .i64 v1.Vertex.ID) = some [.sl (a6.map eInt)], rowAV false [.sl (a6.map eInt)] = some (.pv (.sl (a6.map eInt))), (a6.map eInt) ≠ [], 0 ≤ (1 : Int), (a6.map eInt)[(1 : Int).toNat]? = some (eInt a9), (eInt a9).length = 1, (a9 == 0) = true])
          (by kernel_rfl) ⟨forest_seen.ok v1 e3, ikOb, mfindOb_s h5 h7, rfl, neOb h8, h10, rowOb h11, rfl, h12, trivial⟩ ?_
        exact WK.ret (fn := Try.f31) Try.func31 (frz := []) (esc := []) (ps := []) (by kernel_rfl) trivial
      · have hx := Option.some.inj hx
        subst hx
        refine WK.run (an := [.reg [(0, none, .nm 1003)], .draw [0, 1, 2, 3, 4, 5, 6] [(1, none, .call [] [] (.pv (.mp false (y2.map mKey) (y2.map (mRow (eOpt eInt))))) [] []), (5, none, .mget (.pv (.sl (a6.map eInt))) (some [.sl (a6.map eInt)]))], .reg [(4, none, .row (eInt a9))], .br false, .reg []]) (kt := [2]) (ko := []) (k' := [.code (sub b31 [1, 1, 1])]) (σ' := ⟨18, [(2, .pv (.int .i64 0))], []⟩) (ps := [Spec Try.prog 57 [.aggp [.int .i64 v1.Vertex.ID, .int .i64 v1.Vertex.Side, .sl (v1.Depots.map eInt), .sl (v1.Edges.map Edge.enc), .sl (v1.Labels.map Named.enc)]] [] (.pv (.mp false (y2.map mKey) (y2.map (mRow (eOpt eInt))))) [], intKeys .i64 (y2.map mKey), mfind (y2.map mKey) (y2.map (mRow (eOpt eInt))) (.int .i64 v1.Vertex.ID) = some [.sl (a6.map eInt)], rowAV false [.sl (a6.map eInt)] = some (.pv (.sl (a6.map eInt))), (a6.map eInt) ≠ [], 0 ≤ (1 : Int), (a6.map eInt)[(1 : Int).toNat]? = some (eInt a9), (eInt a9).length = 1, (a9 == 0) = false])
          (by kernel_rfl) ⟨forest_seen.ok v1 e3, ikOb, mfindOb_s h5 h7, rfl, neOb h8, h10, rowOb h11, rfl, h12, trivial⟩ ?_
        exact WK.ret (fn := Try.f31) Try.func31 (frz := []) (esc := []) (ps := []) (by kernel_rfl) trivial

end Go.Fw.Gen
