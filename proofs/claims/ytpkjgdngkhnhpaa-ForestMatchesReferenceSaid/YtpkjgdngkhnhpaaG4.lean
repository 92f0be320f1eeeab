/- Plain functions, and the proofs that the program computes them; printed by a program of our own. -/
import Derived.Test.YtpkjgdngkhnhpaaG3
set_option linter.unusedVariables false
namespace Go.Fw.Gen
open Go.Proofs Go.Fw
noncomputable abbrev b20 : Code := body Try.f20
noncomputable def r7Side.l0 (c8 : List Bool) (c9 : List Vertex) (c10 : List Edge) (c11 : List Int) (s : Int × (List Int)) : Option (Nx (Int × (List Int)) (List Int)) :=
 br (decide (s.1 < ((c8.length : Nat) : Int))) (
  getR c8 s.1 fun a13 =>
  br a13 (
   getR c9 s.1 fun a17 =>
   gd ((s.2 ++ [a17.ID]).length ≤ bigLen) <|
   some (.cont ((IntKind.i64.wrap (s.1 + 1)), (s.2 ++ [a17.ID])))) (
   some (.cont ((IntKind.i64.wrap (s.1 + 1)), s.2)))) (
  some (.done s.2))
abbrev r7Side.l0.enc (c8 : List Bool) (c9 : List Vertex) (c10 : List Edge) (c11 : List Int) (s : Int × (List Int)) : St := ⟨37, [(2, .ref 101 0 0 0), (6, .pv (.sl (c8.map eBool))), (7, .hd 103 0 ((s.2.map eInt).length) 1), (8, .pv (.int .i64 s.1))], [(101, .varp [.sl (c9.map Vertex.enc), .sl (c10.map Edge.enc), .sl (c11.map eInt)]), (103, .sl false 1 (s.2.map eInt))]⟩
abbrev r7Side.l0.post (c8 : List Bool) (c9 : List Vertex) (c10 : List Edge) (c11 : List Int) (r : AV) (outs : List AObj) (q : (List Int)) : Prop := WK Try.prog (20, 0) [.code (sub b20 [1, 1, 1, 1, 1, 0]), .code (sub b20 [1, 1, 1, 1, 1, 1])] ⟨37, [(7, .hd 101 0 ((q.map eInt).length) 1)], [(101, .sl false 1 (q.map eInt))]⟩ r outs
theorem r7Side.l0.ok (c8 : List Bool) (c9 : List Vertex) (c10 : List Edge) (c11 : List Int) (r : AV) (outs : List AObj) (s : Int × (List Int)) (q : (List Int)) (h : loopN fuel (r7Side.l0 c8 c9 c10 c11) s = some q) (hd : r7Side.l0.post c8 c9 c10 c11 r outs q) :
  WK Try.prog (20, 0) [.inLoop (sub b20 [1, 1, 1, 1, 0, 1, 0, 0]), .inBlock 0, .code (sub b20 [1, 1, 1, 1, 1])] (r7Side.l0.enc c8 c9 c10 c11 s) r outs := by
 refine WK.loop (r7Side.l0.enc c8 c9 c10 c11) (r7Side.l0 c8 c9 c10 c11) (r7Side.l0.post c8 c9 c10 c11 r outs) ?_ fuel s q h hd
 intro s x hx hn
 unfold r7Side.l0 at hx
 refine br_ok hx (fun h12 hx => ?_) (fun h12 hx => ?_)
 ·refine getR_ok hx fun a13 h14 h15 hx => ?_
  refine br_ok hx (fun h16 hx => ?_) (fun h16 hx => ?_)
  ·refine getR_ok hx fun a17 h18 h19 hx => ?_
   refine gd_ok hx fun h20 hx => ?_
   obtain rfl := sI hx
   exact WK.run (an := [.lp, .reg [(2, none, .val (.pv (.int .i64 ((c8.length : Nat) : Int))))], .br true, .reg [(2, none, .row (eBool a13))], .br true, .reg [(4, none, .row (Vertex.enc a17)), (7, none, .nm 1011), (8, none, .app 1013 ((s.2 ++ [a17.ID]).map eInt))], .reg []]) (kt := [2, 6, 7, 8]) (ko := [(101, 101), (1013, 103)]) (ps := [AV.pv (.int .i64 ((c8.map eBool).length : Nat)) = .pv (.int .i64 (c8.length : Nat)), (decide (s.1 < ((c8.length : Nat) : Int))) = true, 0 ≤ (s.1 : Int), (c8.map eBool)[(s.1 : Int).toNat]? = some (eBool a13), (eBool a13).length = 1, a13 = true, 0 ≤ (s.1 : Int), (c9.map Vertex.enc)[(s.1 : Int).toNat]? = some (Vertex.enc a17), (Vertex.enc a17).length = 2, 1 = 1, 1 = 1, 0 + 1 ≤ ([a17.ID].map eInt).length, 0 + ((s.2.map eInt).length) = (s.2.map eInt).length, (s.2.map eInt).drop 0 ++ (cut1 ([a17.ID].map eInt) 0 1) = ((s.2 ++ [a17.ID]).map eInt), ((s.2 ++ [a17.ID]).map eInt).length ≤ bigLen, ∀ r ∈ (cut1 ([a17.ID].map eInt) 0 1), r.length = 1]) (by kernel_rfl) ⟨lenOb, h12, h14, rowOb h15, rfl, h16, h18, rowOb h19, rfl, rfl, rfl, Nat.le_of_eq (Nat.zero_add _), Nat.zero_add _, by simp [cut1, List.take_of_length_le], bigOb h20, one_len rfl, trivial⟩ hn
  ·obtain rfl := sI hx
   exact WK.run (an := [.lp, .reg [(2, none, .val (.pv (.int .i64 ((c8.length : Nat) : Int))))], .br true, .reg [(2, none, .row (eBool a13))], .br false, .reg []]) (kt := [2, 6, 7, 8]) (ko := [(101, 101), (103, 103)]) (ps := [AV.pv (.int .i64 ((c8.map eBool).length : Nat)) = .pv (.int .i64 (c8.length : Nat)), (decide (s.1 < ((c8.length : Nat) : Int))) = true, 0 ≤ (s.1 : Int), (c8.map eBool)[(s.1 : Int).toNat]? = some (eBool a13), (eBool a13).length = 1, a13 = false]) (by kernel_rfl) ⟨lenOb, h12, h14, rowOb h15, rfl, h16, trivial⟩ hn
 ·obtain rfl := sI hx
  exact WK.run (an := [.lp, .reg [(2, none, .val (.pv (.int .i64 ((c8.length : Nat) : Int))))], .br false]) (kt := [7]) (ko := [(103, 101)]) (ps := [AV.pv (.int .i64 ((c8.map eBool).length : Nat)) = .pv (.int .i64 (c8.length : Nat)), (decide (s.1 < ((c8.length : Nat) : Int))) = false]) (by kernel_rfl) ⟨lenOb, h12, trivial⟩ hn
noncomputable def r7Side (v1 : Graph) (v2 : Int) : Option ((List Int) × Int) :=
 bd (r7ends v1 v2 v2) fun y3 =>
 br (!y3) (
  some ([], 70)) (
  bd (r7part v1 v2) fun y6 =>
  bd (loopN fuel (r7Side.l0 y6 v1.Vertices v1.Edges v1.Depots) (0, [])) fun q21 =>
  some (q21, 0))
theorem r7Side.ok (v1 : Graph) (v2 : Int) {x : (List Int) × Int} (hx : r7Side v1 v2 = some x) :
  Spec Try.prog 20 [.aggp [.sl (v1.Vertices.map Vertex.enc), .sl (v1.Edges.map Edge.enc), .sl (v1.Depots.map eInt)], .pv (.int .i64 v2)] [] (.tup [.pv (.sl (x.1.map eInt)), .pv (.int .i64 x.2)]) [] := by
 refine Spec.of (c := b20) Try.func20 rfl rfl rfl ?_
 unfold r7Side at hx
 refine bd_ok hx fun y3 e4 hx => ?_
 refine br_ok hx (fun h5 hx => ?_) (fun h5 hx => ?_)
 ·obtain rfl := sI hx
  exact WK.fin (fn := Try.f20) Try.func20 (an := [.reg [(0, none, .nm 1003), (1, none, .val (.pv (.sl ([].map eInt))))], .reg [(3, none, .call [] [] (.pv (.bool y3)) [] [])], .br true, .reg [(0, none, .val (.pv (.sl ([].map eInt))))]]) (kt := [4, 5]) (ko := []) (frz := []) (ps := [Spec Try.prog 46 [.aggp [.sl (v1.Vertices.map Vertex.enc), .sl (v1.Edges.map Edge.enc), .sl (v1.Depots.map eInt)], .pv (.int .i64 v2), .pv (.int .i64 v2)] [] (.pv (.bool y3)) [], (!y3) = true]) (qs := []) (by kernel_rfl) ⟨r7ends.ok v1 v2 v2 e4, h5, trivial⟩ trivial
 ·refine bd_ok hx fun y6 e7 hx => ?_
  refine bd_ok hx fun q21 e22 hx => ?_
  refine WK.run (an := [.reg [(0, none, .nm 1003), (1, none, .val (.pv (.sl ([].map eInt))))], .reg [(3, none, .call [] [] (.pv (.bool y3)) [] [])], .br false, .reg [(2, none, .call [] [] (.pv (.sl (y6.map eBool))) [] [])], .new 1005 1, .reg [(0, none, .val (.hd 1005 0 0 1))], .reg []]) (kt := [2, 6, 7, 8]) (ko := [(1003, 101), (1005, 103)]) (ps := [Spec Try.prog 46 [.aggp [.sl (v1.Vertices.map Vertex.enc), .sl (v1.Edges.map Edge.enc), .sl (v1.Depots.map eInt)], .pv (.int .i64 v2), .pv (.int .i64 v2)] [] (.pv (.bool y3)) [], (!y3) = false, Spec Try.prog 42 [.aggp [.sl (v1.Vertices.map Vertex.enc), .sl (v1.Edges.map Edge.enc), .sl (v1.Depots.map eInt)], .pv (.int .i64 v2)] [] (.pv (.sl (y6.map eBool))) []]) (by kernel_rfl) ⟨r7ends.ok v1 v2 v2 e4, h5, r7part.ok v1 v2 e7, trivial⟩ (WK.enterLoop (r7Side.l0.ok y6 v1.Vertices v1.Edges v1.Depots _ _ _ _ e22 ?_))
  obtain rfl := sI hx
  exact WK.fin (fn := Try.f20) Try.func20 (an := [.reg []]) (kt := [4, 5]) (ko := [(101, 101)]) (frz := [101]) (ps := []) (qs := [(q21.map eInt).length = (q21.map eInt).length]) (by kernel_rfl) trivial ⟨rfl, trivial⟩
noncomputable abbrev b23 : Code := body Try.f23
noncomputable def r7CheckPath.l0 (c11 : Int) (c12 : List Int) (c13 : List Vertex) (c14 : List Edge) (c15 : List Int) (s : Int × Int) : Option (Nx (Int × Int) (Unit ⊕ Int)) :=
 br (decide (s.2 < ((c12.length : Nat) : Int))) (
  getR c12 s.2 fun a17 =>
  bd (r3Find (Graph.mk c13 c14 c15) a17) fun y20 =>
  br (decide (y20 < 0)) (
   some (.done (.inl ()))) (
   getR c14 y20 fun a25 =>
   bd (r3Other a25 s.1) fun y28 =>
   br (decide (y28 < 0)) (
    some (.done (.inl ()))) (
    getR c14 y20 fun a34 =>
    bd (r3Other a34 s.1) fun y37 =>
    some (.cont (y37, (IntKind.i64.wrap (s.2 + 1))))))) (
  some (.done (.inr s.1)))
abbrev r7CheckPath.l0.enc (c11 : Int) (c12 : List Int) (c13 : List Vertex) (c14 : List Edge) (c15 : List Int) (s : Int × Int) : St := ⟨57, [(2, .pv (.int .i64 c11)), (3, .pv (.sl (c12.map eInt))), (4, .ref 101 0 0 0), (9, .pv (.int .i64 s.1)), (10, .pv (.int .i64 s.2))], [(101, .varp [.sl (c13.map Vertex.enc), .sl (c14.map Edge.enc), .sl (c15.map eInt)])]⟩
abbrev r7CheckPath.l0.post (c11 : Int) (c12 : List Int) (c13 : List Vertex) (c14 : List Edge) (c15 : List Int) (r : AV) (outs : List AObj) (q : Unit ⊕ Int) : Prop := match q with | .inl q => WK Try.prog (23, 0) [.code (sub b23 [1, 1, 1, 0, 1, 0, 0, 1, 0, 0, 1, 0, 1, 0, 1]), .code (sub b23 [1, 1, 1, 0, 1, 0, 0, 1, 0, 0, 1, 1]), .inBlock 1, .code (sub b23 [1, 1, 1, 0, 1, 0, 0, 1, 1]), .inLoop (sub b23 [1, 1, 1, 0, 1, 0, 0]), .inBlock 0, .code (sub b23 [1, 1, 1, 1])] ⟨57, [(8, .pv (.bool false))], []⟩ r outs | .inr q => WK Try.prog (23, 0) [.code (sub b23 [1, 1, 1, 1, 0]), .code (sub b23 [1, 1, 1, 1, 1])] ⟨57, [(2, .pv (.int .i64 c11)), (9, .pv (.int .i64 q))], []⟩ r outs
theorem r7CheckPath.l0.ok (c11 : Int) (c12 : List Int) (c13 : List Vertex) (c14 : List Edge) (c15 : List Int) (r : AV) (outs : List AObj) (s : Int × Int) (q : Unit ⊕ Int) (h : loopN fuel (r7CheckPath.l0 c11 c12 c13 c14 c15) s = some q) (hd : r7CheckPath.l0.post c11 c12 c13 c14 c15 r outs q) :
  WK Try.prog (23, 0) [.inLoop (sub b23 [1, 1, 1, 0, 1, 0, 0]), .inBlock 0, .code (sub b23 [1, 1, 1, 1])] (r7CheckPath.l0.enc c11 c12 c13 c14 c15 s) r outs := by
 refine WK.loop (r7CheckPath.l0.enc c11 c12 c13 c14 c15) (r7CheckPath.l0 c11 c12 c13 c14 c15) (r7CheckPath.l0.post c11 c12 c13 c14 c15 r outs) ?_ fuel s q h hd
 intro s x hx hn
 unfold r7CheckPath.l0 at hx
 refine br_ok hx (fun h16 hx => ?_) (fun h16 hx => ?_)
 ·refine getR_ok hx fun a17 h18 h19 hx => ?_
  refine bd_ok hx fun y20 e21 hx => ?_
  let Q22 : List Prop := [AV.pv (.int .i64 ((c12.map eInt).length : Nat)) = .pv (.int .i64 (c12.length : Nat)), (decide (s.2 < ((c12.length : Nat) : Int))) = true, 0 ≤ (s.2 : Int), (c12.map eInt)[(s.2 : Int).toNat]? = some (eInt a17), (eInt a17).length = 1, Spec Try.prog 50 [.aggp [.sl (c13.map Vertex.enc), .sl (c14.map Edge.enc), .sl (c15.map eInt)], .pv (.int .i64 a17)] [] (.pv (.int .i64 y20)) []]
  have k23 : All Q22 := ⟨lenOb, h16, h18, rowOb h19, rfl, r3Find.ok (Graph.mk c13 c14 c15) a17 e21, trivial⟩
  refine br_ok hx (fun h24 hx => ?_) (fun h24 hx => ?_)
  ·obtain rfl := sI hx
   exact WK.run (an := [.lp, .reg [(2, none, .val (.pv (.int .i64 ((c12.length : Nat) : Int))))], .br true, .draw [0, 1, 2, 3, 4, 5, 6] [(3, none, .row (eInt a17)), (5, none, .call [] [] (.pv (.int .i64 y20)) [] [])], .reg [(3, some true, .no)], .bk, .reg []]) (kt := [8]) (ko := []) (ps := (Q22 ++ [(decide (y20 < 0)) = true])) (by kernel_rfl) (All_append.2 ⟨k23, ⟨h24, trivial⟩⟩) hn
  ·refine getR_ok hx fun a25 h26 h27 hx => ?_
   refine bd_ok hx fun y28 e29 hx => ?_
   let A30 : List An := [.lp, .reg [(2, none, .val (.pv (.int .i64 ((c12.length : Nat) : Int))))], .br true, .draw [0, 1, 2, 3, 4, 5, 6] [(3, none, .row (eInt a17)), (5, none, .call [] [] (.pv (.int .i64 y20)) [] [])], .reg [(3, some false, .no), (6, none, .row (Edge.enc a25)), (9, none, .call [] [] (.pv (.int .i64 y28)) [] [])]]
   let Q31 : List Prop := (Q22 ++ [(decide (y20 < 0)) = false, 0 ≤ (y20 : Int), (c14.map Edge.enc)[(y20 : Int).toNat]? = some (Edge.enc a25), (Edge.enc a25).length = 6, Spec Try.prog 44 [.aggp [.int .i64 a25.ID, .int .i64 a25.From, .int .i64 a25.To, .bool a25.Directed, .int .i64 a25.Weight, .int .i64 a25.Cap], .pv (.int .i64 s.1)] [] (.pv (.int .i64 y28)) []])
   have k32 : All Q31 := (All_append.2 ⟨k23, ⟨h24, h26, rowOb h27, rfl, r3Other.ok a25 s.1 e29, trivial⟩⟩)
   refine br_ok hx (fun h33 hx => ?_) (fun h33 hx => ?_)
   ·obtain rfl := sI hx
    exact WK.run (an := (A30 ++ [.br true, .reg []])) (kt := [8]) (ko := []) (ps := (Q31 ++ [(decide (y28 < 0)) = true])) (by kernel_rfl) (All_append.2 ⟨k32, ⟨h33, trivial⟩⟩) hn
   ·refine getR_ok hx fun a34 h35 h36 hx => ?_
    refine bd_ok hx fun y37 e38 hx => ?_
    obtain rfl := sI hx
    exact WK.run (an := (A30 ++ [.br false, .reg [(3, none, .row (Edge.enc a34)), (6, none, .call [] [] (.pv (.int .i64 y37)) [] [])], .reg []])) (kt := [2, 3, 4, 9, 10]) (ko := [(101, 101)]) (ps := (Q31 ++ [(decide (y28 < 0)) = false, 0 ≤ (y20 : Int), (c14.map Edge.enc)[(y20 : Int).toNat]? = some (Edge.enc a34), (Edge.enc a34).length = 6, Spec Try.prog 44 [.aggp [.int .i64 a34.ID, .int .i64 a34.From, .int .i64 a34.To, .bool a34.Directed, .int .i64 a34.Weight, .int .i64 a34.Cap], .pv (.int .i64 s.1)] [] (.pv (.int .i64 y37)) []])) (by kernel_rfl) (All_append.2 ⟨k32, ⟨h33, h35, rowOb h36, rfl, r3Other.ok a34 s.1 e38, trivial⟩⟩) hn
 ·obtain rfl := sI hx
  exact WK.run (an := [.lp, .reg [(2, none, .val (.pv (.int .i64 ((c12.length : Nat) : Int))))], .br false]) (kt := [2, 9]) (ko := []) (ps := [AV.pv (.int .i64 ((c12.map eInt).length : Nat)) = .pv (.int .i64 (c12.length : Nat)), (decide (s.2 < ((c12.length : Nat) : Int))) = false]) (by kernel_rfl) ⟨lenOb, h16, trivial⟩ hn
noncomputable def r7CheckPath (v1 : Graph) (v2 : Int) (v3 : Int) (v4 : List Int) : Option Bool :=
 bd (r7ends v1 v2 v3) fun y5 =>
 br (!y5) (
  some false) (
  br (decide (((v4.length : Nat) : Int) > 40)) (
   some false) (
   bd (loopN fuel (r7CheckPath.l0 v3 v4 v1.Vertices v1.Edges v1.Depots) (v2, 0)) fun q39 =>
   match q39 with
   | .inl q39 =>
    some false
   | .inr q39 =>
    some (q39 == v3)))
theorem r7CheckPath.ok (v1 : Graph) (v2 : Int) (v3 : Int) (v4 : List Int) {x : Bool} (hx : r7CheckPath v1 v2 v3 v4 = some x) :
  Spec Try.prog 23 [.aggp [.sl (v1.Vertices.map Vertex.enc), .sl (v1.Edges.map Edge.enc), .sl (v1.Depots.map eInt)], .pv (.int .i64 v2), .pv (.int .i64 v3), .pv (.sl (v4.map eInt))] [] (.pv (.bool x)) [] := by
 refine Spec.of (c := b23) Try.func23 rfl rfl rfl ?_
 unfold r7CheckPath at hx
 refine bd_ok hx fun y5 e6 hx => ?_
 refine br_ok hx (fun h7 hx => ?_) (fun h7 hx => ?_)
 ·obtain rfl := sI hx
  exact WK.fin (fn := Try.f23) Try.func23 (an := [.reg [(0, none, .nm 1003)], .reg [(3, none, .call [] [] (.pv (.bool y5)) [] []), (6, some true, .no)], .bk, .reg []]) (kt := [8]) (ko := []) (frz := []) (ps := [Spec Try.prog 46 [.aggp [.sl (v1.Vertices.map Vertex.enc), .sl (v1.Edges.map Edge.enc), .sl (v1.Depots.map eInt)], .pv (.int .i64 v2), .pv (.int .i64 v3)] [] (.pv (.bool y5)) [], (!y5) = true]) (qs := []) (by kernel_rfl) ⟨r7ends.ok v1 v2 v3 e6, h7, trivial⟩ trivial
 ·let Q8 : List Prop := [Spec Try.prog 46 [.aggp [.sl (v1.Vertices.map Vertex.enc), .sl (v1.Edges.map Edge.enc), .sl (v1.Depots.map eInt)], .pv (.int .i64 v2), .pv (.int .i64 v3)] [] (.pv (.bool y5)) [], (!y5) = false, AV.pv (.int .i64 ((v4.map eInt).length : Nat)) = .pv (.int .i64 (v4.length : Nat))]
  have k9 : All Q8 := ⟨r7ends.ok v1 v2 v3 e6, h7, lenOb, trivial⟩
  refine br_ok hx (fun h10 hx => ?_) (fun h10 hx => ?_)
  ·obtain rfl := sI hx
   exact WK.fin (fn := Try.f23) Try.func23 (an := [.reg [(0, none, .nm 1003)], .reg [(3, none, .call [] [] (.pv (.bool y5)) [] []), (6, some false, .no), (7, none, .val (.pv (.int .i64 ((v4.length : Nat) : Int))))], .br true, .reg []]) (kt := [8]) (ko := []) (frz := []) (ps := (Q8 ++ [(decide (((v4.length : Nat) : Int) > 40)) = true])) (qs := []) (by kernel_rfl) (All_append.2 ⟨k9, ⟨h10, trivial⟩⟩) trivial
  ·refine bd_ok hx fun q39 e40 hx => ?_
   refine WK.run (an := [.reg [(0, none, .nm 1003)], .reg [(3, none, .call [] [] (.pv (.bool y5)) [] []), (6, some false, .no), (7, none, .val (.pv (.int .i64 ((v4.length : Nat) : Int))))], .br false, .reg [], .reg []]) (kt := [2, 3, 4, 9, 10]) (ko := [(1003, 101)]) (ps := (Q8 ++ [(decide (((v4.length : Nat) : Int) > 40)) = false])) (by kernel_rfl) (All_append.2 ⟨k9, ⟨h10, trivial⟩⟩) (WK.enterLoop (r7CheckPath.l0.ok v3 v4 v1.Vertices v1.Edges v1.Depots _ _ _ _ e40 ?_))
   rcases q39 with (q39 | q39)
   ·obtain rfl := sI hx
    exact WK.fin (fn := Try.f23) Try.func23 (an := []) (kt := [8]) (ko := []) (frz := []) (ps := []) (qs := []) (by kernel_rfl) trivial trivial
   ·obtain rfl := sI hx
    exact WK.fin (fn := Try.f23) Try.func23 (an := [.reg []]) (kt := [8]) (ko := []) (frz := []) (ps := []) (qs := []) (by kernel_rfl) trivial trivial
noncomputable abbrev b54 : Code := body Try.f54
noncomputable def r7has.l0 (c3 : List Int) (c4 : Int) (s : Int) : Option (Nx Int (Unit ⊕ Unit)) :=
 br (decide (s < ((c3.length : Nat) : Int))) (
  getR c3 s fun a6 =>
  br (a6 == c4) (
   some (.done (.inl ()))) (
   some (.cont (IntKind.i64.wrap (s + 1))))) (
  some (.done (.inr ())))
abbrev r7has.l0.enc (c3 : List Int) (c4 : Int) (s : Int) : St := ⟨18, [(0, .pv (.sl (c3.map eInt))), (1, .pv (.int .i64 c4)), (5, .pv (.int .i64 s))], []⟩
abbrev r7has.l0.post (c3 : List Int) (c4 : Int) (r : AV) (outs : List AObj) (q : Unit ⊕ Unit) : Prop := match q with | .inl q => WK Try.prog (54, 0) [.code (sub b54 [1, 0, 1, 0, 0, 1, 0, 0, 1, 0, 1]), .inBlock 1, .code (sub b54 [1, 0, 1, 0, 0, 1, 1]), .inLoop (sub b54 [1, 0, 1, 0, 0]), .inBlock 0, .code (sub b54 [1, 1])] ⟨18, [(4, .pv (.bool true))], []⟩ r outs | .inr q => WK Try.prog (54, 0) [.code (sub b54 [1, 1, 0]), .code (sub b54 [1, 1, 1])] ⟨18, [], []⟩ r outs
theorem r7has.l0.ok (c3 : List Int) (c4 : Int) (r : AV) (outs : List AObj) (s : Int) (q : Unit ⊕ Unit) (h : loopN fuel (r7has.l0 c3 c4) s = some q) (hd : r7has.l0.post c3 c4 r outs q) :
  WK Try.prog (54, 0) [.inLoop (sub b54 [1, 0, 1, 0, 0]), .inBlock 0, .code (sub b54 [1, 1])] (r7has.l0.enc c3 c4 s) r outs := by
 refine WK.loop (r7has.l0.enc c3 c4) (r7has.l0 c3 c4) (r7has.l0.post c3 c4 r outs) ?_ fuel s q h hd
 intro s x hx hn
 unfold r7has.l0 at hx
 refine br_ok hx (fun h5 hx => ?_) (fun h5 hx => ?_)
 ·refine getR_ok hx fun a6 h7 h8 hx => ?_
  refine br_ok hx (fun h9 hx => ?_) (fun h9 hx => ?_)
  ·obtain rfl := sI hx
   exact WK.run (an := [.lp, .reg [(2, none, .val (.pv (.int .i64 ((c3.length : Nat) : Int))))], .br true, .reg [(2, none, .row (eInt a6))], .br true, .reg []]) (kt := [4]) (ko := []) (ps := [AV.pv (.int .i64 ((c3.map eInt).length : Nat)) = .pv (.int .i64 (c3.length : Nat)), (decide (s < ((c3.length : Nat) : Int))) = true, 0 ≤ (s : Int), (c3.map eInt)[(s : Int).toNat]? = some (eInt a6), (eInt a6).length = 1, (a6 == c4) = true]) (by kernel_rfl) ⟨lenOb, h5, h7, rowOb h8, rfl, h9, trivial⟩ hn
  ·obtain rfl := sI hx
   exact WK.run (an := [.lp, .reg [(2, none, .val (.pv (.int .i64 ((c3.length : Nat) : Int))))], .br true, .reg [(2, none, .row (eInt a6))], .br false, .reg []]) (kt := [0, 1, 5]) (ko := []) (ps := [AV.pv (.int .i64 ((c3.map eInt).length : Nat)) = .pv (.int .i64 (c3.length : Nat)), (decide (s < ((c3.length : Nat) : Int))) = true, 0 ≤ (s : Int), (c3.map eInt)[(s : Int).toNat]? = some (eInt a6), (eInt a6).length = 1, (a6 == c4) = false]) (by kernel_rfl) ⟨lenOb, h5, h7, rowOb h8, rfl, h9, trivial⟩ hn
 ·obtain rfl := sI hx
  exact WK.run (an := [.lp, .reg [(2, none, .val (.pv (.int .i64 ((c3.length : Nat) : Int))))], .br false]) (kt := []) (ko := []) (ps := [AV.pv (.int .i64 ((c3.map eInt).length : Nat)) = .pv (.int .i64 (c3.length : Nat)), (decide (s < ((c3.length : Nat) : Int))) = false]) (by kernel_rfl) ⟨lenOb, h5, trivial⟩ hn
noncomputable def r7has (v1 : List Int) (v2 : Int) : Option Bool :=
 bd (loopN fuel (r7has.l0 v1 v2) 0) fun q10 =>
 match q10 with
 | .inl q10 =>
  some true
 | .inr q10 =>
  some false
theorem r7has.ok (v1 : List Int) (v2 : Int) {x : Bool} (hx : r7has v1 v2 = some x) :
  Spec Try.prog 54 [.pv (.sl (v1.map eInt)), .pv (.int .i64 v2)] [] (.pv (.bool x)) [] := by
 refine Spec.of (c := b54) Try.func54 rfl rfl rfl ?_
 unfold r7has at hx
 refine bd_ok hx fun q10 e11 hx => ?_
 refine WK.run (an := [.reg [], .reg []]) (kt := [0, 1, 5]) (ko := []) (ps := []) (by kernel_rfl) trivial (WK.enterLoop (r7has.l0.ok v1 v2 _ _ _ _ e11 ?_))
 rcases q10 with (q10 | q10)
 ·obtain rfl := sI hx
  exact WK.fin (fn := Try.f54) Try.func54 (an := []) (kt := [4]) (ko := []) (frz := []) (ps := []) (qs := []) (by kernel_rfl) trivial trivial
 ·obtain rfl := sI hx
  exact WK.fin (fn := Try.f54) Try.func54 (an := [.reg []]) (kt := [4]) (ko := []) (frz := []) (ps := []) (qs := []) (by kernel_rfl) trivial trivial
noncomputable abbrev b25 : Code := body Try.f25
noncomputable def r7CheckSide.l0 (c37 : List Int) (c38 : List Vertex) (c39 : List Edge) (c40 : List Int) (s : Int) : Option (Nx Int (Unit ⊕ Unit)) :=
 br (decide (s < ((c39.length : Nat) : Int))) (
  getR c39 s fun a42 =>
  bd (r7has c37 a42.From) fun y45 =>
  getR c39 s fun a47 =>
  bd (r7has c37 a47.To) fun y50 =>
  br (!(y45 == y50)) (
   some (.done (.inl ()))) (
   some (.cont (IntKind.i64.wrap (s + 1))))) (
  some (.done (.inr ())))
abbrev r7CheckSide.l0.enc (c37 : List Int) (c38 : List Vertex) (c39 : List Edge) (c40 : List Int) (s : Int) : St := ⟨80, [(3, .pv (.sl (c37.map eInt))), (4, .ref 101 0 0 0), (10, .pv (.int .i64 s))], [(101, .varp [.sl (c38.map Vertex.enc), .sl (c39.map Edge.enc), .sl (c40.map eInt)])]⟩
abbrev r7CheckSide.l0.post (c37 : List Int) (c38 : List Vertex) (c39 : List Edge) (c40 : List Int) (r : AV) (outs : List AObj) (q : Unit ⊕ Unit) : Prop := match q with | .inl q => WK Try.prog (25, 0) [.code (sub b25 [1, 1, 1, 0, 1, 0, 0, 1, 0, 0, 1, 0, 1]), .inBlock 3, .code (sub b25 [1, 1, 1, 0, 1, 0, 0, 1, 1]), .inLoop (sub b25 [1, 1, 1, 0, 1, 0, 0]), .inBlock 2, .code (sub b25 [1, 1, 1, 1])] ⟨80, [(8, .pv (.bool false))], []⟩ r outs | .inr q => WK Try.prog (25, 0) [.code (sub b25 [1, 1, 1, 1, 0]), .code (sub b25 [1, 1, 1, 1, 1])] ⟨80, [], []⟩ r outs
theorem r7CheckSide.l0.ok (c37 : List Int) (c38 : List Vertex) (c39 : List Edge) (c40 : List Int) (r : AV) (outs : List AObj) (s : Int) (q : Unit ⊕ Unit) (h : loopN fuel (r7CheckSide.l0 c37 c38 c39 c40) s = some q) (hd : r7CheckSide.l0.post c37 c38 c39 c40 r outs q) :
  WK Try.prog (25, 0) [.inLoop (sub b25 [1, 1, 1, 0, 1, 0, 0]), .inBlock 2, .code (sub b25 [1, 1, 1, 1])] (r7CheckSide.l0.enc c37 c38 c39 c40 s) r outs := by
 refine WK.loop (r7CheckSide.l0.enc c37 c38 c39 c40) (r7CheckSide.l0 c37 c38 c39 c40) (r7CheckSide.l0.post c37 c38 c39 c40 r outs) ?_ fuel s q h hd
 intro s x hx hn
 unfold r7CheckSide.l0 at hx
 refine br_ok hx (fun h41 hx => ?_) (fun h41 hx => ?_)
 ·refine getR_ok hx fun a42 h43 h44 hx => ?_
  refine bd_ok hx fun y45 e46 hx => ?_
  refine getR_ok hx fun a47 h48 h49 hx => ?_
  refine bd_ok hx fun y50 e51 hx => ?_
  let A52 : List An := [.lp, .reg [(3, none, .val (.pv (.int .i64 ((c39.length : Nat) : Int))))], .br true, .draw [0, 1, 2, 3, 4, 5, 6, 7, 8, 9, 10, 11, 12, 13, 14, 15, 16] [(4, none, .row (Edge.enc a42)), (7, none, .call [] [] (.pv (.bool y45)) [] []), (12, none, .row (Edge.enc a47)), (15, none, .call [] [] (.pv (.bool y50)) [] [])]]
  let Q53 : List Prop := [AV.pv (.int .i64 ((c39.map Edge.enc).length : Nat)) = .pv (.int .i64 (c39.length : Nat)), (decide (s < ((c39.length : Nat) : Int))) = true, 0 ≤ (s : Int), (c39.map Edge.enc)[(s : Int).toNat]? = some (Edge.enc a42), (Edge.enc a42).length = 6, Spec Try.prog 54 [.pv (.sl (c37.map eInt)), .pv (.int .i64 a42.From)] [] (.pv (.bool y45)) [], 0 ≤ (s : Int), (c39.map Edge.enc)[(s : Int).toNat]? = some (Edge.enc a47), (Edge.enc a47).length = 6, Spec Try.prog 54 [.pv (.sl (c37.map eInt)), .pv (.int .i64 a47.To)] [] (.pv (.bool y50)) []]
  have k54 : All Q53 := ⟨lenOb, h41, h43, rowOb h44, rfl, r7has.ok c37 a42.From e46, h48, rowOb h49, rfl, r7has.ok c37 a47.To e51, trivial⟩
  refine br_ok hx (fun h55 hx => ?_) (fun h55 hx => ?_)
  ·obtain rfl := sI hx
   exact WK.run (an := (A52 ++ [.br true, .reg []])) (kt := [8]) (ko := []) (ps := (Q53 ++ [(!(y45 == y50)) = true])) (by kernel_rfl) (All_append.2 ⟨k54, ⟨h55, trivial⟩⟩) hn
  ·obtain rfl := sI hx
   exact WK.run (an := (A52 ++ [.br false, .reg []])) (kt := [3, 4, 10]) (ko := [(101, 101)]) (ps := (Q53 ++ [(!(y45 == y50)) = false])) (by kernel_rfl) (All_append.2 ⟨k54, ⟨h55, trivial⟩⟩) hn
 ·obtain rfl := sI hx
  exact WK.run (an := [.lp, .reg [(3, none, .val (.pv (.int .i64 ((c39.length : Nat) : Int))))], .br false]) (kt := []) (ko := []) (ps := [AV.pv (.int .i64 ((c39.map Edge.enc).length : Nat)) = .pv (.int .i64 (c39.length : Nat)), (decide (s < ((c39.length : Nat) : Int))) = false]) (by kernel_rfl) ⟨lenOb, h41, trivial⟩ hn
noncomputable def r7CheckSide.l1 (c16 : List Int) (c17 : List Vertex) (c18 : List Edge) (c19 : List Int) (s : Int) : Option (Nx Int (Unit ⊕ Unit ⊕ Unit)) :=
 br (decide (s < ((c16.length : Nat) : Int))) (
  getR c16 s fun a21 =>
  bd (r3Place (Graph.mk c17 c18 c19) a21) fun y24 =>
  br (decide (y24 < 0)) (
   some (.done (.inl ()))) (
   br (decide (s > 0)) (
    getR c16 s fun a30 =>
    getR c16 (IntKind.i64.wrap (s - 1)) fun a33 =>
    br (decide (a30 ≤ a33)) (
     some (.done (.inl ()))) (
     some (.cont (IntKind.i64.wrap (s + 1))))) (
    some (.cont (IntKind.i64.wrap (s + 1)))))) (
  bd (loopN fuel (r7CheckSide.l0 c16 c17 c18 c19) 0) fun q37 =>
  match q37 with
  | .inl q37 =>
   some (.done (.inr (.inl ())))
  | .inr q37 =>
   some (.done (.inr (.inr ()))))
abbrev r7CheckSide.l1.enc (c16 : List Int) (c17 : List Vertex) (c18 : List Edge) (c19 : List Int) (s : Int) : St := ⟨80, [(3, .pv (.sl (c16.map eInt))), (4, .ref 101 0 0 0), (9, .pv (.int .i64 s))], [(101, .varp [.sl (c17.map Vertex.enc), .sl (c18.map Edge.enc), .sl (c19.map eInt)])]⟩
abbrev r7CheckSide.l1.post (c16 : List Int) (c17 : List Vertex) (c18 : List Edge) (c19 : List Int) (r : AV) (outs : List AObj) (q : Unit ⊕ Unit ⊕ Unit) : Prop := match q with | .inl q => WK Try.prog (25, 0) [.code (sub b25 [1, 1, 0, 1, 0, 0, 1, 0, 0, 1, 0, 1]), .inBlock 1, .code (sub b25 [1, 1, 0, 1, 0, 0, 1, 1]), .inLoop (sub b25 [1, 1, 0, 1, 0, 0]), .inBlock 0, .code (sub b25 [1, 1, 1])] ⟨80, [(8, .pv (.bool false))], []⟩ r outs | .inr (.inl q) => WK Try.prog (25, 0) [.code (sub b25 [1, 1, 1, 0, 1, 0, 0, 1, 0, 0, 1, 0, 1]), .inBlock 3, .code (sub b25 [1, 1, 1, 0, 1, 0, 0, 1, 1]), .inLoop (sub b25 [1, 1, 1, 0, 1, 0, 0]), .inBlock 2, .code (sub b25 [1, 1, 1, 1])] ⟨80, [(8, .pv (.bool false))], []⟩ r outs | .inr (.inr q) => WK Try.prog (25, 0) [.code (sub b25 [1, 1, 1, 1, 0]), .code (sub b25 [1, 1, 1, 1, 1])] ⟨80, [], []⟩ r outs
theorem r7CheckSide.l1.ok (c16 : List Int) (c17 : List Vertex) (c18 : List Edge) (c19 : List Int) (r : AV) (outs : List AObj) (s : Int) (q : Unit ⊕ Unit ⊕ Unit) (h : loopN fuel (r7CheckSide.l1 c16 c17 c18 c19) s = some q) (hd : r7CheckSide.l1.post c16 c17 c18 c19 r outs q) :
  WK Try.prog (25, 0) [.inLoop (sub b25 [1, 1, 0, 1, 0, 0]), .inBlock 0, .code (sub b25 [1, 1, 1])] (r7CheckSide.l1.enc c16 c17 c18 c19 s) r outs := by
 refine WK.loop (r7CheckSide.l1.enc c16 c17 c18 c19) (r7CheckSide.l1 c16 c17 c18 c19) (r7CheckSide.l1.post c16 c17 c18 c19 r outs) ?_ fuel s q h hd
 intro s x hx hn
 unfold r7CheckSide.l1 at hx
 refine br_ok hx (fun h20 hx => ?_) (fun h20 hx => ?_)
 ·refine getR_ok hx fun a21 h22 h23 hx => ?_
  refine bd_ok hx fun y24 e25 hx => ?_
  let Q26 : List Prop := [AV.pv (.int .i64 ((c16.map eInt).length : Nat)) = .pv (.int .i64 (c16.length : Nat)), (decide (s < ((c16.length : Nat) : Int))) = true, 0 ≤ (s : Int), (c16.map eInt)[(s : Int).toNat]? = some (eInt a21), (eInt a21).length = 1, Spec Try.prog 34 [.aggp [.sl (c17.map Vertex.enc), .sl (c18.map Edge.enc), .sl (c19.map eInt)], .pv (.int .i64 a21)] [] (.pv (.int .i64 y24)) []]
  have k27 : All Q26 := ⟨lenOb, h20, h22, rowOb h23, rfl, r3Place.ok (Graph.mk c17 c18 c19) a21 e25, trivial⟩
  refine br_ok hx (fun h28 hx => ?_) (fun h28 hx => ?_)
  ·obtain rfl := sI hx
   exact WK.run (an := [.lp, .reg [(2, none, .val (.pv (.int .i64 ((c16.length : Nat) : Int))))], .br true, .draw [0, 1, 2, 3, 4, 5, 6, 7, 8, 9, 10, 11, 12, 13, 14, 15, 16, 17, 18, 19, 20, 21, 22] [(3, none, .row (eInt a21)), (5, none, .call [] [] (.pv (.int .i64 y24)) [] []), (8, some true, .no), (9, some true, .no), (10, some true, .no), (21, some true, .no), (22, none, .bit true)], .bk, .reg []]) (kt := [8]) (ko := []) (ps := (Q26 ++ [(decide (y24 < 0)) = true, (decide (y24 < 0)) = true, (decide (y24 < 0)) = true, (decide (y24 < 0)) = true, (decide (y24 < 0)) = true])) (by kernel_rfl) (All_append.2 ⟨k27, ⟨h28, h28, h28, h28, h28, trivial⟩⟩) hn
  ·refine br_ok hx (fun h29 hx => ?_) (fun h29 hx => ?_)
   ·refine getR_ok hx fun a30 h31 h32 hx => ?_
    refine getR_ok hx fun a33 h34 h35 hx => ?_
    refine WK.run (an := [.lp, .reg [(2, none, .val (.pv (.int .i64 ((c16.length : Nat) : Int))))], .br true, .draw [0, 1, 2, 3, 4, 5, 6, 7, 8, 9, 10, 11, 12, 13, 14, 15, 16, 17, 18, 19, 20, 21, 22] [(3, none, .row (eInt a21)), (5, none, .call [] [] (.pv (.int .i64 y24)) [] []), (8, some false, .no), (9, some false, .no), (10, some false, .no), (11, some true, .no), (12, some true, .no), (13, some true, .row (eInt a30)), (14, some true, .no), (15, some true, .no), (16, some true, .no), (17, some true, .no), (18, some true, .row (eInt a33)), (19, some true, .no), (20, some true, .no), (21, some false, .bit true), (22, none, .bit false)]]) (kt := [3, 4, 9, 55]) (ko := [(101, 101)]) (k' := [.code (sub b25 [1, 1, 0, 1, 0, 0, 1, 0, 0, 1]), .inBlock 1, .code (sub b25 [1, 1, 0, 1, 0, 0, 1, 1]), .inLoop (sub b25 [1, 1, 0, 1, 0, 0]), .inBlock 0, .code (sub b25 [1, 1, 1])]) (σ' := ⟨80, [(3, .pv (.sl (c16.map eInt))), (4, .ref 101 0 0 0), (9, .pv (.int .i64 s)), (55, .pv (.bool (decide (a30 ≤ a33))))], [(101, .varp [.sl (c17.map Vertex.enc), .sl (c18.map Edge.enc), .sl (c19.map eInt)])]⟩) (ps := (Q26 ++ [(decide (y24 < 0)) = false, (decide (y24 < 0)) = false, (decide (y24 < 0)) = false, (decide (s > 0)) = true, (decide (s > 0)) = true, (decide (s > 0)) = true, 0 ≤ (s : Int), (c16.map eInt)[(s : Int).toNat]? = some (eInt a30), (eInt a30).length = 1, (decide (s > 0)) = true, (decide (s > 0)) = true, (decide (s > 0)) = true, (decide (s > 0)) = true, (decide (s > 0)) = true, 0 ≤ ((IntKind.i64.wrap (s - 1)) : Int), (c16.map eInt)[((IntKind.i64.wrap (s - 1)) : Int).toNat]? = some (eInt a33), (eInt a33).length = 1, (decide (s > 0)) = true, (decide (s > 0)) = true, (decide (y24 < 0)) = false, (decide (s > 0)) = true, (decide (y24 < 0)) = false]))
     (by kernel_rfl) (All_append.2 ⟨k27, ⟨h28, h28, h28, h29, h29, h29, h31, rowOb h32, rfl, h29, h29, h29, h29, h29, h34, rowOb h35, rfl, h29, h29, h28, h29, h28, trivial⟩⟩) ?_
    refine br_ok hx (fun h36 hx => ?_) (fun h36 hx => ?_)
    ·obtain rfl := sI hx
     exact WK.run (an := [.br true, .reg []]) (kt := [8]) (ko := []) (ps := [(decide (a30 ≤ a33)) = true]) (by kernel_rfl) ⟨h36, trivial⟩ hn
    ·obtain rfl := sI hx
     exact WK.run (an := [.br false, .reg []]) (kt := [3, 4, 9]) (ko := [(101, 101)]) (ps := [(decide (a30 ≤ a33)) = false]) (by kernel_rfl) ⟨h36, trivial⟩ hn
   ·obtain rfl := sI hx
    exact WK.run (an := [.lp, .reg [(2, none, .val (.pv (.int .i64 ((c16.length : Nat) : Int))))], .br true, .draw [0, 1, 2, 3, 4, 5, 6, 7, 8, 9, 10, 11, 12, 13, 14, 15, 16, 17, 18, 19, 20, 21, 22] [(3, none, .row (eInt a21)), (5, none, .call [] [] (.pv (.int .i64 y24)) [] []), (8, some false, .no), (9, some false, .no), (10, some false, .no), (11, some false, .no), (12, some false, .no), (13, some false, .no), (14, some false, .no), (15, some false, .no), (16, some false, .no), (17, some false, .no), (18, some false, .no), (19, some false, .no), (20, some false, .no), (21, some false, .bit false), (22, none, .bit false)], .bk, .reg []]) (kt := [3, 4, 9]) (ko := [(101, 101)]) (ps := (Q26 ++ [(decide (y24 < 0)) = false, (decide (y24 < 0)) = false, (decide (y24 < 0)) = false, (decide (s > 0)) = false, (decide (s > 0)) = false, (decide (s > 0)) = false, (decide (s > 0)) = false, (decide (s > 0)) = false, (decide (s > 0)) = false, (decide (s > 0)) = false, (decide (s > 0)) = false, (decide (s > 0)) = false, (decide (s > 0)) = false, (decide (y24 < 0)) = false, (decide (s > 0)) = false, (decide (y24 < 0)) = false])) (by kernel_rfl) (All_append.2 ⟨k27, ⟨h28, h28, h28, h29, h29, h29, h29, h29, h29, h29, h29, h29, h29, h28, h29, h28, trivial⟩⟩) hn
 ·refine bd_ok hx fun q37 e38 hx => ?_
  refine WK.run (an := [.lp, .reg [(2, none, .val (.pv (.int .i64 ((c16.length : Nat) : Int))))], .br false, .reg []]) (kt := [3, 4, 10]) (ko := [(101, 101)]) (ps := [AV.pv (.int .i64 ((c16.map eInt).length : Nat)) = .pv (.int .i64 (c16.length : Nat)), (decide (s < ((c16.length : Nat) : Int))) = false]) (by kernel_rfl) ⟨lenOb, h20, trivial⟩ (WK.enterLoop (r7CheckSide.l0.ok c16 c17 c18 c19 _ _ _ _ e38 ?_))
  rcases q37 with (q37 | q37)
  ·obtain rfl := sI hx
   exact WK.run (an := []) (kt := [8]) (ko := []) (ps := []) (by kernel_rfl) trivial hn
  ·obtain rfl := sI hx
   exact WK.run (an := []) (kt := []) (ko := []) (ps := []) (by kernel_rfl) trivial hn
noncomputable def r7CheckSide (v1 : Graph) (v2 : Int) (v3 : Int) (v4 : List Int) : Option Bool :=
 bd (r7ends v1 v2 v3) fun y5 =>
 br (!y5) (
  some false) (
  bd (r7has v4 v2) fun y8 =>
  br (!y8) (
   some false) (
   bd (r7has v4 v3) fun y13 =>
   br y13 (
    some false) (
    bd (loopN fuel (r7CheckSide.l1 v4 v1.Vertices v1.Edges v1.Depots) 0) fun q39 =>
    match q39 with
    | .inl q39 =>
     some false
    | .inr (.inl q39) =>
     some false
    | .inr (.inr q39) =>
     some true)))
theorem r7CheckSide.ok (v1 : Graph) (v2 : Int) (v3 : Int) (v4 : List Int) {x : Bool} (hx : r7CheckSide v1 v2 v3 v4 = some x) :
  Spec Try.prog 25 [.aggp [.sl (v1.Vertices.map Vertex.enc), .sl (v1.Edges.map Edge.enc), .sl (v1.Depots.map eInt)], .pv (.int .i64 v2), .pv (.int .i64 v3), .pv (.sl (v4.map eInt))] [] (.pv (.bool x)) [] := by
 refine Spec.of (c := b25) Try.func25 rfl rfl rfl ?_
 unfold r7CheckSide at hx
 refine bd_ok hx fun y5 e6 hx => ?_
 refine br_ok hx (fun h7 hx => ?_) (fun h7 hx => ?_)
 ·obtain rfl := sI hx
  exact WK.fin (fn := Try.f25) Try.func25 (an := [.reg [(0, none, .nm 1003)], .reg [(3, none, .call [] [] (.pv (.bool y5)) [] []), (6, some true, .no)], .bk, .reg []]) (kt := [8]) (ko := []) (frz := []) (ps := [Spec Try.prog 46 [.aggp [.sl (v1.Vertices.map Vertex.enc), .sl (v1.Edges.map Edge.enc), .sl (v1.Depots.map eInt)], .pv (.int .i64 v2), .pv (.int .i64 v3)] [] (.pv (.bool y5)) [], (!y5) = true]) (qs := []) (by kernel_rfl) ⟨r7ends.ok v1 v2 v3 e6, h7, trivial⟩ trivial
 ·refine bd_ok hx fun y8 e9 hx => ?_
  let Q10 : List Prop := [Spec Try.prog 46 [.aggp [.sl (v1.Vertices.map Vertex.enc), .sl (v1.Edges.map Edge.enc), .sl (v1.Depots.map eInt)], .pv (.int .i64 v2), .pv (.int .i64 v3)] [] (.pv (.bool y5)) [], (!y5) = false, Spec Try.prog 54 [.pv (.sl (v4.map eInt)), .pv (.int .i64 v2)] [] (.pv (.bool y8)) []]
  have k11 : All Q10 := ⟨r7ends.ok v1 v2 v3 e6, h7, r7has.ok v4 v2 e9, trivial⟩
  refine br_ok hx (fun h12 hx => ?_) (fun h12 hx => ?_)
  ·obtain rfl := sI hx
   exact WK.fin (fn := Try.f25) Try.func25 (an := [.reg [(0, none, .nm 1003)], .reg [(3, none, .call [] [] (.pv (.bool y5)) [] []), (6, some false, .no), (8, none, .call [] [] (.pv (.bool y8)) [] []), (12, some true, .no)], .bk, .reg []]) (kt := [8]) (ko := []) (frz := []) (ps := (Q10 ++ [(!y8) = true])) (qs := []) (by kernel_rfl) (All_append.2 ⟨k11, ⟨h12, trivial⟩⟩) trivial
  ·refine bd_ok hx fun y13 e14 hx => ?_
   refine br_ok hx (fun h15 hx => ?_) (fun h15 hx => ?_)
   ·obtain rfl := sI hx
    exact WK.fin (fn := Try.f25) Try.func25 (an := [.reg [(0, none, .nm 1003)], .reg [(3, none, .call [] [] (.pv (.bool y5)) [] []), (6, some false, .no), (8, none, .call [] [] (.pv (.bool y8)) [] []), (12, some false, .no), (14, none, .call [] [] (.pv (.bool y13)) [] [])], .br true, .reg []]) (kt := [8]) (ko := []) (frz := []) (ps := (Q10 ++ [(!y8) = false, Spec Try.prog 54 [.pv (.sl (v4.map eInt)), .pv (.int .i64 v3)] [] (.pv (.bool y13)) [], y13 = true])) (qs := []) (by kernel_rfl) (All_append.2 ⟨k11, ⟨h12, r7has.ok v4 v3 e14, h15, trivial⟩⟩) trivial
   ·refine bd_ok hx fun q39 e40 hx => ?_
    refine WK.run (an := [.reg [(0, none, .nm 1003)], .reg [(3, none, .call [] [] (.pv (.bool y5)) [] []), (6, some false, .no), (8, none, .call [] [] (.pv (.bool y8)) [] []), (12, some false, .no), (14, none, .call [] [] (.pv (.bool y13)) [] [])], .br false, .reg []]) (kt := [3, 4, 9]) (ko := [(1003, 101)]) (ps := (Q10 ++ [(!y8) = false, Spec Try.prog 54 [.pv (.sl (v4.map eInt)), .pv (.int .i64 v3)] [] (.pv (.bool y13)) [], y13 = false])) (by kernel_rfl) (All_append.2 ⟨k11, ⟨h12, r7has.ok v4 v3 e14, h15, trivial⟩⟩) (WK.enterLoop (r7CheckSide.l1.ok v4 v1.Vertices v1.Edges v1.Depots _ _ _ _ e40 ?_))
    rcases q39 with (q39 | (q39 | q39))
    ·obtain rfl := sI hx
     exact WK.fin (fn := Try.f25) Try.func25 (an := []) (kt := [8]) (ko := []) (frz := []) (ps := []) (qs := []) (by kernel_rfl) trivial trivial
    ·obtain rfl := sI hx
     exact WK.fin (fn := Try.f25) Try.func25 (an := []) (kt := [8]) (ko := []) (frz := []) (ps := []) (qs := []) (by kernel_rfl) trivial trivial
    ·obtain rfl := sI hx
     exact WK.fin (fn := Try.f25) Try.func25 (an := [.reg []]) (kt := [8]) (ko := []) (frz := []) (ps := []) (qs := []) (by kernel_rfl) trivial trivial
noncomputable abbrev b26 : Code := body Try.f26
noncomputable def w7short.l0 (c7 : Int) (c8 : Int) (c9 : List Int) (c10 : List Edge) (s : Int × (List Named)) : Option (Nx (Int × (List Named)) (List Named)) :=
 br (decide (s.1 < ((s.2.length : Nat) : Int))) (
  gd (0 ≤ (s.1 : Int) ∧ (s.1 : Int) < ((s.2.length : Nat) : Int)) <|
  bd (s.2[(0 + (s.1 : Int).toNat)]?) fun a13 =>
  gd (0 ≤ (s.1 : Int) ∧ (s.1 : Int) < ((s.2.length : Nat) : Int)) <|
  bd (s.2[(0 + (s.1 : Int).toNat)]?) fun a16 =>
  gd (0 ≤ ((if 4 < ((a16.Label.length : Nat) : Int) then 4 else ((a16.Label.length : Nat) : Int)) : Int)) <|
  gd (((if 4 < ((a16.Label.length : Nat) : Int) then 4 else ((a16.Label.length : Nat) : Int)) : Int) ≤ (((a13.Label.map eInt).length : Nat) : Int)) <|
  gd (0 ≤ (s.1 : Int) ∧ (s.1 : Int) < ((s.2.length : Nat) : Int)) <|
  bd (s.2[(0 + (s.1 : Int).toNat)]?) fun a21 =>
  some (.cont ((IntKind.i64.wrap (s.1 + 1)), (s.2.set (0 + (s.1 : Int).toNat) (Named.mk a21.ID (a13.Label.take ((if 4 < ((a16.Label.length : Nat) : Int) then 4 else ((a16.Label.length : Nat) : Int)) : Int).toNat)))))) (
  some (.done s.2))
abbrev w7short.l0.enc (c7 : Int) (c8 : Int) (c9 : List Int) (c10 : List Edge) (s : Int × (List Named)) : St := ⟨50, [(1, .ref 101 0 0 0), (2, .ref 105 0 0 0), (3, .pv (.int .i64 s.1))], [(101, .var [.pv (.int .i64 c7), .pv (.int .i64 c8), .pv (.sl (c9.map eInt)), .pv (.sl (c10.map Edge.enc)), .hd 103 0 ((s.2.map Named.enc).length) 2]), (103, .sl false 2 (s.2.map Named.enc)), (105, .varp [.int .i64 0, .int .i64 0, .sl ([].map eInt), .sl ([].map Edge.enc), .sl ([].map Named.enc)])]⟩
abbrev w7short.l0.post (c7 : Int) (c8 : Int) (c9 : List Int) (c10 : List Edge) (r : AV) (outs : List AObj) (q : (List Named)) : Prop := WK Try.prog (26, 0) [.code (sub b26 [1, 1, 1, 1, 0]), .code (sub b26 [1, 1, 1, 1, 1])] ⟨50, [(1, .ref 101 0 0 0), (2, .ref 105 0 0 0)], [(101, .var [.pv (.int .i64 c7), .pv (.int .i64 c8), .pv (.sl (c9.map eInt)), .pv (.sl (c10.map Edge.enc)), .hd 103 0 ((q.map Named.enc).length) 2]), (103, .sl false 2 (q.map Named.enc)), (105, .varp [.int .i64 0, .int .i64 0, .sl ([].map eInt), .sl ([].map Edge.enc), .sl ([].map Named.enc)])]⟩ r outs
theorem w7short.l0.ok (c7 : Int) (c8 : Int) (c9 : List Int) (c10 : List Edge) (r : AV) (outs : List AObj) (s : Int × (List Named)) (q : (List Named)) (h : loopN fuel (w7short.l0 c7 c8 c9 c10) s = some q) (hd : w7short.l0.post c7 c8 c9 c10 r outs q) :
  WK Try.prog (26, 0) [.inLoop (sub b26 [1, 1, 1, 0, 1, 0, 0]), .inBlock 0, .code (sub b26 [1, 1, 1, 1])] (w7short.l0.enc c7 c8 c9 c10 s) r outs := by
 refine WK.loop (w7short.l0.enc c7 c8 c9 c10) (w7short.l0 c7 c8 c9 c10) (w7short.l0.post c7 c8 c9 c10 r outs) ?_ fuel s q h hd
 intro s x hx hn
 unfold w7short.l0 at hx
 refine br_ok hx (fun h11 hx => ?_) (fun h11 hx => ?_)
 ·refine gd_ok hx fun h12 hx => ?_
  refine bd_ok hx fun a13 h14 hx => ?_
  refine gd_ok hx fun h15 hx => ?_
  refine bd_ok hx fun a16 h17 hx => ?_
  refine gd_ok hx fun h18 hx => ?_
  refine gd_ok hx fun h19 hx => ?_
  refine gd_ok hx fun h20 hx => ?_
  refine bd_ok hx fun a21 h22 hx => ?_
  obtain rfl := sI hx
  refine WK.run (an := [.lp, .reg [(3, none, .val (.pv (.int .i64 ((s.2.length : Nat) : Int))))], .br true, .draw [0, 1, 2, 3, 4, 5, 6, 7, 8, 9, 10, 11, 12, 13, 14, 15, 16, 17, 18, 19, 20] [(8, none, .row (Named.enc a13)), (14, none, .row (Named.enc a16)), (15, none, .val (.pv (.int .i64 ((a16.Label.length : Nat) : Int)))), (17, none, .sls ((a13.Label.take ((if 4 < ((a16.Label.length : Nat) : Int) then 4 else ((a16.Label.length : Nat) : Int)) : Int).toNat).map eInt)), (20, none, .rows (Named.enc a21) ((s.2.set (0 + (s.1 : Int).toNat) (Named.mk a21.ID (a13.Label.take ((if 4 < ((a16.Label.length : Nat) : Int) then 4 else ((a16.Label.length : Nat) : Int)) : Int).toNat))).map Named.enc))], .reg []]) (kt := [1, 2, 3]) (ko := [(101, 101), (103, 103), (105, 105)]) (k' := [.inLoop (sub b26 [1, 1, 1, 0, 1, 0, 0]), .inBlock 0, .code (sub b26 [1, 1, 1, 1])]) (σ' := ⟨50, [(1, .ref 101 0 0 0), (2, .ref 105 0 0 0), (3, .pv (.int .i64 (IntKind.i64.wrap (s.1 + 1))))], [(101, .var [.pv (.int .i64 c7), .pv (.int .i64 c8), .pv (.sl (c9.map eInt)), .pv (.sl (c10.map Edge.enc)), .hd 103 0 ((s.2.map Named.enc).length) 2]), (103, .sl false 2 ((s.2.set (0 + (s.1 : Int).toNat) (Named.mk a21.ID (a13.Label.take ((if 4 < ((a16.Label.length : Nat) : Int) then 4 else ((a16.Label.length : Nat) : Int)) : Int).toNat))).map Named.enc)), (105, .varp [.int .i64 0, .int .i64 0, .sl ([].map eInt), .sl ([].map Edge.enc), .sl ([].map Named.enc)])]⟩) (ps := [AV.pv (.int .i64 ((s.2.map Named.enc).length : Nat)) = .pv (.int .i64 (s.2.length : Nat)), (decide (s.1 < ((s.2.length : Nat) : Int))) = true, 0 ≤ (s.1 : Int), (s.1 : Int) < (((s.2.map Named.enc).length : Nat) : Int), (s.2.map Named.enc)[(0 + (s.1 : Int).toNat)]? = some (Named.enc a13), 0 ≤ (s.1 : Int), (s.1 : Int) < (((s.2.map Named.enc).length : Nat) : Int), (s.2.map Named.enc)[(0 + (s.1 : Int).toNat)]? = some (Named.enc a16), AV.pv (.int .i64 ((a16.Label.map eInt).length : Nat)) = .pv (.int .i64 (a16.Label.length : Nat)), 0 ≤ ((if 4 < ((a16.Label.length : Nat) : Int) then 4 else ((a16.Label.length : Nat) : Int)) : Int), ((if 4 < ((a16.Label.length : Nat) : Int) then 4 else ((a16.Label.length : Nat) : Int)) : Int) ≤ (((a13.Label.map eInt).length : Nat) : Int), cut1 (a13.Label.map eInt) 0 (((if 4 < ((a16.Label.length : Nat) : Int) then 4 else ((a16.Label.length : Nat) : Int)) : Int).toNat - 0) = (a13.Label.take ((if 4 < ((a16.Label.length : Nat) : Int) then 4 else ((a16.Label.length : Nat) : Int)) : Int).toNat).map eInt, ∀ r ∈ (a13.Label.take ((if 4 < ((a16.Label.length : Nat) : Int) then 4 else ((a16.Label.length : Nat) : Int)) : Int).toNat).map eInt, r.length = 1, 0 ≤ (s.1 : Int), (s.1 : Int) < (((s.2.map Named.enc).length : Nat) : Int), (s.2.map Named.enc)[(0 + (s.1 : Int).toNat)]? = some (Named.enc a21), 1 = 1, 1 + 1 ≤ (Named.enc a21).length, (s.2.map Named.enc).set (0 + (s.1 : Int).toNat) (splice (Named.enc a21) 1 [.sl ((a13.Label.take ((if 4 < ((a16.Label.length : Nat) : Int) then 4 else ((a16.Label.length : Nat) : Int)) : Int).toNat).map eInt)]) = ((s.2.set (0 + (s.1 : Int).toNat) (Named.mk a21.ID (a13.Label.take ((if 4 < ((a16.Label.length : Nat) : Int) then 4 else ((a16.Label.length : Nat) : Int)) : Int).toNat))).map Named.enc)])
   (by kernel_rfl) ⟨lenOb, h11, h12.1, lenLt h12.2, rowOb h14, h15.1, lenLt h15.2, rowOb h17, lenOb, h18, h19, cut_hi, map_len fun _ => rfl, h20.1, lenLt h20.2, rowOb h22, rfl, Nat.le_of_ble_eq_true rfl, setOb (f := Named.enc) (x := (Named.mk a21.ID (a13.Label.take ((if 4 < ((a16.Label.length : Nat) : Int) then 4 else ((a16.Label.length : Nat) : Int)) : Int).toNat))), trivial⟩ ?_
  refine WK.eq (σ' := w7short.l0.enc c7 c8 c9 c10 ((IntKind.i64.wrap (s.1 + 1)), (s.2.set (0 + (s.1 : Int).toNat) (Named.mk a21.ID (a13.Label.take ((if 4 < ((a16.Label.length : Nat) : Int) then 4 else ((a16.Label.length : Nat) : Int)) : Int).toNat))))) (by simp only [w7short.l0.enc, List.length_map, List.length_set]) ?_
  exact hn
 ·obtain rfl := sI hx
  exact WK.run (an := [.lp, .reg [(3, none, .val (.pv (.int .i64 ((s.2.length : Nat) : Int))))], .br false]) (kt := [1, 2]) (ko := [(101, 101), (103, 103), (105, 105)]) (ps := [AV.pv (.int .i64 ((s.2.map Named.enc).length : Nat)) = .pv (.int .i64 (s.2.length : Nat)), (decide (s.1 < ((s.2.length : Nat) : Int))) = false]) (by kernel_rfl) ⟨lenOb, h11, trivial⟩ hn
noncomputable def w7short (v1 : View) : Option View :=
 gd (0 ≤ ((if 6 < ((v1.Edges.length : Nat) : Int) then 6 else ((v1.Edges.length : Nat) : Int)) : Int)) <|
 gd (((if 6 < ((v1.Edges.length : Nat) : Int) then 6 else ((v1.Edges.length : Nat) : Int)) : Int) ≤ (((v1.Edges.map Edge.enc).length : Nat) : Int)) <|
 gd (0 ≤ ((if 8 < ((v1.Labels.length : Nat) : Int) then 8 else ((v1.Labels.length : Nat) : Int)) : Int)) <|
 gd (((if 8 < ((v1.Labels.length : Nat) : Int) then 8 else ((v1.Labels.length : Nat) : Int)) : Int) ≤ (((v1.Labels.map Named.enc).length : Nat) : Int)) <|
 gd ((v1.Labels.take ((if 8 < ((v1.Labels.length : Nat) : Int) then 8 else ((v1.Labels.length : Nat) : Int)) : Int).toNat).length ≤ bigLen) <|
 bd (loopN fuel (w7short.l0 v1.Vertex.ID v1.Vertex.Side v1.Depots (v1.Edges.take ((if 6 < ((v1.Edges.length : Nat) : Int) then 6 else ((v1.Edges.length : Nat) : Int)) : Int).toNat)) (0, (v1.Labels.take ((if 8 < ((v1.Labels.length : Nat) : Int) then 8 else ((v1.Labels.length : Nat) : Int)) : Int).toNat))) fun q23 =>
 some (View.mk v1.Vertex v1.Depots (v1.Edges.take ((if 6 < ((v1.Edges.length : Nat) : Int) then 6 else ((v1.Edges.length : Nat) : Int)) : Int).toNat) q23)
theorem w7short.ok (v1 : View) {x : View} (hx : w7short v1 = some x) :
  Spec Try.prog 26 [.aggp [.int .i64 v1.Vertex.ID, .int .i64 v1.Vertex.Side, .sl (v1.Depots.map eInt), .sl (v1.Edges.map Edge.enc), .sl (v1.Labels.map Named.enc)]] [] (.aggp [.int .i64 x.Vertex.ID, .int .i64 x.Vertex.Side, .sl (x.Depots.map eInt), .sl (x.Edges.map Edge.enc), .sl (x.Labels.map Named.enc)]) [] := by
 refine Spec.of (c := b26) Try.func26 rfl rfl rfl ?_
 unfold w7short at hx
 refine gd_ok hx fun h2 hx => ?_
 refine gd_ok hx fun h3 hx => ?_
 refine gd_ok hx fun h4 hx => ?_
 refine gd_ok hx fun h5 hx => ?_
 refine gd_ok hx fun h6 hx => ?_
 refine bd_ok hx fun q23 e24 hx => ?_
 refine WK.run (an := [.reg [(0, none, .nm 1003), (1, none, .nmv 1005 (.aggp [.int .i64 0, .int .i64 0, .sl ([].map eInt), .sl ([].map Edge.enc), .sl ([].map Named.enc)]))], .reg [(4, none, .val (.pv (.int .i64 ((v1.Edges.length : Nat) : Int)))), (6, none, .sls ((v1.Edges.take ((if 6 < ((v1.Edges.length : Nat) : Int) then 6 else ((v1.Edges.length : Nat) : Int)) : Int).toNat).map Edge.enc))], .reg [(0, none, .nm 1007), (5, none, .val (.pv (.int .i64 ((v1.Labels.length : Nat) : Int)))), (7, none, .sls ((v1.Labels.take ((if 8 < ((v1.Labels.length : Nat) : Int) then 8 else ((v1.Labels.length : Nat) : Int)) : Int).toNat).map Named.enc)), (8, none, .app 1009 ((v1.Labels.take ((if 8 < ((v1.Labels.length : Nat) : Int) then 8 else ((v1.Labels.length : Nat) : Int)) : Int).toNat).map Named.enc))], .reg []]) (kt := [1, 2, 3]) (ko := [(1003, 101), (1009, 103), (1005, 105)]) (ps := [AV.pv (.int .i64 0) = .pv (.int .i64 0), AV.pv (.int .i64 0) = .pv (.int .i64 0), AV.pv (.int .i64 ((v1.Edges.map Edge.enc).length : Nat)) = .pv (.int .i64 (v1.Edges.length : Nat)), 0 ≤ ((if 6 < ((v1.Edges.length : Nat) : Int) then 6 else ((v1.Edges.length : Nat) : Int)) : Int), ((if 6 < ((v1.Edges.length : Nat) : Int) then 6 else ((v1.Edges.length : Nat) : Int)) : Int) ≤ (((v1.Edges.map Edge.enc).length : Nat) : Int), cut1 (v1.Edges.map Edge.enc) 0 (((if 6 < ((v1.Edges.length : Nat) : Int) then 6 else ((v1.Edges.length : Nat) : Int)) : Int).toNat - 0) = (v1.Edges.take ((if 6 < ((v1.Edges.length : Nat) : Int) then 6 else ((v1.Edges.length : Nat) : Int)) : Int).toNat).map Edge.enc, ∀ r ∈ (v1.Edges.take ((if 6 < ((v1.Edges.length : Nat) : Int) then 6 else ((v1.Edges.length : Nat) : Int)) : Int).toNat).map Edge.enc, r.length = 6, 1 = 1, 2 = 2, AV.pv (.int .i64 ((v1.Labels.map Named.enc).length : Nat)) = .pv (.int .i64 (v1.Labels.length : Nat)), 0 ≤ ((if 8 < ((v1.Labels.length : Nat) : Int) then 8 else ((v1.Labels.length : Nat) : Int)) : Int), ((if 8 < ((v1.Labels.length : Nat) : Int) then 8 else ((v1.Labels.length : Nat) : Int)) : Int) ≤ (((v1.Labels.map Named.enc).length : Nat) : Int), cut1 (v1.Labels.map Named.enc) 0 (((if 8 < ((v1.Labels.length : Nat) : Int) then 8 else ((v1.Labels.length : Nat) : Int)) : Int).toNat - 0) = (v1.Labels.take ((if 8 < ((v1.Labels.length : Nat) : Int) then 8 else ((v1.Labels.length : Nat) : Int)) : Int).toNat).map Named.enc, ∀ r ∈ (v1.Labels.take ((if 8 < ((v1.Labels.length : Nat) : Int) then 8 else ((v1.Labels.length : Nat) : Int)) : Int).toNat).map Named.enc, r.length = 2, 0 + 0 = ([].map Named.enc).length, ([].map Named.enc).drop 0 ++ ((v1.Labels.take ((if 8 < ((v1.Labels.length : Nat) : Int) then 8 else ((v1.Labels.length : Nat) : Int)) : Int).toNat).map Named.enc) = ((v1.Labels.take ((if 8 < ((v1.Labels.length : Nat) : Int) then 8 else ((v1.Labels.length : Nat) : Int)) : Int).toNat).map Named.enc), ((v1.Labels.take ((if 8 < ((v1.Labels.length : Nat) : Int) then 8 else ((v1.Labels.length : Nat) : Int)) : Int).toNat).map Named.enc).length ≤ bigLen, ∀ r ∈ ((v1.Labels.take ((if 8 < ((v1.Labels.length : Nat) : Int) then 8 else ((v1.Labels.length : Nat) : Int)) : Int).toNat).map Named.enc), r.length = 2, 1 = 1]) (by kernel_rfl) ⟨rfl, rfl, lenOb, h2, h3, cut_hi, map_len fun _ => rfl, rfl, rfl, lenOb, h4, h5, cut_hi, map_len fun _ => rfl, Nat.zero_add _, by simp [cut1, List.take_of_length_le], bigOb h6, map_len fun _ => rfl, rfl, trivial⟩ (WK.enterLoop (w7short.l0.ok v1.Vertex.ID v1.Vertex.Side v1.Depots (v1.Edges.take ((if 6 < ((v1.Edges.length : Nat) : Int) then 6 else ((v1.Edges.length : Nat) : Int)) : Int).toNat) _ _ _ _ e24 ?_))
 obtain rfl := sI hx
 exact WK.fin (fn := Try.f26) Try.func26 (an := [.reg []]) (kt := [2]) (ko := [(105, 101), (103, 103)]) (frz := [103]) (ps := [5 = 5]) (qs := [(q23.map Named.enc).length = (q23.map Named.enc).length]) (by kernel_rfl) ⟨rfl, trivial⟩ ⟨rfl, trivial⟩
noncomputable abbrev b59 : Code := body Try.f59
noncomputable def r7Find.l0 (c4 : List Named) (c5 : Int) (c6 : Int) (s : Int) : Option (Nx Int (Unit ⊕ (List Int) ⊕ Unit)) :=
 br (decide (s < ((c4.length : Nat) : Int))) (
  getR c4 s fun a8 =>
  br (a8.ID == c5) (
   getR c4 s fun a14 =>
   br (((a14.Label.length : Nat) : Int) != c6) (
    some (.done (.inl ()))) (
    getR c4 s fun a18 =>
    some (.done (.inr (.inl a18.Label))))) (
   some (.cont (IntKind.i64.wrap (s + 1))))) (
  some (.done (.inr (.inr ()))))
abbrev r7Find.l0.enc (c4 : List Named) (c5 : Int) (c6 : Int) (s : Int) : St := ⟨34, [(0, .pv (.sl (c4.map Named.enc))), (1, .pv (.int .i64 c5)), (2, .pv (.int .i64 c6)), (7, .pv (.int .i64 s))], []⟩
abbrev r7Find.l0.post (c4 : List Named) (c5 : Int) (c6 : Int) (r : AV) (outs : List AObj) (q : Unit ⊕ (List Int) ⊕ Unit) : Prop := match q with | .inl q => WK Try.prog (59, 0) [.code (sub b59 [1, 0, 1, 0, 0, 1, 0, 0, 1, 0, 0, 1, 0, 1]), .code (sub b59 [1, 0, 1, 0, 0, 1, 0, 0, 1, 0, 1]), .inBlock 1, .code (sub b59 [1, 0, 1, 0, 0, 1, 1]), .inLoop (sub b59 [1, 0, 1, 0, 0]), .inBlock 0, .code (sub b59 [1, 1])] ⟨34, [(6, .pv (.sl ([].map eInt)))], []⟩ r outs | .inr (.inl q) => WK Try.prog (59, 0) [.code (sub b59 [1, 0, 1, 0, 0, 1, 0, 0, 1, 0, 1, 1]), .inBlock 1, .code (sub b59 [1, 0, 1, 0, 0, 1, 1]), .inLoop (sub b59 [1, 0, 1, 0, 0]), .inBlock 0, .code (sub b59 [1, 1])] ⟨34, [(6, .pv (.sl (q.map eInt)))], []⟩ r outs | .inr (.inr q) => WK Try.prog (59, 0) [.code (sub b59 [1, 1, 0]), .code (sub b59 [1, 1, 1])] ⟨34, [], []⟩ r outs
theorem r7Find.l0.ok (c4 : List Named) (c5 : Int) (c6 : Int) (r : AV) (outs : List AObj) (s : Int) (q : Unit ⊕ (List Int) ⊕ Unit) (h : loopN fuel (r7Find.l0 c4 c5 c6) s = some q) (hd : r7Find.l0.post c4 c5 c6 r outs q) :
  WK Try.prog (59, 0) [.inLoop (sub b59 [1, 0, 1, 0, 0]), .inBlock 0, .code (sub b59 [1, 1])] (r7Find.l0.enc c4 c5 c6 s) r outs := by
 refine WK.loop (r7Find.l0.enc c4 c5 c6) (r7Find.l0 c4 c5 c6) (r7Find.l0.post c4 c5 c6 r outs) ?_ fuel s q h hd
 intro s x hx hn
 unfold r7Find.l0 at hx
 refine br_ok hx (fun h7 hx => ?_) (fun h7 hx => ?_)
 ·refine getR_ok hx fun a8 h9 h10 hx => ?_
  let Q11 : List Prop := [AV.pv (.int .i64 ((c4.map Named.enc).length : Nat)) = .pv (.int .i64 (c4.length : Nat)), (decide (s < ((c4.length : Nat) : Int))) = true, 0 ≤ (s : Int), (c4.map Named.enc)[(s : Int).toNat]? = some (Named.enc a8), (Named.enc a8).length = 2]
  have k12 : All Q11 := ⟨lenOb, h7, h9, rowOb h10, rfl, trivial⟩
  refine br_ok hx (fun h13 hx => ?_) (fun h13 hx => ?_)
  ·refine getR_ok hx fun a14 h15 h16 hx => ?_
   refine br_ok hx (fun h17 hx => ?_) (fun h17 hx => ?_)
   ·obtain rfl := sI hx
    exact WK.run (an := [.lp, .reg [(2, none, .val (.pv (.int .i64 ((c4.length : Nat) : Int))))], .br true, .reg [(2, none, .row (Named.enc a8))], .br true, .reg [(2, none, .row (Named.enc a14)), (5, none, .val (.pv (.int .i64 ((a14.Label.length : Nat) : Int))))], .br true, .reg [(0, none, .val (.pv (.sl ([].map eInt))))]]) (kt := [6]) (ko := []) (ps := (Q11 ++ [(a8.ID == c5) = true, 0 ≤ (s : Int), (c4.map Named.enc)[(s : Int).toNat]? = some (Named.enc a14), (Named.enc a14).length = 2, AV.pv (.int .i64 ((a14.Label.map eInt).length : Nat)) = .pv (.int .i64 (a14.Label.length : Nat)), (((a14.Label.length : Nat) : Int) != c6) = true])) (by kernel_rfl) (All_append.2 ⟨k12, ⟨h13, h15, rowOb h16, rfl, lenOb, h17, trivial⟩⟩) hn
   ·refine getR_ok hx fun a18 h19 h20 hx => ?_
    obtain rfl := sI hx
    exact WK.run (an := [.lp, .reg [(2, none, .val (.pv (.int .i64 ((c4.length : Nat) : Int))))], .br true, .reg [(2, none, .row (Named.enc a8))], .br true, .reg [(2, none, .row (Named.enc a14)), (5, none, .val (.pv (.int .i64 ((a14.Label.length : Nat) : Int))))], .br false, .reg [(2, none, .row (Named.enc a18))]]) (kt := [6]) (ko := []) (ps := (Q11 ++ [(a8.ID == c5) = true, 0 ≤ (s : Int), (c4.map Named.enc)[(s : Int).toNat]? = some (Named.enc a14), (Named.enc a14).length = 2, AV.pv (.int .i64 ((a14.Label.map eInt).length : Nat)) = .pv (.int .i64 (a14.Label.length : Nat)), (((a14.Label.length : Nat) : Int) != c6) = false, 0 ≤ (s : Int), (c4.map Named.enc)[(s : Int).toNat]? = some (Named.enc a18), (Named.enc a18).length = 2])) (by kernel_rfl) (All_append.2 ⟨k12, ⟨h13, h15, rowOb h16, rfl, lenOb, h17, h19, rowOb h20, rfl, trivial⟩⟩) hn
  ·obtain rfl := sI hx
   exact WK.run (an := [.lp, .reg [(2, none, .val (.pv (.int .i64 ((c4.length : Nat) : Int))))], .br true, .reg [(2, none, .row (Named.enc a8))], .br false, .reg []]) (kt := [0, 1, 2, 7]) (ko := []) (ps := (Q11 ++ [(a8.ID == c5) = false])) (by kernel_rfl) (All_append.2 ⟨k12, ⟨h13, trivial⟩⟩) hn
 ·obtain rfl := sI hx
  exact WK.run (an := [.lp, .reg [(2, none, .val (.pv (.int .i64 ((c4.length : Nat) : Int))))], .br false]) (kt := []) (ko := []) (ps := [AV.pv (.int .i64 ((c4.map Named.enc).length : Nat)) = .pv (.int .i64 (c4.length : Nat)), (decide (s < ((c4.length : Nat) : Int))) = false]) (by kernel_rfl) ⟨lenOb, h7, trivial⟩ hn
noncomputable def r7Find (v1 : List Named) (v2 : Int) (v3 : Int) : Option (List Int) :=
 bd (loopN fuel (r7Find.l0 v1 v2 v3) 0) fun q21 =>
 match q21 with
 | .inl q21 =>
  some []
 | .inr (.inl q21) =>
  some q21
 | .inr (.inr q21) =>
  some []
theorem r7Find.ok (v1 : List Named) (v2 : Int) (v3 : Int) {x : (List Int)} (hx : r7Find v1 v2 v3 = some x) :
  Spec Try.prog 59 [.pv (.sl (v1.map Named.enc)), .pv (.int .i64 v2), .pv (.int .i64 v3)] [] (.pv (.sl (x.map eInt))) [] := by
 refine Spec.of (c := b59) Try.func59 rfl rfl rfl ?_
 unfold r7Find at hx
 refine bd_ok hx fun q21 e22 hx => ?_
 refine WK.run (an := [.reg [(0, none, .val (.pv (.sl ([].map eInt))))], .reg []]) (kt := [0, 1, 2, 7]) (ko := []) (ps := []) (by kernel_rfl) trivial (WK.enterLoop (r7Find.l0.ok v1 v2 v3 _ _ _ _ e22 ?_))
 rcases q21 with (q21 | (q21 | q21))
 ·obtain rfl := sI hx
  exact WK.fin (fn := Try.f59) Try.func59 (an := []) (kt := [6]) (ko := []) (frz := []) (ps := []) (qs := []) (by kernel_rfl) trivial trivial
 ·obtain rfl := sI hx
  exact WK.fin (fn := Try.f59) Try.func59 (an := []) (kt := [6]) (ko := []) (frz := []) (ps := []) (qs := []) (by kernel_rfl) trivial trivial
 ·obtain rfl := sI hx
  exact WK.fin (fn := Try.f59) Try.func59 (an := [.reg [(0, none, .val (.pv (.sl ([].map eInt))))]]) (kt := [6]) (ko := []) (frz := []) (ps := []) (qs := []) (by kernel_rfl) trivial trivial
noncomputable abbrev b60 : Code := body Try.f60
noncomputable def r7near.l0 (c2 : Int) (c3 : Int) (c4 : List Int) (c5 : List Edge) (c6 : List Named) (s : Int) : Option (Nx Int (Unit ⊕ Unit ⊕ Unit)) :=
 br (decide (s < ((c5.length : Nat) : Int))) (
  getR c5 s fun a8 =>
  br (decide (a8.ID < 0)) (
   some (.done (.inl ()))) (
   br (decide (a8.ID ≥ 40)) (
    some (.done (.inl ()))) (
    br (decide (s > 0)) (
     getR c5 (IntKind.i64.wrap (s - 1)) fun a16 =>
     br (decide (a8.ID ≤ a16.ID)) (
      some (.done (.inl ()))) (
      br (decide (a8.From < 0)) (
       some (.done (.inl ()))) (
       br (decide (a8.From ≥ 24)) (
        some (.done (.inl ()))) (
        br (decide (a8.To < 0)) (
         some (.done (.inl ()))) (
         br (decide (a8.To ≥ 24)) (
          some (.done (.inl ()))) (
          br (decide (a8.Weight < (-1000))) (
           some (.done (.inr (.inl ())))) (
           br (decide (a8.Weight > 1000)) (
            some (.done (.inr (.inl ())))) (
            br (a8.From != c2) (
             br (a8.To != c2) (
              some (.done (.inr (.inl ())))) (
              some (.cont (IntKind.i64.wrap (s + 1))))) (
             some (.cont (IntKind.i64.wrap (s + 1)))))))))))) (
     br (decide (a8.From < 0)) (
      some (.done (.inl ()))) (
      br (decide (a8.From ≥ 24)) (
       some (.done (.inl ()))) (
       br (decide (a8.To < 0)) (
        some (.done (.inl ()))) (
        br (decide (a8.To ≥ 24)) (
         some (.done (.inl ()))) (
         br (decide (a8.Weight < (-1000))) (
          some (.done (.inr (.inl ())))) (
          br (decide (a8.Weight > 1000)) (
           some (.done (.inr (.inl ())))) (
           br (a8.From != c2) (
            br (a8.To != c2) (
             some (.done (.inr (.inl ())))) (
             some (.cont (IntKind.i64.wrap (s + 1))))) (
            some (.cont (IntKind.i64.wrap (s + 1)))))))))))))) (
  some (.done (.inr (.inr ()))))
abbrev r7near.l0.enc (c2 : Int) (c3 : Int) (c4 : List Int) (c5 : List Edge) (c6 : List Named) (s : Int) : St := ⟨95, [(1, .ref 101 0 0 0), (3, .pv (.int .i64 s))], [(101, .varp [.int .i64 c2, .int .i64 c3, .sl (c4.map eInt), .sl (c5.map Edge.enc), .sl (c6.map Named.enc)])]⟩
abbrev r7near.l0.post (c2 : Int) (c3 : Int) (c4 : List Int) (c5 : List Edge) (c6 : List Named) (r : AV) (outs : List AObj) (q : Unit ⊕ Unit ⊕ Unit) : Prop := match q with | .inl q => WK Try.prog (60, 0) [.code (sub b60 [1, 0, 1, 0, 0, 1, 0, 0, 1, 0, 1, 0, 1]), .code (sub b60 [1, 0, 1, 0, 0, 1, 0, 0, 1, 1]), .inBlock 1, .code (sub b60 [1, 0, 1, 0, 0, 1, 1]), .inLoop (sub b60 [1, 0, 1, 0, 0]), .inBlock 0, .code (sub b60 [1, 1])] ⟨95, [(2, .pv (.bool false))], []⟩ r outs | .inr (.inl q) => WK Try.prog (60, 0) [.code (sub b60 [1, 0, 1, 0, 0, 1, 0, 0, 1, 1, 1, 0, 1]), .inBlock 1, .code (sub b60 [1, 0, 1, 0, 0, 1, 1]), .inLoop (sub b60 [1, 0, 1, 0, 0]), .inBlock 0, .code (sub b60 [1, 1])] ⟨95, [(2, .pv (.bool false))], []⟩ r outs | .inr (.inr q) => WK Try.prog (60, 0) [.code (sub b60 [1, 1, 0]), .code (sub b60 [1, 1, 1])] ⟨95, [(1, .ref 101 0 0 0)], [(101, .varp [.int .i64 c2, .int .i64 c3, .sl (c4.map eInt), .sl (c5.map Edge.enc), .sl (c6.map Named.enc)])]⟩ r outs
theorem r7near.l0.ok (c2 : Int) (c3 : Int) (c4 : List Int) (c5 : List Edge) (c6 : List Named) (r : AV) (outs : List AObj) (s : Int) (q : Unit ⊕ Unit ⊕ Unit) (h : loopN fuel (r7near.l0 c2 c3 c4 c5 c6) s = some q) (hd : r7near.l0.post c2 c3 c4 c5 c6 r outs q) :
  WK Try.prog (60, 0) [.inLoop (sub b60 [1, 0, 1, 0, 0]), .inBlock 0, .code (sub b60 [1, 1])] (r7near.l0.enc c2 c3 c4 c5 c6 s) r outs := by
 refine WK.loop (r7near.l0.enc c2 c3 c4 c5 c6) (r7near.l0 c2 c3 c4 c5 c6) (r7near.l0.post c2 c3 c4 c5 c6 r outs) ?_ fuel s q h hd
 intro s x hx hn
 unfold r7near.l0 at hx
 refine br_ok hx (fun h7 hx => ?_) (fun h7 hx => ?_)
 ·refine getR_ok hx fun a8 h9 h10 hx => ?_
  let Q11 : List Prop := [AV.pv (.int .i64 ((c5.map Edge.enc).length : Nat)) = .pv (.int .i64 (c5.length : Nat)), (decide (s < ((c5.length : Nat) : Int))) = true, 0 ≤ (s : Int), (c5.map Edge.enc)[(s : Int).toNat]? = some (Edge.enc a8), (Edge.enc a8).length = 6, 6 = 6]
  have k12 : All Q11 := ⟨lenOb, h7, h9, rowOb h10, rfl, rfl, trivial⟩
  refine br_ok hx (fun h13 hx => ?_) (fun h13 hx => ?_)
  ·obtain rfl := sI hx
   exact WK.run (an := [.lp, .reg [(3, none, .val (.pv (.int .i64 ((c5.length : Nat) : Int))))], .br true, .reg [(3, none, .row (Edge.enc a8)), (5, none, .nm 1007)], .draw [0, 1, 2, 3, 4, 5, 6, 7, 8, 9, 10, 11, 12, 13, 14, 15, 16, 17, 18, 19, 20, 21, 22, 23, 24, 25, 26, 27, 28, 29, 30, 31, 32, 33, 34, 35, 36, 37, 38, 39, 40, 41, 42, 43] [(4, some true, .no), (5, some true, .no), (6, some true, .no), (7, none, .bit true)], .bk, .reg []]) (kt := [2]) (ko := []) (ps := (Q11 ++ [(decide (a8.ID < 0)) = true, (decide (a8.ID < 0)) = true, (decide (a8.ID < 0)) = true, (decide (a8.ID < 0)) = true])) (by kernel_rfl) (All_append.2 ⟨k12, ⟨h13, h13, h13, h13, trivial⟩⟩) hn
  ·refine br_ok hx (fun h14 hx => ?_) (fun h14 hx => ?_)
   ·obtain rfl := sI hx
    exact WK.run (an := [.lp, .reg [(3, none, .val (.pv (.int .i64 ((c5.length : Nat) : Int))))], .br true, .reg [(3, none, .row (Edge.enc a8)), (5, none, .nm 1007)], .draw [0, 1, 2, 3, 4, 5, 6, 7, 8, 9, 10, 11, 12, 13, 14, 15, 16, 17, 18, 19, 20, 21, 22, 23, 24, 25, 26, 27, 28, 29, 30, 31, 32, 33, 34, 35, 36, 37, 38, 39, 40, 41, 42, 43] [(4, some false, .no), (5, some false, .no), (6, some false, .no), (7, none, .bit false), (9, some true, .no), (10, some true, .no), (11, some true, .no), (22, some true, .no), (23, none, .bit true)], .bk, .reg []]) (kt := [2]) (ko := []) (ps := (Q11 ++ [(decide (a8.ID < 0)) = false, (decide (a8.ID < 0)) = false, (decide (a8.ID < 0)) = false, (decide (a8.ID < 0)) = false, (decide (a8.ID ≥ 40)) = true, (decide (a8.ID ≥ 40)) = true, (decide (a8.ID ≥ 40)) = true, (decide (a8.ID ≥ 40)) = true, (decide (a8.ID ≥ 40)) = true])) (by kernel_rfl) (All_append.2 ⟨k12, ⟨h13, h13, h13, h13, h14, h14, h14, h14, h14, trivial⟩⟩) hn
   ·refine br_ok hx (fun h15 hx => ?_) (fun h15 hx => ?_)
    ·refine getR_ok hx fun a16 h17 h18 hx => ?_
     let B19 : Anns := [(4, some false, .no), (5, some false, .no), (6, some false, .no), (7, none, .bit false), (9, some false, .no), (10, some false, .no), (11, some false, .no), (12, some true, .no), (13, some true, .no), (14, some true, .no), (15, some true, .no), (16, some true, .no), (17, some true, .no), (18, some true, .row (Edge.enc a16)), (19, some true, .no), (20, some true, .no), (21, some true, .no), (22, some false, .bit true), (23, none, .bit false)]
     let Q20 : List Prop := (Q11 ++ [(decide (a8.ID < 0)) = false, (decide (a8.ID < 0)) = false, (decide (a8.ID < 0)) = false, (decide (a8.ID < 0)) = false, (decide (a8.ID ≥ 40)) = false, (decide (a8.ID ≥ 40)) = false, (decide (a8.ID ≥ 40)) = false, (decide (s > 0)) = true, (decide (s > 0)) = true, (decide (s > 0)) = true, (decide (s > 0)) = true, (decide (s > 0)) = true, (decide (s > 0)) = true, (decide (s > 0)) = true, 0 ≤ ((IntKind.i64.wrap (s - 1)) : Int), (c5.map Edge.enc)[((IntKind.i64.wrap (s - 1)) : Int).toNat]? = some (Edge.enc a16), (Edge.enc a16).length = 6, (decide (s > 0)) = true, (decide (s > 0)) = true, (decide (s > 0)) = true, (decide (a8.ID ≥ 40)) = false, (decide (s > 0)) = true, (decide (a8.ID ≥ 40)) = false])
     have k21 : All Q20 := (All_append.2 ⟨k12, ⟨h13, h13, h13, h13, h14, h14, h14, h15, h15, h15, h15, h15, h15, h15, h17, rowOb h18, rfl, h15, h15, h15, h14, h15, h14, trivial⟩⟩)
     refine br_ok hx (fun h22 hx => ?_) (fun h22 hx => ?_)
     ·obtain rfl := sI hx
      exact WK.run (an := [.lp, .reg [(3, none, .val (.pv (.int .i64 ((c5.length : Nat) : Int))))], .br true, .reg [(3, none, .row (Edge.enc a8)), (5, none, .nm 1007)], .draw [0, 1, 2, 3, 4, 5, 6, 7, 8, 9, 10, 11, 12, 13, 14, 15, 16, 17, 18, 19, 20, 21, 22, 23, 24, 25, 26, 27, 28, 29, 30, 31, 32, 33, 34, 35, 36, 37, 38, 39, 40, 41, 42, 43] (B19 ++ [(25, some true, .no), (26, some true, .no), (27, some true, .no), (28, none, .bit true)]), .bk, .reg []]) (kt := [2]) (ko := []) (ps := (Q20 ++ [(decide (a8.ID ≤ a16.ID)) = true, (decide (a8.ID ≤ a16.ID)) = true, (decide (a8.ID ≤ a16.ID)) = true, (decide (a8.ID ≤ a16.ID)) = true])) (by kernel_rfl) (All_append.2 ⟨k21, ⟨h22, h22, h22, h22, trivial⟩⟩) hn
     ·refine br_ok hx (fun h23 hx => ?_) (fun h23 hx => ?_)
      ·obtain rfl := sI hx
       exact WK.run (an := [.lp, .reg [(3, none, .val (.pv (.int .i64 ((c5.length : Nat) : Int))))], .br true, .reg [(3, none, .row (Edge.enc a8)), (5, none, .nm 1007)], .draw [0, 1, 2, 3, 4, 5, 6, 7, 8, 9, 10, 11, 12, 13, 14, 15, 16, 17, 18, 19, 20, 21, 22, 23, 24, 25, 26, 27, 28, 29, 30, 31, 32, 33, 34, 35, 36, 37, 38, 39, 40, 41, 42, 43] (B19 ++ [(25, some false, .no), (26, some false, .no), (27, some false, .no), (28, none, .bit false), (30, some true, .no), (31, some true, .no), (32, some true, .no), (33, none, .bit true)]), .bk, .reg []]) (kt := [2]) (ko := []) (ps := (Q20 ++ [(decide (a8.ID ≤ a16.ID)) = false, (decide (a8.ID ≤ a16.ID)) = false, (decide (a8.ID ≤ a16.ID)) = false, (decide (a8.ID ≤ a16.ID)) = false, (decide (a8.From < 0)) = true, (decide (a8.From < 0)) = true, (decide (a8.From < 0)) = true, (decide (a8.From < 0)) = true])) (by kernel_rfl) (All_append.2 ⟨k21, ⟨h22, h22, h22, h22, h23, h23, h23, h23, trivial⟩⟩) hn
      ·let Q24 : List Prop := (Q20 ++ [(decide (a8.ID ≤ a16.ID)) = false, (decide (a8.ID ≤ a16.ID)) = false, (decide (a8.ID ≤ a16.ID)) = false, (decide (a8.ID ≤ a16.ID)) = false, (decide (a8.From < 0)) = false, (decide (a8.From < 0)) = false, (decide (a8.From < 0)) = false, (decide (a8.From < 0)) = false])
       have k25 : All Q24 := (All_append.2 ⟨k21, ⟨h22, h22, h22, h22, h23, h23, h23, h23, trivial⟩⟩)
       refine br_ok hx (fun h26 hx => ?_) (fun h26 hx => ?_)
       ·obtain rfl := sI hx
        exact WK.run (an := [.lp, .reg [(3, none, .val (.pv (.int .i64 ((c5.length : Nat) : Int))))], .br true, .reg [(3, none, .row (Edge.enc a8)), (5, none, .nm 1007)], .draw [0, 1, 2, 3, 4, 5, 6, 7, 8, 9, 10, 11, 12, 13, 14, 15, 16, 17, 18, 19, 20, 21, 22, 23, 24, 25, 26, 27, 28, 29, 30, 31, 32, 33, 34, 35, 36, 37, 38, 39, 40, 41, 42, 43] (B19 ++ [(25, some false, .no), (26, some false, .no), (27, some false, .no), (28, none, .bit false), (30, some false, .no), (31, some false, .no), (32, some false, .no), (33, none, .bit false), (35, some true, .no), (36, some true, .no), (37, some true, .no), (38, none, .bit true)]), .bk, .reg []]) (kt := [2]) (ko := []) (ps := (Q24 ++ [(decide (a8.From ≥ 24)) = true, (decide (a8.From ≥ 24)) = true, (decide (a8.From ≥ 24)) = true, (decide (a8.From ≥ 24)) = true])) (by kernel_rfl) (All_append.2 ⟨k25, ⟨h26, h26, h26, h26, trivial⟩⟩) hn
       ·let B27 : Anns := (B19 ++ [(25, some false, .no), (26, some false, .no), (27, some false, .no), (28, none, .bit false), (30, some false, .no), (31, some false, .no), (32, some false, .no), (33, none, .bit false), (35, some false, .no), (36, some false, .no), (37, some false, .no), (38, none, .bit false)])
        refine br_ok hx (fun h28 hx => ?_) (fun h28 hx => ?_)
        ·obtain rfl := sI hx
         exact WK.run (an := [.lp, .reg [(3, none, .val (.pv (.int .i64 ((c5.length : Nat) : Int))))], .br true, .reg [(3, none, .row (Edge.enc a8)), (5, none, .nm 1007)], .draw [0, 1, 2, 3, 4, 5, 6, 7, 8, 9, 10, 11, 12, 13, 14, 15, 16, 17, 18, 19, 20, 21, 22, 23, 24, 25, 26, 27, 28, 29, 30, 31, 32, 33, 34, 35, 36, 37, 38, 39, 40, 41, 42, 43] (B27 ++ [(40, some true, .no), (41, some true, .no), (42, some true, .no), (43, none, .bit true)]), .bk, .reg []]) (kt := [2]) (ko := []) (ps := (Q24 ++ [(decide (a8.From ≥ 24)) = false, (decide (a8.From ≥ 24)) = false, (decide (a8.From ≥ 24)) = false, (decide (a8.From ≥ 24)) = false, (decide (a8.To < 0)) = true, (decide (a8.To < 0)) = true, (decide (a8.To < 0)) = true, (decide (a8.To < 0)) = true])) (by kernel_rfl) (All_append.2 ⟨k25, ⟨h26, h26, h26, h26, h28, h28, h28, h28, trivial⟩⟩) hn
        ·let A29 : List An := [.lp, .reg [(3, none, .val (.pv (.int .i64 ((c5.length : Nat) : Int))))], .br true, .reg [(3, none, .row (Edge.enc a8)), (5, none, .nm 1007)], .draw [0, 1, 2, 3, 4, 5, 6, 7, 8, 9, 10, 11, 12, 13, 14, 15, 16, 17, 18, 19, 20, 21, 22, 23, 24, 25, 26, 27, 28, 29, 30, 31, 32, 33, 34, 35, 36, 37, 38, 39, 40, 41, 42, 43] (B27 ++ [(40, some false, .no), (41, some false, .no), (42, some false, .no), (43, none, .bit false)])]
         let Q30 : List Prop := (Q24 ++ [(decide (a8.From ≥ 24)) = false, (decide (a8.From ≥ 24)) = false, (decide (a8.From ≥ 24)) = false, (decide (a8.From ≥ 24)) = false, (decide (a8.To < 0)) = false, (decide (a8.To < 0)) = false, (decide (a8.To < 0)) = false, (decide (a8.To < 0)) = false])
         have k31 : All Q30 := (All_append.2 ⟨k25, ⟨h26, h26, h26, h26, h28, h28, h28, h28, trivial⟩⟩)
         refine br_ok hx (fun h32 hx => ?_) (fun h32 hx => ?_)
         ·obtain rfl := sI hx
          exact WK.run (an := (A29 ++ [.br true, .reg []])) (kt := [2]) (ko := []) (ps := (Q30 ++ [(decide (a8.To ≥ 24)) = true])) (by kernel_rfl) (All_append.2 ⟨k31, ⟨h32, trivial⟩⟩) hn
         ·refine br_ok hx (fun h33 hx => ?_) (fun h33 hx => ?_)
          ·obtain rfl := sI hx
           exact WK.run (an := (A29 ++ [.br false, .reg [(4, some true, .no)], .bk, .reg []])) (kt := [2]) (ko := []) (ps := (Q30 ++ [(decide (a8.To ≥ 24)) = false, (decide (a8.Weight < (-1000))) = true])) (by kernel_rfl) (All_append.2 ⟨k31, ⟨h32, h33, trivial⟩⟩) hn
          ·refine br_ok hx (fun h34 hx => ?_) (fun h34 hx => ?_)
           ·obtain rfl := sI hx
            exact WK.run (an := (A29 ++ [.br false, .reg [(4, some false, .no), (9, some true, .no)], .bk, .reg []])) (kt := [2]) (ko := []) (ps := (Q30 ++ [(decide (a8.To ≥ 24)) = false, (decide (a8.Weight < (-1000))) = false, (decide (a8.Weight > 1000)) = true])) (by kernel_rfl) (All_append.2 ⟨k31, ⟨h32, h33, h34, trivial⟩⟩) hn
           ·refine br_ok hx (fun h35 hx => ?_) (fun h35 hx => ?_)
            ·refine br_ok hx (fun h36 hx => ?_) (fun h36 hx => ?_)
             ·obtain rfl := sI hx
              exact WK.run (an := (A29 ++ [.br false, .reg [(4, some false, .no), (9, some false, .no), (16, some true, .no)], .br true, .reg []])) (kt := [2]) (ko := []) (ps := (Q30 ++ [(decide (a8.To ≥ 24)) = false, (decide (a8.Weight < (-1000))) = false, (decide (a8.Weight > 1000)) = false, (a8.From != c2) = true, (a8.To != c2) = true])) (by kernel_rfl) (All_append.2 ⟨k31, ⟨h32, h33, h34, h35, h36, trivial⟩⟩) hn
             ·obtain rfl := sI hx
              exact WK.run (an := (A29 ++ [.br false, .reg [(4, some false, .no), (9, some false, .no), (16, some true, .no)], .br false, .reg []])) (kt := [1, 3]) (ko := [(101, 101)]) (ps := (Q30 ++ [(decide (a8.To ≥ 24)) = false, (decide (a8.Weight < (-1000))) = false, (decide (a8.Weight > 1000)) = false, (a8.From != c2) = true, (a8.To != c2) = false])) (by kernel_rfl) (All_append.2 ⟨k31, ⟨h32, h33, h34, h35, h36, trivial⟩⟩) hn
            ·obtain rfl := sI hx
             exact WK.run (an := (A29 ++ [.br false, .reg [(4, some false, .no), (9, some false, .no), (16, some false, .no)], .bk, .reg []])) (kt := [1, 3]) (ko := [(101, 101)]) (ps := (Q30 ++ [(decide (a8.To ≥ 24)) = false, (decide (a8.Weight < (-1000))) = false, (decide (a8.Weight > 1000)) = false, (a8.From != c2) = false])) (by kernel_rfl) (All_append.2 ⟨k31, ⟨h32, h33, h34, h35, trivial⟩⟩) hn
    ·let B37 : Anns := [(4, some false, .no), (5, some false, .no), (6, some false, .no), (7, none, .bit false), (9, some false, .no), (10, some false, .no), (11, some false, .no), (12, some false, .no), (13, some false, .no), (14, some false, .no), (15, some false, .no), (16, some false, .no), (17, some false, .no), (18, some false, .no), (19, some false, .no), (20, some false, .no), (21, some false, .no), (22, some false, .bit false), (23, none, .bit false)]
     let Q38 : List Prop := (Q11 ++ [(decide (a8.ID < 0)) = false, (decide (a8.ID < 0)) = false, (decide (a8.ID < 0)) = false, (decide (a8.ID < 0)) = false, (decide (a8.ID ≥ 40)) = false, (decide (a8.ID ≥ 40)) = false, (decide (a8.ID ≥ 40)) = false, (decide (s > 0)) = false, (decide (s > 0)) = false, (decide (s > 0)) = false, (decide (s > 0)) = false, (decide (s > 0)) = false, (decide (s > 0)) = false, (decide (s > 0)) = false, (decide (s > 0)) = false, (decide (s > 0)) = false, (decide (s > 0)) = false, (decide (a8.ID ≥ 40)) = false, (decide (s > 0)) = false, (decide (a8.ID ≥ 40)) = false])
     have k39 : All Q38 := (All_append.2 ⟨k12, ⟨h13, h13, h13, h13, h14, h14, h14, h15, h15, h15, h15, h15, h15, h15, h15, h15, h15, h14, h15, h14, trivial⟩⟩)
     refine br_ok hx (fun h40 hx => ?_) (fun h40 hx => ?_)
     ·obtain rfl := sI hx
      exact WK.run (an := [.lp, .reg [(3, none, .val (.pv (.int .i64 ((c5.length : Nat) : Int))))], .br true, .reg [(3, none, .row (Edge.enc a8)), (5, none, .nm 1007)], .draw [0, 1, 2, 3, 4, 5, 6, 7, 8, 9, 10, 11, 12, 13, 14, 15, 16, 17, 18, 19, 20, 21, 22, 23, 24, 25, 26, 27, 28, 29, 30, 31, 32, 33, 34, 35, 36, 37, 38, 39, 40, 41, 42, 43] (B37 ++ [(30, some true, .no), (31, some true, .no), (32, some true, .no), (33, none, .bit true)]), .bk, .reg []]) (kt := [2]) (ko := []) (ps := (Q38 ++ [(decide (a8.From < 0)) = true, (decide (a8.From < 0)) = true, (decide (a8.From < 0)) = true, (decide (a8.From < 0)) = true])) (by kernel_rfl) (All_append.2 ⟨k39, ⟨h40, h40, h40, h40, trivial⟩⟩) hn
     ·refine br_ok hx (fun h41 hx => ?_) (fun h41 hx => ?_)
      ·obtain rfl := sI hx
       exact WK.run (an := [.lp, .reg [(3, none, .val (.pv (.int .i64 ((c5.length : Nat) : Int))))], .br true, .reg [(3, none, .row (Edge.enc a8)), (5, none, .nm 1007)], .draw [0, 1, 2, 3, 4, 5, 6, 7, 8, 9, 10, 11, 12, 13, 14, 15, 16, 17, 18, 19, 20, 21, 22, 23, 24, 25, 26, 27, 28, 29, 30, 31, 32, 33, 34, 35, 36, 37, 38, 39, 40, 41, 42, 43] (B37 ++ [(30, some false, .no), (31, some false, .no), (32, some false, .no), (33, none, .bit false), (35, some true, .no), (36, some true, .no), (37, some true, .no), (38, none, .bit true)]), .bk, .reg []]) (kt := [2]) (ko := []) (ps := (Q38 ++ [(decide (a8.From < 0)) = false, (decide (a8.From < 0)) = false, (decide (a8.From < 0)) = false, (decide (a8.From < 0)) = false, (decide (a8.From ≥ 24)) = true, (decide (a8.From ≥ 24)) = true, (decide (a8.From ≥ 24)) = true, (decide (a8.From ≥ 24)) = true])) (by kernel_rfl) (All_append.2 ⟨k39, ⟨h40, h40, h40, h40, h41, h41, h41, h41, trivial⟩⟩) hn
      ·let Q42 : List Prop := (Q38 ++ [(decide (a8.From < 0)) = false, (decide (a8.From < 0)) = false, (decide (a8.From < 0)) = false, (decide (a8.From < 0)) = false, (decide (a8.From ≥ 24)) = false, (decide (a8.From ≥ 24)) = false, (decide (a8.From ≥ 24)) = false, (decide (a8.From ≥ 24)) = false])
       have k43 : All Q42 := (All_append.2 ⟨k39, ⟨h40, h40, h40, h40, h41, h41, h41, h41, trivial⟩⟩)
       refine br_ok hx (fun h44 hx => ?_) (fun h44 hx => ?_)
       ·obtain rfl := sI hx
        exact WK.run (an := [.lp, .reg [(3, none, .val (.pv (.int .i64 ((c5.length : Nat) : Int))))], .br true, .reg [(3, none, .row (Edge.enc a8)), (5, none, .nm 1007)], .draw [0, 1, 2, 3, 4, 5, 6, 7, 8, 9, 10, 11, 12, 13, 14, 15, 16, 17, 18, 19, 20, 21, 22, 23, 24, 25, 26, 27, 28, 29, 30, 31, 32, 33, 34, 35, 36, 37, 38, 39, 40, 41, 42, 43] (B37 ++ [(30, some false, .no), (31, some false, .no), (32, some false, .no), (33, none, .bit false), (35, some false, .no), (36, some false, .no), (37, some false, .no), (38, none, .bit false), (40, some true, .no), (41, some true, .no), (42, some true, .no), (43, none, .bit true)]), .bk, .reg []]) (kt := [2]) (ko := []) (ps := (Q42 ++ [(decide (a8.To < 0)) = true, (decide (a8.To < 0)) = true, (decide (a8.To < 0)) = true, (decide (a8.To < 0)) = true])) (by kernel_rfl) (All_append.2 ⟨k43, ⟨h44, h44, h44, h44, trivial⟩⟩) hn
       ·refine WK.run (an := [.lp, .reg [(3, none, .val (.pv (.int .i64 ((c5.length : Nat) : Int))))], .br true, .reg [(3, none, .row (Edge.enc a8)), (5, none, .nm 1007)], .draw [0, 1, 2, 3, 4, 5, 6, 7, 8, 9, 10, 11, 12, 13, 14, 15, 16, 17, 18, 19, 20, 21, 22, 23, 24, 25, 26, 27, 28, 29, 30, 31, 32, 33, 34, 35, 36, 37, 38, 39, 40, 41, 42, 43] (B37 ++ [(30, some false, .no), (31, some false, .no), (32, some false, .no), (33, none, .bit false), (35, some false, .no), (36, some false, .no), (37, some false, .no), (38, none, .bit false), (40, some false, .no), (41, some false, .no), (42, some false, .no), (43, none, .bit false)])]) (kt := [1, 3, 4, 60]) (ko := [(101, 101), (1007, 103)]) (k' := [.code (sub b60 [1, 0, 1, 0, 0, 1, 0, 0, 1, 0, 1]), .code (sub b60 [1, 0, 1, 0, 0, 1, 0, 0, 1, 1]), .inBlock 1, .code (sub b60 [1, 0, 1, 0, 0, 1, 1]), .inLoop (sub b60 [1, 0, 1, 0, 0]), .inBlock 0, .code (sub b60 [1, 1])]) (σ' := ⟨95, [(1, .ref 101 0 0 0), (3, .pv (.int .i64 s)), (4, .ref 103 0 0 0), (60, .pv (.bool (decide (a8.To ≥ 24))))], [(101, .varp [.int .i64 c2, .int .i64 c3, .sl (c4.map eInt), .sl (c5.map Edge.enc), .sl (c6.map Named.enc)]), (103, .varp [.int .i64 a8.ID, .int .i64 a8.From, .int .i64 a8.To, .bool a8.Directed, .int .i64 a8.Weight, .int .i64 a8.Cap])]⟩) (ps := (Q42 ++ [(decide (a8.To < 0)) = false, (decide (a8.To < 0)) = false, (decide (a8.To < 0)) = false, (decide (a8.To < 0)) = false]))
         (by kernel_rfl) (All_append.2 ⟨k43, ⟨h44, h44, h44, h44, trivial⟩⟩) ?_
        refine br_ok hx (fun h45 hx => ?_) (fun h45 hx => ?_)
        ·obtain rfl := sI hx
         exact WK.run (an := [.br true, .reg []]) (kt := [2]) (ko := []) (ps := [(decide (a8.To ≥ 24)) = true]) (by kernel_rfl) ⟨h45, trivial⟩ hn
        ·refine br_ok hx (fun h46 hx => ?_) (fun h46 hx => ?_)
         ·obtain rfl := sI hx
          exact WK.run (an := [.br false, .reg [(4, some true, .no)], .bk, .reg []]) (kt := [2]) (ko := []) (ps := [(decide (a8.To ≥ 24)) = false, (decide (a8.Weight < (-1000))) = true]) (by kernel_rfl) ⟨h45, h46, trivial⟩ hn
         ·refine br_ok hx (fun h47 hx => ?_) (fun h47 hx => ?_)
          ·obtain rfl := sI hx
           exact WK.run (an := [.br false, .reg [(4, some false, .no), (9, some true, .no)], .bk, .reg []]) (kt := [2]) (ko := []) (ps := [(decide (a8.To ≥ 24)) = false, (decide (a8.Weight < (-1000))) = false, (decide (a8.Weight > 1000)) = true]) (by kernel_rfl) ⟨h45, h46, h47, trivial⟩ hn
          ·refine br_ok hx (fun h48 hx => ?_) (fun h48 hx => ?_)
           ·refine br_ok hx (fun h49 hx => ?_) (fun h49 hx => ?_)
            ·obtain rfl := sI hx
             exact WK.run (an := [.br false, .reg [(4, some false, .no), (9, some false, .no), (16, some true, .no)], .br true, .reg []]) (kt := [2]) (ko := []) (ps := [(decide (a8.To ≥ 24)) = false, (decide (a8.Weight < (-1000))) = false, (decide (a8.Weight > 1000)) = false, (a8.From != c2) = true, (a8.To != c2) = true]) (by kernel_rfl) ⟨h45, h46, h47, h48, h49, trivial⟩ hn
            ·obtain rfl := sI hx
             exact WK.run (an := [.br false, .reg [(4, some false, .no), (9, some false, .no), (16, some true, .no)], .br false, .reg []]) (kt := [1, 3]) (ko := [(101, 101)]) (ps := [(decide (a8.To ≥ 24)) = false, (decide (a8.Weight < (-1000))) = false, (decide (a8.Weight > 1000)) = false, (a8.From != c2) = true, (a8.To != c2) = false]) (by kernel_rfl) ⟨h45, h46, h47, h48, h49, trivial⟩ hn
           ·obtain rfl := sI hx
            exact WK.run (an := [.br false, .reg [(4, some false, .no), (9, some false, .no), (16, some false, .no)], .bk, .reg []]) (kt := [1, 3]) (ko := [(101, 101)]) (ps := [(decide (a8.To ≥ 24)) = false, (decide (a8.Weight < (-1000))) = false, (decide (a8.Weight > 1000)) = false, (a8.From != c2) = false]) (by kernel_rfl) ⟨h45, h46, h47, h48, trivial⟩ hn
 ·obtain rfl := sI hx
  exact WK.run (an := [.lp, .reg [(3, none, .val (.pv (.int .i64 ((c5.length : Nat) : Int))))], .br false]) (kt := [1]) (ko := [(101, 101)]) (ps := [AV.pv (.int .i64 ((c5.map Edge.enc).length : Nat)) = .pv (.int .i64 (c5.length : Nat)), (decide (s < ((c5.length : Nat) : Int))) = false]) (by kernel_rfl) ⟨lenOb, h7, trivial⟩ hn
noncomputable def r7near (v1 : View) : Option Bool :=
 bd (loopN fuel (r7near.l0 v1.Vertex.ID v1.Vertex.Side v1.Depots v1.Edges v1.Labels) 0) fun q50 =>
 match q50 with
 | .inl q50 =>
  some false
 | .inr (.inl q50) =>
  some false
 | .inr (.inr q50) =>
  br (decide (v1.Vertex.ID ≥ 0)) (
   some (decide (v1.Vertex.ID < 24))) (
   some false)
theorem r7near.ok (v1 : View) {x : Bool} (hx : r7near v1 = some x) :
  Spec Try.prog 60 [.aggp [.int .i64 v1.Vertex.ID, .int .i64 v1.Vertex.Side, .sl (v1.Depots.map eInt), .sl (v1.Edges.map Edge.enc), .sl (v1.Labels.map Named.enc)]] [] (.pv (.bool x)) [] := by
 refine Spec.of (c := b60) Try.func60 rfl rfl rfl ?_
 unfold r7near at hx
 refine bd_ok hx fun q50 e51 hx => ?_
 refine WK.run (an := [.reg [(0, none, .nm 1003)], .reg []]) (kt := [1, 3]) (ko := [(1003, 101)]) (ps := []) (by kernel_rfl) trivial (WK.enterLoop (r7near.l0.ok v1.Vertex.ID v1.Vertex.Side v1.Depots v1.Edges v1.Labels _ _ _ _ e51 ?_))
 rcases q50 with (q50 | (q50 | q50))
 ·obtain rfl := sI hx
  exact WK.fin (fn := Try.f60) Try.func60 (an := []) (kt := [2]) (ko := []) (frz := []) (ps := []) (qs := []) (by kernel_rfl) trivial trivial
 ·obtain rfl := sI hx
  exact WK.fin (fn := Try.f60) Try.func60 (an := []) (kt := [2]) (ko := []) (frz := []) (ps := []) (qs := []) (by kernel_rfl) trivial trivial
 ·refine br_ok hx (fun h52 hx => ?_) (fun h52 hx => ?_)
  ·obtain rfl := sI hx
   exact WK.fin (fn := Try.f60) Try.func60 (an := [.reg [(5, some true, .no)]]) (kt := [2]) (ko := []) (frz := []) (ps := [(decide (v1.Vertex.ID ≥ 0)) = true]) (qs := []) (by kernel_rfl) ⟨h52, trivial⟩ trivial
  ·obtain rfl := sI hx
   exact WK.fin (fn := Try.f60) Try.func60 (an := [.reg [(5, some false, .no)]]) (kt := [2]) (ko := []) (frz := []) (ps := [(decide (v1.Vertex.ID ≥ 0)) = false]) (qs := []) (by kernel_rfl) ⟨h52, trivial⟩ trivial
noncomputable abbrev b30 : Code := body Try.f30
noncomputable def r7Good.l0 (c41 : Int) (c42 : List Int) (c43 : Int) (c44 : Int) (c45 : List Int) (c46 : List Edge) (c47 : List Named) (s : Int × Int) : Option (Nx (Int × Int) (Unit ⊕ Int)) :=
 br (decide (s.2 ≥ 0)) (
  getR c46 s.2 fun a49 =>
  bd (r3Other a49 c41) fun y52 =>
  bd (r7Find c47 y52 3) fun y54 =>
  br (((y54.length : Nat) : Int) == 0) (
   some (.done (.inl ()))) (
   getR y54 0 fun a59 =>
   getR c42 0 fun a62 =>
   br (a59 != a62) (
    some (.done (.inl ()))) (
    getR y54 1 fun a68 =>
    getR c42 1 fun a71 =>
    br (decide (a68 < (IntKind.i64.wrap (a71 - 1)))) (
     some (.done (.inl ()))) (
     getR y54 1 fun a75 =>
     getR c42 1 fun a78 =>
     br (a75 == (IntKind.i64.wrap (a78 - 1))) (
      getR c46 s.2 fun a84 =>
      some (.cont (a84.ID, (IntKind.i64.wrap (s.2 - 1))))) (
      some (.cont (s.1, (IntKind.i64.wrap (s.2 - 1))))))))) (
  some (.done (.inr s.1)))
abbrev r7Good.l0.enc (c41 : Int) (c42 : List Int) (c43 : Int) (c44 : Int) (c45 : List Int) (c46 : List Edge) (c47 : List Named) (s : Int × Int) : St := ⟨135, [(1, .ref 101 0 0 0), (3, .pv (.int .i64 c41)), (4, .pv (.sl (c42.map eInt))), (5, .pv (.int .i64 s.1)), (6, .pv (.int .i64 s.2))], [(101, .varp [.int .i64 c43, .int .i64 c44, .sl (c45.map eInt), .sl (c46.map Edge.enc), .sl (c47.map Named.enc)])]⟩
abbrev r7Good.l0.post (c41 : Int) (c42 : List Int) (c43 : Int) (c44 : Int) (c45 : List Int) (c46 : List Edge) (c47 : List Named) (r : AV) (outs : List AObj) (q : Unit ⊕ Int) : Prop := match q with | .inl q => WK Try.prog (30, 0) [.code (sub b30 [1, 1, 1, 1, 1, 1, 0, 1, 0, 0, 1, 0, 0, 1, 1, 0, 1, 0, 1]), .code (sub b30 [1, 1, 1, 1, 1, 1, 0, 1, 0, 0, 1, 0, 0, 1, 1, 1]), .inBlock 1, .code (sub b30 [1, 1, 1, 1, 1, 1, 0, 1, 0, 0, 1, 1]), .inLoop (sub b30 [1, 1, 1, 1, 1, 1, 0, 1, 0, 0]), .inBlock 0, .code (sub b30 [1, 1, 1, 1, 1, 1, 1])] ⟨135, [(2, .pv (.bool false))], []⟩ r outs | .inr q => WK Try.prog (30, 0) [.code (sub b30 [1, 1, 1, 1, 1, 1, 1, 0]), .code (sub b30 [1, 1, 1, 1, 1, 1, 1, 1])] ⟨135, [(4, .pv (.sl (c42.map eInt))), (5, .pv (.int .i64 q))], []⟩ r outs
theorem r7Good.l0.ok (c41 : Int) (c42 : List Int) (c43 : Int) (c44 : Int) (c45 : List Int) (c46 : List Edge) (c47 : List Named) (r : AV) (outs : List AObj) (s : Int × Int) (q : Unit ⊕ Int) (h : loopN fuel (r7Good.l0 c41 c42 c43 c44 c45 c46 c47) s = some q) (hd : r7Good.l0.post c41 c42 c43 c44 c45 c46 c47 r outs q) :
  WK Try.prog (30, 0) [.inLoop (sub b30 [1, 1, 1, 1, 1, 1, 0, 1, 0, 0]), .inBlock 0, .code (sub b30 [1, 1, 1, 1, 1, 1, 1])] (r7Good.l0.enc c41 c42 c43 c44 c45 c46 c47 s) r outs := by
 refine WK.loop (r7Good.l0.enc c41 c42 c43 c44 c45 c46 c47) (r7Good.l0 c41 c42 c43 c44 c45 c46 c47) (r7Good.l0.post c41 c42 c43 c44 c45 c46 c47 r outs) ?_ fuel s q h hd
 intro s x hx hn
 unfold r7Good.l0 at hx
 refine br_ok hx (fun h48 hx => ?_) (fun h48 hx => ?_)
 ·refine getR_ok hx fun a49 h50 h51 hx => ?_
  refine bd_ok hx fun y52 e53 hx => ?_
  refine bd_ok hx fun y54 e55 hx => ?_
  let Q56 : List Prop := [(decide (s.2 ≥ 0)) = true, 0 ≤ (s.2 : Int), (c46.map Edge.enc)[(s.2 : Int).toNat]? = some (Edge.enc a49), (Edge.enc a49).length = 6, Spec Try.prog 44 [.aggp [.int .i64 a49.ID, .int .i64 a49.From, .int .i64 a49.To, .bool a49.Directed, .int .i64 a49.Weight, .int .i64 a49.Cap], .pv (.int .i64 c41)] [] (.pv (.int .i64 y52)) [], Spec Try.prog 59 [.pv (.sl (c47.map Named.enc)), .pv (.int .i64 y52), .pv (.int .i64 3)] [] (.pv (.sl (y54.map eInt))) [], AV.pv (.int .i64 ((y54.map eInt).length : Nat)) = .pv (.int .i64 (y54.length : Nat))]
  have k57 : All Q56 := ⟨h48, h50, rowOb h51, rfl, r3Other.ok a49 c41 e53, r7Find.ok c47 y52 3 e55, lenOb, trivial⟩
  refine br_ok hx (fun h58 hx => ?_) (fun h58 hx => ?_)
  ·obtain rfl := sI hx
   exact WK.run (an := [.lp, .reg [], .br true, .reg [(3, none, .row (Edge.enc a49)), (6, none, .call [] [] (.pv (.int .i64 y52)) [] [])], .reg [(3, none, .call [] [] (.pv (.sl (y54.map eInt))) [] [])], .draw [0, 1, 2, 3, 4, 5, 6, 7, 8, 9, 10, 11, 12, 13, 14, 15, 16, 17, 18, 19, 20, 21] [(1, none, .val (.pv (.int .i64 ((y54.length : Nat) : Int)))), (4, some true, .no), (5, some true, .no), (6, some true, .no), (7, some true, .no), (8, some true, .no), (9, some true, .no), (10, some true, .no), (11, none, .bit true)], .bk, .reg []]) (kt := [2]) (ko := []) (ps := (Q56 ++ [(((y54.length : Nat) : Int) == 0) = true, (((y54.length : Nat) : Int) == 0) = true, (((y54.length : Nat) : Int) == 0) = true, (((y54.length : Nat) : Int) == 0) = true, (((y54.length : Nat) : Int) == 0) = true, (((y54.length : Nat) : Int) == 0) = true, (((y54.length : Nat) : Int) == 0) = true, (((y54.length : Nat) : Int) == 0) = true])) (by kernel_rfl) (All_append.2 ⟨k57, ⟨h58, h58, h58, h58, h58, h58, h58, h58, trivial⟩⟩) hn
  ·refine getR_ok hx fun a59 h60 h61 hx => ?_
   refine getR_ok hx fun a62 h63 h64 hx => ?_
   let Q65 : List Prop := (Q56 ++ [(((y54.length : Nat) : Int) == 0) = false, (((y54.length : Nat) : Int) == 0) = false, 0 ≤ (0 : Int), (y54.map eInt)[(0 : Int).toNat]? = some (eInt a59), (eInt a59).length = 1, (((y54.length : Nat) : Int) == 0) = false, (((y54.length : Nat) : Int) == 0) = false, (((y54.length : Nat) : Int) == 0) = false, 0 ≤ (0 : Int), (c42.map eInt)[(0 : Int).toNat]? = some (eInt a62), (eInt a62).length = 1, (((y54.length : Nat) : Int) == 0) = false, (((y54.length : Nat) : Int) == 0) = false, (((y54.length : Nat) : Int) == 0) = false])
   have k66 : All Q65 := (All_append.2 ⟨k57, ⟨h58, h58, h60, rowOb h61, rfl, h58, h58, h58, h63, rowOb h64, rfl, h58, h58, h58, trivial⟩⟩)
   refine br_ok hx (fun h67 hx => ?_) (fun h67 hx => ?_)
   ·obtain rfl := sI hx
    exact WK.run (an := [.lp, .reg [], .br true, .reg [(3, none, .row (Edge.enc a49)), (6, none, .call [] [] (.pv (.int .i64 y52)) [] [])], .reg [(3, none, .call [] [] (.pv (.sl (y54.map eInt))) [] [])], .draw [0, 1, 2, 3, 4, 5, 6, 7, 8, 9, 10, 11, 12, 13, 14, 15, 16, 17, 18, 19, 20, 21] [(1, none, .val (.pv (.int .i64 ((y54.length : Nat) : Int)))), (4, some false, .no), (5, some false, .row (eInt a59)), (6, some false, .no), (7, some false, .no), (8, some false, .row (eInt a62)), (9, some false, .no), (10, some false, .no), (11, none, .bit false), (13, some true, .no), (14, some true, .no), (15, some true, .no), (16, some true, .no), (17, some true, .no), (18, some true, .no), (19, some true, .no), (20, some true, .no), (21, none, .bit true)], .bk, .reg []]) (kt := [2]) (ko := []) (ps := (Q65 ++ [(a59 != a62) = true, (a59 != a62) = true, (a59 != a62) = true, (a59 != a62) = true, (a59 != a62) = true, (a59 != a62) = true, (a59 != a62) = true, (a59 != a62) = true, (a59 != a62) = true])) (by kernel_rfl) (All_append.2 ⟨k66, ⟨h67, h67, h67, h67, h67, h67, h67, h67, h67, trivial⟩⟩) hn
   ·refine getR_ok hx fun a68 h69 h70 hx => ?_
    refine getR_ok hx fun a71 h72 h73 hx => ?_
    refine WK.run (an := [.lp, .reg [], .br true, .reg [(3, none, .row (Edge.enc a49)), (6, none, .call [] [] (.pv (.int .i64 y52)) [] [])], .reg [(3, none, .call [] [] (.pv (.sl (y54.map eInt))) [] [])], .draw [0, 1, 2, 3, 4, 5, 6, 7, 8, 9, 10, 11, 12, 13, 14, 15, 16, 17, 18, 19, 20, 21] [(1, none, .val (.pv (.int .i64 ((y54.length : Nat) : Int)))), (4, some false, .no), (5, some false, .row (eInt a59)), (6, some false, .no), (7, some false, .no), (8, some false, .row (eInt a62)), (9, some false, .no), (10, some false, .no), (11, none, .bit false), (13, some false, .no), (14, some false, .row (eInt a68)), (15, some false, .no), (16, some false, .no), (17, some false, .row (eInt a71)), (18, some false, .no), (19, some false, .no), (20, some false, .no), (21, none, .bit false)]]) (kt := [1, 3, 4, 5, 6, 8, 105]) (ko := [(101, 101)]) (k' := [.code (sub b30 [1, 1, 1, 1, 1, 1, 0, 1, 0, 0, 1, 0, 0, 1, 1, 0, 1]), .code (sub b30 [1, 1, 1, 1, 1, 1, 0, 1, 0, 0, 1, 0, 0, 1, 1, 1]), .inBlock 1, .code (sub b30 [1, 1, 1, 1, 1, 1, 0, 1, 0, 0, 1, 1]), .inLoop (sub b30 [1, 1, 1, 1, 1, 1, 0, 1, 0, 0]), .inBlock 0, .code (sub b30 [1, 1, 1, 1, 1, 1, 1])]) (σ' := ⟨135, [(1, .ref 101 0 0 0), (3, .pv (.int .i64 c41)), (4, .pv (.sl (c42.map eInt))), (5, .pv (.int .i64 s.1)), (6, .pv (.int .i64 s.2)), (8, .pv (.sl (y54.map eInt))), (105, .pv (.bool (decide (a68 < (IntKind.i64.wrap (a71 - 1))))))], [(101, .varp [.int .i64 c43, .int .i64 c44, .sl (c45.map eInt), .sl (c46.map Edge.enc), .sl (c47.map Named.enc)])]⟩) (ps := (Q65 ++ [(a59 != a62) = false, (a59 != a62) = false, 0 ≤ (1 : Int), (y54.map eInt)[(1 : Int).toNat]? = some (eInt a68), (eInt a68).length = 1, (a59 != a62) = false, (a59 != a62) = false, (a59 != a62) = false, 0 ≤ (1 : Int), (c42.map eInt)[(1 : Int).toNat]? = some (eInt a71), (eInt a71).length = 1, (a59 != a62) = false, (a59 != a62) = false, (a59 != a62) = false, (a59 != a62) = false]))
     (by kernel_rfl) (All_append.2 ⟨k66, ⟨h67, h67, h69, rowOb h70, rfl, h67, h67, h67, h72, rowOb h73, rfl, h67, h67, h67, h67, trivial⟩⟩) ?_
    refine br_ok hx (fun h74 hx => ?_) (fun h74 hx => ?_)
    ·obtain rfl := sI hx
     exact WK.run (an := [.br true, .reg []]) (kt := [2]) (ko := []) (ps := [(decide (a68 < (IntKind.i64.wrap (a71 - 1)))) = true]) (by kernel_rfl) ⟨h74, trivial⟩ hn
    ·refine getR_ok hx fun a75 h76 h77 hx => ?_
     refine getR_ok hx fun a78 h79 h80 hx => ?_
     let Q81 : List Prop := [(decide (a68 < (IntKind.i64.wrap (a71 - 1)))) = false, 0 ≤ (1 : Int), (y54.map eInt)[(1 : Int).toNat]? = some (eInt a75), (eInt a75).length = 1, 0 ≤ (1 : Int), (c42.map eInt)[(1 : Int).toNat]? = some (eInt a78), (eInt a78).length = 1]
     have k82 : All Q81 := ⟨h74, h76, rowOb h77, rfl, h79, rowOb h80, rfl, trivial⟩
     refine br_ok hx (fun h83 hx => ?_) (fun h83 hx => ?_)
     ·refine getR_ok hx fun a84 h85 h86 hx => ?_
      obtain rfl := sI hx
      exact WK.run (an := [.br false, .draw [0, 1, 2, 3, 4, 5, 6, 7] [(1, none, .row (eInt a75)), (4, none, .row (eInt a78))], .br true, .reg [(3, none, .row (Edge.enc a84))], .reg []]) (kt := [1, 3, 4, 5, 6]) (ko := [(101, 101)]) (ps := (Q81 ++ [(a75 == (IntKind.i64.wrap (a78 - 1))) = true, 0 ≤ (s.2 : Int), (c46.map Edge.enc)[(s.2 : Int).toNat]? = some (Edge.enc a84), (Edge.enc a84).length = 6])) (by kernel_rfl) (All_append.2 ⟨k82, ⟨h83, h85, rowOb h86, rfl, trivial⟩⟩) hn
     ·obtain rfl := sI hx
      exact WK.run (an := [.br false, .draw [0, 1, 2, 3, 4, 5, 6, 7] [(1, none, .row (eInt a75)), (4, none, .row (eInt a78))], .br false, .reg []]) (kt := [1, 3, 4, 5, 6]) (ko := [(101, 101)]) (ps := (Q81 ++ [(a75 == (IntKind.i64.wrap (a78 - 1))) = false])) (by kernel_rfl) (All_append.2 ⟨k82, ⟨h83, trivial⟩⟩) hn
 ·obtain rfl := sI hx
  exact WK.run (an := [.lp, .reg [], .br false]) (kt := [4, 5]) (ko := []) (ps := [(decide (s.2 ≥ 0)) = false]) (by kernel_rfl) ⟨h48, trivial⟩ hn
noncomputable def r7Good (v1 : View) : Option Bool :=
 bd (r7Find v1.Labels v1.Vertex.ID 3) fun y2 =>
 bd (r7near v1) fun y4 =>
 br (!y4) (
  some false) (
  br (((y2.length : Nat) : Int) == 0) (
   some false) (
   getR y2 0 fun a10 =>
   br (decide (a10 > v1.Vertex.ID)) (
    some false) (
    getR y2 0 fun a14 =>
    br (decide (a14 < 0)) (
     some false) (
     getR y2 1 fun a20 =>
     br (decide (a20 < 0)) (
      some false) (
      getR y2 1 fun a24 =>
      getR y2 0 fun a27 =>
      br (!((a24 == 0) == (a27 == v1.Vertex.ID))) (
       some false) (
       getR y2 1 fun a31 =>
       br (a31 == 0) (
        getR y2 2 fun a37 =>
        br (a37 != (-1)) (
         some false) (
         bd (loopN fuel (r7Good.l0 v1.Vertex.ID y2 v1.Vertex.ID v1.Vertex.Side v1.Depots v1.Edges v1.Labels) ((-1), (IntKind.i64.wrap (((v1.Edges.length : Nat) : Int) - 1)))) fun q87 =>
         match q87 with
         | .inl q87 =>
          some false
         | .inr q87 =>
          getR y2 1 fun a89 =>
          br (a89 == 0) (
           some true) (
           br (decide (q87 ≥ 0)) (
            getR y2 2 fun a94 =>
            some (a94 == q87)) (
            some false)))) (
        bd (loopN fuel (r7Good.l0 v1.Vertex.ID y2 v1.Vertex.ID v1.Vertex.Side v1.Depots v1.Edges v1.Labels) ((-1), (IntKind.i64.wrap (((v1.Edges.length : Nat) : Int) - 1)))) fun q97 =>
        match q97 with
        | .inl q97 =>
         some false
        | .inr q97 =>
         getR y2 1 fun a99 =>
         br (a99 == 0) (
          some true) (
          br (decide (q97 ≥ 0)) (
           getR y2 2 fun a104 =>
           some (a104 == q97)) (
           some false)))))))))
theorem r7Good.ok (v1 : View) {x : Bool} (hx : r7Good v1 = some x) :
  Spec Try.prog 30 [.aggp [.int .i64 v1.Vertex.ID, .int .i64 v1.Vertex.Side, .sl (v1.Depots.map eInt), .sl (v1.Edges.map Edge.enc), .sl (v1.Labels.map Named.enc)]] [] (.pv (.bool x)) [] := by
 refine Spec.of (c := b30) Try.func30 rfl rfl rfl ?_
 unfold r7Good at hx
 refine bd_ok hx fun y2 e3 hx => ?_
 refine bd_ok hx fun y4 e5 hx => ?_
 let Q6 : List Prop := [Spec Try.prog 59 [.pv (.sl (v1.Labels.map Named.enc)), .pv (.int .i64 v1.Vertex.ID), .pv (.int .i64 3)] [] (.pv (.sl (y2.map eInt))) [], Spec Try.prog 60 [.aggp [.int .i64 v1.Vertex.ID, .int .i64 v1.Vertex.Side, .sl (v1.Depots.map eInt), .sl (v1.Edges.map Edge.enc), .sl (v1.Labels.map Named.enc)]] [] (.pv (.bool y4)) []]
 have k7 : All Q6 := ⟨r7Find.ok v1.Labels v1.Vertex.ID 3 e3, r7near.ok v1 e5, trivial⟩
 refine br_ok hx (fun h8 hx => ?_) (fun h8 hx => ?_)
 ·obtain rfl := sI hx
  exact WK.fin (fn := Try.f30) Try.func30 (an := [.reg [(0, none, .nm 1003)], .reg [], .reg [(3, none, .call [] [] (.pv (.sl (y2.map eInt))) [] [])], .reg [(1, none, .call [] [] (.pv (.bool y4)) [] []), (4, some true, .no)], .bk, .reg []]) (kt := [2]) (ko := []) (frz := []) (ps := (Q6 ++ [(!y4) = true])) (qs := []) (by kernel_rfl) (All_append.2 ⟨k7, ⟨h8, trivial⟩⟩) trivial
 ·refine br_ok hx (fun h9 hx => ?_) (fun h9 hx => ?_)
  ·obtain rfl := sI hx
   exact WK.fin (fn := Try.f30) Try.func30 (an := [.reg [(0, none, .nm 1003)], .reg [], .reg [(3, none, .call [] [] (.pv (.sl (y2.map eInt))) [] [])], .reg [(1, none, .call [] [] (.pv (.bool y4)) [] []), (4, some false, .no), (5, none, .val (.pv (.int .i64 ((y2.length : Nat) : Int)))), (9, some true, .no)], .bk, .reg []]) (kt := [2]) (ko := []) (frz := []) (ps := (Q6 ++ [(!y4) = false, AV.pv (.int .i64 ((y2.map eInt).length : Nat)) = .pv (.int .i64 (y2.length : Nat)), (((y2.length : Nat) : Int) == 0) = true])) (qs := []) (by kernel_rfl) (All_append.2 ⟨k7, ⟨h8, lenOb, h9, trivial⟩⟩) trivial
  ·refine getR_ok hx fun a10 h11 h12 hx => ?_
   refine br_ok hx (fun h13 hx => ?_) (fun h13 hx => ?_)
   ·obtain rfl := sI hx
    exact WK.fin (fn := Try.f30) Try.func30 (an := [.reg [(0, none, .nm 1003)], .reg [], .reg [(3, none, .call [] [] (.pv (.sl (y2.map eInt))) [] [])], .reg [(1, none, .call [] [] (.pv (.bool y4)) [] []), (4, some false, .no), (5, none, .val (.pv (.int .i64 ((y2.length : Nat) : Int)))), (9, some false, .no), (10, none, .row (eInt a10)), (16, some true, .no)], .bk, .reg []]) (kt := [2]) (ko := []) (frz := []) (ps := (Q6 ++ [(!y4) = false, AV.pv (.int .i64 ((y2.map eInt).length : Nat)) = .pv (.int .i64 (y2.length : Nat)), (((y2.length : Nat) : Int) == 0) = false, 0 ≤ (0 : Int), (y2.map eInt)[(0 : Int).toNat]? = some (eInt a10), (eInt a10).length = 1, (decide (a10 > v1.Vertex.ID)) = true])) (qs := []) (by kernel_rfl) (All_append.2 ⟨k7, ⟨h8, lenOb, h9, h11, rowOb h12, rfl, h13, trivial⟩⟩) trivial
   ·refine getR_ok hx fun a14 h15 h16 hx => ?_
    let Q17 : List Prop := (Q6 ++ [(!y4) = false, AV.pv (.int .i64 ((y2.map eInt).length : Nat)) = .pv (.int .i64 (y2.length : Nat)), (((y2.length : Nat) : Int) == 0) = false, 0 ≤ (0 : Int), (y2.map eInt)[(0 : Int).toNat]? = some (eInt a10), (eInt a10).length = 1, (decide (a10 > v1.Vertex.ID)) = false, 0 ≤ (0 : Int), (y2.map eInt)[(0 : Int).toNat]? = some (eInt a14), (eInt a14).length = 1])
    have k18 : All Q17 := (All_append.2 ⟨k7, ⟨h8, lenOb, h9, h11, rowOb h12, rfl, h13, h15, rowOb h16, rfl, trivial⟩⟩)
    refine br_ok hx (fun h19 hx => ?_) (fun h19 hx => ?_)
    ·obtain rfl := sI hx
     exact WK.fin (fn := Try.f30) Try.func30 (an := [.reg [(0, none, .nm 1003)], .reg [], .reg [(3, none, .call [] [] (.pv (.sl (y2.map eInt))) [] [])], .reg [(1, none, .call [] [] (.pv (.bool y4)) [] []), (4, some false, .no), (5, none, .val (.pv (.int .i64 ((y2.length : Nat) : Int)))), (9, some false, .no), (10, none, .row (eInt a10)), (16, some false, .no), (17, none, .row (eInt a14)), (22, some true, .no)], .bk, .reg []]) (kt := [2]) (ko := []) (frz := []) (ps := (Q17 ++ [(decide (a14 < 0)) = true])) (qs := []) (by kernel_rfl) (All_append.2 ⟨k18, ⟨h19, trivial⟩⟩) trivial
    ·refine getR_ok hx fun a20 h21 h22 hx => ?_
     refine WK.run (an := [.reg [(0, none, .nm 1003)], .reg [], .reg [(3, none, .call [] [] (.pv (.sl (y2.map eInt))) [] [])], .reg [(1, none, .call [] [] (.pv (.bool y4)) [] []), (4, some false, .no), (5, none, .val (.pv (.int .i64 ((y2.length : Nat) : Int)))), (9, some false, .no), (10, none, .row (eInt a10)), (16, some false, .no), (17, none, .row (eInt a14)), (22, some false, .no), (23, none, .row (eInt a20))]]) (kt := [1, 3, 4, 42]) (ko := [(1003, 101)]) (k' := [.code (sub b30 [1, 1, 1, 0, 1]), .code (sub b30 [1, 1, 1, 1])]) (σ' := ⟨135, [(1, .ref 101 0 0 0), (3, .pv (.int .i64 v1.Vertex.ID)), (4, .pv (.sl (y2.map eInt))), (42, .pv (.bool (decide (a20 < 0))))], [(101, .varp [.int .i64 v1.Vertex.ID, .int .i64 v1.Vertex.Side, .sl (v1.Depots.map eInt), .sl (v1.Edges.map Edge.enc), .sl (v1.Labels.map Named.enc)])]⟩) (ps := (Q17 ++ [(decide (a14 < 0)) = false, 0 ≤ (1 : Int), (y2.map eInt)[(1 : Int).toNat]? = some (eInt a20), (eInt a20).length = 1]))
      (by kernel_rfl) (All_append.2 ⟨k18, ⟨h19, h21, rowOb h22, rfl, trivial⟩⟩) ?_
     refine br_ok hx (fun h23 hx => ?_) (fun h23 hx => ?_)
     ·obtain rfl := sI hx
      exact WK.fin (fn := Try.f30) Try.func30 (an := [.br true, .reg []]) (kt := [2]) (ko := []) (frz := []) (ps := [(decide (a20 < 0)) = true]) (qs := []) (by kernel_rfl) ⟨h23, trivial⟩ trivial
     ·refine getR_ok hx fun a24 h25 h26 hx => ?_
      refine getR_ok hx fun a27 h28 h29 hx => ?_
      refine br_ok hx (fun h30 hx => ?_) (fun h30 hx => ?_)
      ·obtain rfl := sI hx
       exact WK.fin (fn := Try.f30) Try.func30 (an := [.br false, .draw [0, 1, 2, 3, 4, 5, 6, 7, 8, 9, 10, 11, 12, 13, 14, 15, 16, 17, 18, 19, 20, 21] [(1, none, .row (eInt a24)), (5, none, .row (eInt a27)), (11, some true, .no), (12, some true, .no), (13, some true, .no), (14, some true, .no), (15, some true, .no), (20, some true, .no), (21, none, .bit true)], .bk, .reg []]) (kt := [2]) (ko := []) (frz := []) (ps := [(decide (a20 < 0)) = false, 0 ≤ (1 : Int), (y2.map eInt)[(1 : Int).toNat]? = some (eInt a24), (eInt a24).length = 1, 0 ≤ (0 : Int), (y2.map eInt)[(0 : Int).toNat]? = some (eInt a27), (eInt a27).length = 1, (!((a24 == 0) == (a27 == v1.Vertex.ID))) = true, (!((a24 == 0) == (a27 == v1.Vertex.ID))) = true, (!((a24 == 0) == (a27 == v1.Vertex.ID))) = true, (!((a24 == 0) == (a27 == v1.Vertex.ID))) = true, (!((a24 == 0) == (a27 == v1.Vertex.ID))) = true, (!((a24 == 0) == (a27 == v1.Vertex.ID))) = true, (!((a24 == 0) == (a27 == v1.Vertex.ID))) = true]) (qs := []) (by kernel_rfl) ⟨h23, h25, rowOb h26, rfl, h28, rowOb h29, rfl, h30, h30, h30, h30, h30, h30, h30, trivial⟩ trivial
      ·refine getR_ok hx fun a31 h32 h33 hx => ?_
       let Q34 : List Prop := [(decide (a20 < 0)) = false, 0 ≤ (1 : Int), (y2.map eInt)[(1 : Int).toNat]? = some (eInt a24), (eInt a24).length = 1, 0 ≤ (0 : Int), (y2.map eInt)[(0 : Int).toNat]? = some (eInt a27), (eInt a27).length = 1, (!((a24 == 0) == (a27 == v1.Vertex.ID))) = false, (!((a24 == 0) == (a27 == v1.Vertex.ID))) = false, 0 ≤ (1 : Int), (y2.map eInt)[(1 : Int).toNat]? = some (eInt a31), (eInt a31).length = 1, (!((a24 == 0) == (a27 == v1.Vertex.ID))) = false, (!((a24 == 0) == (a27 == v1.Vertex.ID))) = false, (!((a24 == 0) == (a27 == v1.Vertex.ID))) = false]
       have k35 : All Q34 := ⟨h23, h25, rowOb h26, rfl, h28, rowOb h29, rfl, h30, h30, h32, rowOb h33, rfl, h30, h30, h30, trivial⟩
       refine br_ok hx (fun h36 hx => ?_) (fun h36 hx => ?_)
       ·refine getR_ok hx fun a37 h38 h39 hx => ?_
        refine WK.run (an := [.br false, .draw [0, 1, 2, 3, 4, 5, 6, 7, 8, 9, 10, 11, 12, 13, 14, 15, 16, 17, 18, 19, 20, 21] [(1, none, .row (eInt a24)), (5, none, .row (eInt a27)), (11, some false, .no), (12, some false, .row (eInt a31)), (13, some false, .no), (14, some false, .no), (15, some false, .no), (16, some true, .no), (17, some true, .row (eInt a37)), (18, some true, .no), (19, some true, .no), (20, some false, .bit true), (21, none, .bit false)]]) (kt := [1, 3, 4, 64]) (ko := [(101, 101)]) (k' := [.code (sub b30 [1, 1, 1, 1, 0, 1]), .code (sub b30 [1, 1, 1, 1, 1])]) (σ' := ⟨135, [(1, .ref 101 0 0 0), (3, .pv (.int .i64 v1.Vertex.ID)), (4, .pv (.sl (y2.map eInt))), (64, .pv (.bool (a37 != (-1))))], [(101, .varp [.int .i64 v1.Vertex.ID, .int .i64 v1.Vertex.Side, .sl (v1.Depots.map eInt), .sl (v1.Edges.map Edge.enc), .sl (v1.Labels.map Named.enc)])]⟩) (ps := (Q34 ++ [(a31 == 0) = true, (a31 == 0) = true, 0 ≤ (2 : Int), (y2.map eInt)[(2 : Int).toNat]? = some (eInt a37), (eInt a37).length = 1, (a31 == 0) = true, (a31 == 0) = true, (!((a24 == 0) == (a27 == v1.Vertex.ID))) = false, (a31 == 0) = true, (!((a24 == 0) == (a27 == v1.Vertex.ID))) = false]))
         (by kernel_rfl) (All_append.2 ⟨k35, ⟨h36, h36, h38, rowOb h39, rfl, h36, h36, h30, h36, h30, trivial⟩⟩) ?_
        refine br_ok hx (fun h40 hx => ?_) (fun h40 hx => ?_)
        ·obtain rfl := sI hx
         exact WK.fin (fn := Try.f30) Try.func30 (an := [.br true, .reg []]) (kt := [2]) (ko := []) (frz := []) (ps := [(a37 != (-1)) = true]) (qs := []) (by kernel_rfl) ⟨h40, trivial⟩ trivial
        ·refine bd_ok hx fun q87 e88 hx => ?_
         refine WK.run (an := [.br false, .reg [], .reg [(2, none, .val (.pv (.int .i64 ((v1.Edges.length : Nat) : Int))))]]) (kt := [1, 3, 4, 5, 6]) (ko := [(101, 101)]) (ps := [(a37 != (-1)) = false, AV.pv (.int .i64 ((v1.Edges.map Edge.enc).length : Nat)) = .pv (.int .i64 (v1.Edges.length : Nat))]) (by kernel_rfl) ⟨h40, lenOb, trivial⟩ (WK.enterLoop (r7Good.l0.ok v1.Vertex.ID y2 v1.Vertex.ID v1.Vertex.Side v1.Depots v1.Edges v1.Labels _ _ _ _ e88 ?_))
         rcases q87 with (q87 | q87)
         ·obtain rfl := sI hx
          exact WK.fin (fn := Try.f30) Try.func30 (an := []) (kt := [2]) (ko := []) (frz := []) (ps := []) (qs := []) (by kernel_rfl) trivial trivial
         ·refine getR_ok hx fun a89 h90 h91 hx => ?_
          refine br_ok hx (fun h92 hx => ?_) (fun h92 hx => ?_)
          ·obtain rfl := sI hx
           exact WK.fin (fn := Try.f30) Try.func30 (an := [.reg [(1, none, .row (eInt a89)), (5, some true, .no)]]) (kt := [2]) (ko := []) (frz := []) (ps := [0 ≤ (1 : Int), (y2.map eInt)[(1 : Int).toNat]? = some (eInt a89), (eInt a89).length = 1, (a89 == 0) = true]) (qs := []) (by kernel_rfl) ⟨h90, rowOb h91, rfl, h92, trivial⟩ trivial
          ·refine br_ok hx (fun h93 hx => ?_) (fun h93 hx => ?_)
           ·refine getR_ok hx fun a94 h95 h96 hx => ?_
            obtain rfl := sI hx
            exact WK.fin (fn := Try.f30) Try.func30 (an := [.reg [(1, none, .row (eInt a89)), (5, some false, .no), (8, some true, .no), (9, none, .row (eInt a94))]]) (kt := [2]) (ko := []) (frz := []) (ps := [0 ≤ (1 : Int), (y2.map eInt)[(1 : Int).toNat]? = some (eInt a89), (eInt a89).length = 1, (a89 == 0) = false, (decide (q87 ≥ 0)) = true, 0 ≤ (2 : Int), (y2.map eInt)[(2 : Int).toNat]? = some (eInt a94), (eInt a94).length = 1]) (qs := []) (by kernel_rfl) ⟨h90, rowOb h91, rfl, h92, h93, h95, rowOb h96, rfl, trivial⟩ trivial
           ·obtain rfl := sI hx
            exact WK.fin (fn := Try.f30) Try.func30 (an := [.reg [(1, none, .row (eInt a89)), (5, some false, .no), (8, some false, .no)]]) (kt := [2]) (ko := []) (frz := []) (ps := [0 ≤ (1 : Int), (y2.map eInt)[(1 : Int).toNat]? = some (eInt a89), (eInt a89).length = 1, (a89 == 0) = false, (decide (q87 ≥ 0)) = false]) (qs := []) (by kernel_rfl) ⟨h90, rowOb h91, rfl, h92, h93, trivial⟩ trivial
       ·refine bd_ok hx fun q97 e98 hx => ?_
        refine WK.run (an := [.br false, .draw [0, 1, 2, 3, 4, 5, 6, 7, 8, 9, 10, 11, 12, 13, 14, 15, 16, 17, 18, 19, 20, 21] [(1, none, .row (eInt a24)), (5, none, .row (eInt a27)), (11, some false, .no), (12, some false, .row (eInt a31)), (13, some false, .no), (14, some false, .no), (15, some false, .no), (16, some false, .no), (17, some false, .no), (18, some false, .no), (19, some false, .no), (20, some false, .bit false), (21, none, .bit false)], .bk, .reg [], .reg [(2, none, .val (.pv (.int .i64 ((v1.Edges.length : Nat) : Int))))]]) (kt := [1, 3, 4, 5, 6]) (ko := [(101, 101)]) (ps := (Q34 ++ [(a31 == 0) = false, (a31 == 0) = false, (a31 == 0) = false, (a31 == 0) = false, (!((a24 == 0) == (a27 == v1.Vertex.ID))) = false, (a31 == 0) = false, (!((a24 == 0) == (a27 == v1.Vertex.ID))) = false, AV.pv (.int .i64 ((v1.Edges.map Edge.enc).length : Nat)) = .pv (.int .i64 (v1.Edges.length : Nat))])) (by kernel_rfl) (All_append.2 ⟨k35, ⟨h36, h36, h36, h36, h30, h36, h30, lenOb, trivial⟩⟩) (WK.enterLoop (r7Good.l0.ok v1.Vertex.ID y2 v1.Vertex.ID v1.Vertex.Side v1.Depots v1.Edges v1.Labels _ _ _ _ e98 ?_))
        rcases q97 with (q97 | q97)
        ·obtain rfl := sI hx
         exact WK.fin (fn := Try.f30) Try.func30 (an := []) (kt := [2]) (ko := []) (frz := []) (ps := []) (qs := []) (by kernel_rfl) trivial trivial
        ·refine getR_ok hx fun a99 h100 h101 hx => ?_
         refine br_ok hx (fun h102 hx => ?_) (fun h102 hx => ?_)
         ·obtain rfl := sI hx
          exact WK.fin (fn := Try.f30) Try.func30 (an := [.reg [(1, none, .row (eInt a99)), (5, some true, .no)]]) (kt := [2]) (ko := []) (frz := []) (ps := [0 ≤ (1 : Int), (y2.map eInt)[(1 : Int).toNat]? = some (eInt a99), (eInt a99).length = 1, (a99 == 0) = true]) (qs := []) (by kernel_rfl) ⟨h100, rowOb h101, rfl, h102, trivial⟩ trivial
         ·refine br_ok hx (fun h103 hx => ?_) (fun h103 hx => ?_)
          ·refine getR_ok hx fun a104 h105 h106 hx => ?_
           obtain rfl := sI hx
           exact WK.fin (fn := Try.f30) Try.func30 (an := [.reg [(1, none, .row (eInt a99)), (5, some false, .no), (8, some true, .no), (9, none, .row (eInt a104))]]) (kt := [2]) (ko := []) (frz := []) (ps := [0 ≤ (1 : Int), (y2.map eInt)[(1 : Int).toNat]? = some (eInt a99), (eInt a99).length = 1, (a99 == 0) = false, (decide (q97 ≥ 0)) = true, 0 ≤ (2 : Int), (y2.map eInt)[(2 : Int).toNat]? = some (eInt a104), (eInt a104).length = 1]) (qs := []) (by kernel_rfl) ⟨h100, rowOb h101, rfl, h102, h103, h105, rowOb h106, rfl, trivial⟩ trivial
          ·obtain rfl := sI hx
           exact WK.fin (fn := Try.f30) Try.func30 (an := [.reg [(1, none, .row (eInt a99)), (5, some false, .no), (8, some false, .no)]]) (kt := [2]) (ko := []) (frz := []) (ps := [0 ≤ (1 : Int), (y2.map eInt)[(1 : Int).toNat]? = some (eInt a99), (eInt a99).length = 1, (a99 == 0) = false, (decide (q97 ≥ 0)) = false]) (qs := []) (by kernel_rfl) ⟨h100, rowOb h101, rfl, h102, h103, trivial⟩ trivial
noncomputable abbrev b32 : Code := body Try.f32
noncomputable def r7Count (v1 : View) : Option Int :=
 bd (r7Find v1.Labels v1.Vertex.ID 3) fun y2 =>
 br (decide (((y2.length : Nat) : Int) > 0)) (
  getR y2 1 fun a7 =>
  br (a7 == 0) (
   some 1) (
   some 0)) (
  some 0)
theorem r7Count.ok (v1 : View) {x : Int} (hx : r7Count v1 = some x) :
  Spec Try.prog 32 [.aggp [.int .i64 v1.Vertex.ID, .int .i64 v1.Vertex.Side, .sl (v1.Depots.map eInt), .sl (v1.Edges.map Edge.enc), .sl (v1.Labels.map Named.enc)]] [] (.pv (.int .i64 x)) [] := by
 refine Spec.of (c := b32) Try.func32 rfl rfl rfl ?_
 unfold r7Count at hx
 refine bd_ok hx fun y2 e3 hx => ?_
 let Q4 : List Prop := [Spec Try.prog 59 [.pv (.sl (v1.Labels.map Named.enc)), .pv (.int .i64 v1.Vertex.ID), .pv (.int .i64 3)] [] (.pv (.sl (y2.map eInt))) [], AV.pv (.int .i64 ((y2.map eInt).length : Nat)) = .pv (.int .i64 (y2.length : Nat))]
 have k5 : All Q4 := ⟨r7Find.ok v1.Labels v1.Vertex.ID 3 e3, lenOb, trivial⟩
 refine br_ok hx (fun h6 hx => ?_) (fun h6 hx => ?_)
 ·refine getR_ok hx fun a7 h8 h9 hx => ?_
  refine br_ok hx (fun h10 hx => ?_) (fun h10 hx => ?_)
  ·obtain rfl := sI hx
   exact WK.fin (fn := Try.f32) Try.func32 (an := [.reg [(0, none, .nm 1003)], .reg [(5, none, .call [] [] (.pv (.sl (y2.map eInt))) [] [])], .reg [(1, none, .val (.pv (.int .i64 ((y2.length : Nat) : Int)))), (4, some true, .no), (5, none, .row (eInt a7))], .br true, .reg []]) (kt := [2]) (ko := []) (frz := []) (ps := (Q4 ++ [(decide (((y2.length : Nat) : Int) > 0)) = true, 0 ≤ (1 : Int), (y2.map eInt)[(1 : Int).toNat]? = some (eInt a7), (eInt a7).length = 1, (a7 == 0) = true])) (qs := []) (by kernel_rfl) (All_append.2 ⟨k5, ⟨h6, h8, rowOb h9, rfl, h10, trivial⟩⟩) trivial
  ·obtain rfl := sI hx
   exact WK.fin (fn := Try.f32) Try.func32 (an := [.reg [(0, none, .nm 1003)], .reg [(5, none, .call [] [] (.pv (.sl (y2.map eInt))) [] [])], .reg [(1, none, .val (.pv (.int .i64 ((y2.length : Nat) : Int)))), (4, some true, .no), (5, none, .row (eInt a7))], .br false, .reg []]) (kt := [2]) (ko := []) (frz := []) (ps := (Q4 ++ [(decide (((y2.length : Nat) : Int) > 0)) = true, 0 ≤ (1 : Int), (y2.map eInt)[(1 : Int).toNat]? = some (eInt a7), (eInt a7).length = 1, (a7 == 0) = false])) (qs := []) (by kernel_rfl) (All_append.2 ⟨k5, ⟨h6, h8, rowOb h9, rfl, h10, trivial⟩⟩) trivial
 ·obtain rfl := sI hx
  exact WK.fin (fn := Try.f32) Try.func32 (an := [.reg [(0, none, .nm 1003)], .reg [(5, none, .call [] [] (.pv (.sl (y2.map eInt))) [] [])], .reg [(1, none, .val (.pv (.int .i64 ((y2.length : Nat) : Int)))), (4, some false, .no)], .bk, .reg []]) (kt := [2]) (ko := []) (frz := []) (ps := (Q4 ++ [(decide (((y2.length : Nat) : Int) > 0)) = false])) (qs := []) (by kernel_rfl) (All_append.2 ⟨k5, ⟨h6, trivial⟩⟩) trivial
noncomputable abbrev b3 : Code := body Try.f3
noncomputable def w7ForestMatchesReference.l0 (c101 : Int) (c102 : Int) (c103 : List Int) (c104 : List Int) (c105 : List A3_Int) (c106 : List Named) (c107 : List Int) (c108 : Int) (c109 : Int) (c110 : Int) (c111 : Int) (c112 : Int) (c113 : Int) (c114 : Int) (c115 : List Int) (c116 : List Edge) (c117 : List Named) (c118 : List Vertex) (c119 : List Edge) (c120 : List Int) (c121 : Int) (c122 : Int) (c123 : List Graph) (c124 : List A2_Int) (c125 : List (List Int)) (s : Int) : Option (Nx Int (Unit ⊕ Unit)) :=
 br (decide (s < c112)) (
  gd (0 ≤ (s : Int) ∧ (s : Int) < ((c125.length : Nat) : Int)) <|
  bd (c125[(0 + (s : Int).toNat)]?) fun a128 =>
  bd (forest_CheckPath (Graph.mk c118 c119 c120) c121 c122 a128) fun y130 =>
  bd (r7CheckPath (Graph.mk c118 c119 c120) c121 c122 a128) fun y132 =>
  br (!(y130 == y132)) (
   some (.done (.inl ()))) (
   some (.cont (IntKind.i64.wrap (s + 1))))) (
  some (.done (.inr ())))
abbrev w7ForestMatchesReference.l0.enc (c101 : Int) (c102 : Int) (c103 : List Int) (c104 : List Int) (c105 : List A3_Int) (c106 : List Named) (c107 : List Int) (c108 : Int) (c109 : Int) (c110 : Int) (c111 : Int) (c112 : Int) (c113 : Int) (c114 : Int) (c115 : List Int) (c116 : List Edge) (c117 : List Named) (c118 : List Vertex) (c119 : List Edge) (c120 : List Int) (c121 : Int) (c122 : Int) (c123 : List Graph) (c124 : List A2_Int) (c125 : List (List Int)) (s : Int) : St := ⟨265, [(4, .pv (.int .i64 c101)), (5, .pv (.int .i64 c102)), (6, .pv (.sl (c103.map eInt))), (7, .pv (.sl (c104.map eInt))), (8, .pv (.sl (c105.map A3_Int.enc))), (19, .ref 101 0 0 0), (22, .ref 103 0 0 0), (25, .pv (.sl (c106.map Named.enc))), (28, .ref 105 0 0 0), (39, .pv (.sl (c107.map eInt))), (55, .hd 107 0 ((c123.map Graph.enc).length) 3), (56, .pv (.int .i64 c108)), (57, .pv (.int .i64 c109)), (88, .hd 109 0 ((c124.map A2_Int.enc).length) 2), (89, .pv (.int .i64 c110)), (90, .pv (.int .i64 c111)), (180, .hd 111 0 ((c125.map (eSl eInt)).length) 1), (181, .pv (.int .i64 c112)), (182, .pv (.int .i64 s))], [(101, .varp [.int .i64 c113, .int .i64 c114, .sl (c115.map eInt), .sl (c116.map Edge.enc), .sl (c117.map Named.enc)]), (103, .varp [.sl (c118.map Vertex.enc), .sl (c119.map Edge.enc), .sl (c120.map eInt)]), (105, .varp [.int .i64 c121, .int .i64 c122]), (107, .sl false 3 (c123.map Graph.enc)), (109, .sl false 2 (c124.map A2_Int.enc)), (111, .sl false 1 (c125.map (eSl eInt)))]⟩
abbrev w7ForestMatchesReference.l0.post (c101 : Int) (c102 : Int) (c103 : List Int) (c104 : List Int) (c105 : List A3_Int) (c106 : List Named) (c107 : List Int) (c108 : Int) (c109 : Int) (c110 : Int) (c111 : Int) (c112 : Int) (c113 : Int) (c114 : Int) (c115 : List Int) (c116 : List Edge) (c117 : List Named) (c118 : List Vertex) (c119 : List Edge) (c120 : List Int) (c121 : Int) (c122 : Int) (c123 : List Graph) (c124 : List A2_Int) (c125 : List (List Int)) (r : AV) (outs : List AObj) (q : Unit ⊕ Unit) : Prop := match q with | .inl q => WK Try.prog (3, 0) [.code (sub b3 [1, 1, 0, 1, 0, 0, 1, 1, 0, 0, 1, 1, 1, 1, 0, 1, 0, 0, 1, 1, 0, 0, 1, 1, 1, 1, 1, 1, 1, 1, 0, 1, 0, 0, 1, 1, 0, 0, 1, 1, 0, 1]), .inBlock 5, .code (sub b3 [1, 1, 0, 1, 0, 0, 1, 1, 0, 0, 1, 1, 1, 1, 0, 1, 0, 0, 1, 1, 0, 0, 1, 1, 1, 1, 1, 1, 1, 1, 0, 1, 0, 0, 1, 1, 1]), .inLoop (sub b3 [1, 1, 0, 1, 0, 0, 1, 1, 0, 0, 1, 1, 1, 1, 0, 1, 0, 0, 1, 1, 0, 0, 1, 1, 1, 1, 1, 1, 1, 1, 0, 1, 0, 0]), .inBlock 4, .code (sub b3 [1, 1, 0, 1, 0, 0, 1, 1, 0, 0, 1, 1, 1, 1, 0, 1, 0, 0, 1, 1, 0, 0, 1, 1, 1, 1, 1, 1, 1, 1, 1]), .inBlock 3, .code (sub b3 [1, 1, 0, 1, 0, 0, 1, 1, 0, 0, 1, 1, 1, 1, 0, 1, 0, 0, 1, 1, 1]), .inLoop (sub b3 [1, 1, 0, 1, 0, 0, 1, 1, 0, 0, 1, 1, 1, 1, 0, 1, 0, 0]), .inBlock 2, .code (sub b3 [1, 1, 0, 1, 0, 0, 1, 1, 0, 0, 1, 1, 1, 1, 1]), .inBlock 1, .code (sub b3 [1, 1, 0, 1, 0, 0, 1, 1, 1]), .inLoop (sub b3 [1, 1, 0, 1, 0, 0]), .inBlock 0, .code (sub b3 [1, 1, 1])] ⟨265, [(20, .pv (.bool false))], []⟩ r outs | .inr q => WK Try.prog (3, 0) [.code (sub b3 [1, 1, 0, 1, 0, 0, 1, 1, 0, 0, 1, 1, 1, 1, 0, 1, 0, 0, 1, 1, 0, 0, 1, 1, 1, 1, 1, 1, 1, 1, 1, 0]), .code (sub b3 [1, 1, 0, 1, 0, 0, 1, 1, 0, 0, 1, 1, 1, 1, 0, 1, 0, 0, 1, 1, 0, 0, 1, 1, 1, 1, 1, 1, 1, 1, 1, 1]), .inBlock 3, .code (sub b3 [1, 1, 0, 1, 0, 0, 1, 1, 0, 0, 1, 1, 1, 1, 0, 1, 0, 0, 1, 1, 1]), .inLoop (sub b3 [1, 1, 0, 1, 0, 0, 1, 1, 0, 0, 1, 1, 1, 1, 0, 1, 0, 0]), .inBlock 2, .code (sub b3 [1, 1, 0, 1, 0, 0, 1, 1, 0, 0, 1, 1, 1, 1, 1]), .inBlock 1, .code (sub b3 [1, 1, 0, 1, 0, 0, 1, 1, 1]), .inLoop (sub b3 [1, 1, 0, 1, 0, 0]), .inBlock 0, .code (sub b3 [1, 1, 1])] ⟨265, [(4, .pv (.int .i64 c101)), (5, .pv (.int .i64 c102)), (6, .pv (.sl (c103.map eInt))), (7, .pv (.sl (c104.map eInt))), (8, .pv (.sl (c105.map A3_Int.enc))), (19, .ref 101 0 0 0), (22, .ref 103 0 0 0), (25, .pv (.sl (c106.map Named.enc))), (28, .ref 105 0 0 0), (39, .pv (.sl (c107.map eInt))), (55, .hd 107 0 ((c123.map Graph.enc).length) 3), (56, .pv (.int .i64 c108)), (57, .pv (.int .i64 c109)), (88, .hd 109 0 ((c124.map A2_Int.enc).length) 2), (89, .pv (.int .i64 c110)), (90, .pv (.int .i64 c111))], [(101, .varp [.int .i64 c113, .int .i64 c114, .sl (c115.map eInt), .sl (c116.map Edge.enc), .sl (c117.map Named.enc)]), (103, .varp [.sl (c118.map Vertex.enc), .sl (c119.map Edge.enc), .sl (c120.map eInt)]), (105, .varp [.int .i64 c121, .int .i64 c122]), (107, .sl false 3 (c123.map Graph.enc)), (109, .sl false 2 (c124.map A2_Int.enc))]⟩ r outs
set_option maxHeartbeats 4000000 in
theorem w7ForestMatchesReference.l0.ok (c101 : Int) (c102 : Int) (c103 : List Int) (c104 : List Int) (c105 : List A3_Int) (c106 : List Named) (c107 : List Int) (c108 : Int) (c109 : Int) (c110 : Int) (c111 : Int) (c112 : Int) (c113 : Int) (c114 : Int) (c115 : List Int) (c116 : List Edge) (c117 : List Named) (c118 : List Vertex) (c119 : List Edge) (c120 : List Int) (c121 : Int) (c122 : Int) (c123 : List Graph) (c124 : List A2_Int) (c125 : List (List Int)) (r : AV) (outs : List AObj) (s : Int) (q : Unit ⊕ Unit) (h : loopN fuel (w7ForestMatchesReference.l0 c101 c102 c103 c104 c105 c106 c107 c108 c109 c110 c111 c112 c113 c114 c115 c116 c117 c118 c119 c120 c121 c122 c123 c124 c125) s = some q) (hd : w7ForestMatchesReference.l0.post c101 c102 c103 c104 c105 c106 c107 c108 c109 c110 c111 c112 c113 c114 c115 c116 c117 c118 c119 c120 c121 c122 c123 c124 c125 r outs q) :
  WK Try.prog (3, 0) [.inLoop (sub b3 [1, 1, 0, 1, 0, 0, 1, 1, 0, 0, 1, 1, 1, 1, 0, 1, 0, 0, 1, 1, 0, 0, 1, 1, 1, 1, 1, 1, 1, 1, 0, 1, 0, 0]), .inBlock 4, .code (sub b3 [1, 1, 0, 1, 0, 0, 1, 1, 0, 0, 1, 1, 1, 1, 0, 1, 0, 0, 1, 1, 0, 0, 1, 1, 1, 1, 1, 1, 1, 1, 1]), .inBlock 3, .code (sub b3 [1, 1, 0, 1, 0, 0, 1, 1, 0, 0, 1, 1, 1, 1, 0, 1, 0, 0, 1, 1, 1]), .inLoop (sub b3 [1, 1, 0, 1, 0, 0, 1, 1, 0, 0, 1, 1, 1, 1, 0, 1, 0, 0]), .inBlock 2, .code (sub b3 [1, 1, 0, 1, 0, 0, 1, 1, 0, 0, 1, 1, 1, 1, 1]), .inBlock 1, .code (sub b3 [1, 1, 0, 1, 0, 0, 1, 1, 1]), .inLoop (sub b3 [1, 1, 0, 1, 0, 0]), .inBlock 0, .code (sub b3 [1, 1, 1])] (w7ForestMatchesReference.l0.enc c101 c102 c103 c104 c105 c106 c107 c108 c109 c110 c111 c112 c113 c114 c115 c116 c117 c118 c119 c120 c121 c122 c123 c124 c125 s) r outs := by
 refine WK.loop (w7ForestMatchesReference.l0.enc c101 c102 c103 c104 c105 c106 c107 c108 c109 c110 c111 c112 c113 c114 c115 c116 c117 c118 c119 c120 c121 c122 c123 c124 c125) (w7ForestMatchesReference.l0 c101 c102 c103 c104 c105 c106 c107 c108 c109 c110 c111 c112 c113 c114 c115 c116 c117 c118 c119 c120 c121 c122 c123 c124 c125) (w7ForestMatchesReference.l0.post c101 c102 c103 c104 c105 c106 c107 c108 c109 c110 c111 c112 c113 c114 c115 c116 c117 c118 c119 c120 c121 c122 c123 c124 c125 r outs) ?_ fuel s q h hd
 intro s x hx hn
 unfold w7ForestMatchesReference.l0 at hx
 refine br_ok hx (fun h126 hx => ?_) (fun h126 hx => ?_)
 ·refine gd_ok hx fun h127 hx => ?_
  refine bd_ok hx fun a128 h129 hx => ?_
  refine bd_ok hx fun y130 e131 hx => ?_
  refine bd_ok hx fun y132 e133 hx => ?_
  let Q134 : List Prop := [(decide (s < c112)) = true, 0 ≤ (s : Int), (s : Int) < (((c125.map (eSl eInt)).length : Nat) : Int), (c125.map (eSl eInt))[(0 + (s : Int).toNat)]? = some ((eSl eInt) a128), (0 : Int) ≤ 0, (0 : Int) < ((2 : Nat) : Int), (0 : Int) ≤ 1, (1 : Int) < ((2 : Nat) : Int), Spec Try.prog 22 [.aggp [.sl (c118.map Vertex.enc), .sl (c119.map Edge.enc), .sl (c120.map eInt)], .pv (.int .i64 c121), .pv (.int .i64 c122), .pv (.sl (a128.map eInt))] [] (.pv (.bool y130)) [], (0 : Int) ≤ 0, (0 : Int) < ((2 : Nat) : Int), (0 : Int) ≤ 1, (1 : Int) < ((2 : Nat) : Int), Spec Try.prog 23 [.aggp [.sl (c118.map Vertex.enc), .sl (c119.map Edge.enc), .sl (c120.map eInt)], .pv (.int .i64 c121), .pv (.int .i64 c122), .pv (.sl (a128.map eInt))] [] (.pv (.bool y132)) []]
  have k135 : All Q134 := ⟨h126, h127.1, lenLt h127.2, rowOb h129, by decide, by decide, by decide, by decide, forest_CheckPath.ok (Graph.mk c118 c119 c120) c121 c122 a128 e131, by decide, by decide, by decide, by decide, r7CheckPath.ok (Graph.mk c118 c119 c120) c121 c122 a128 e133, trivial⟩
  refine br_ok hx (fun h136 hx => ?_) (fun h136 hx => ?_)
  ·obtain rfl := sI hx
   exact WK.run (an := [.lp, .reg [], .br true, .reg [(1, none, .row ((eSl eInt) a128))], .draw [0, 1, 2, 3, 4, 5, 6, 7, 8, 9, 10, 11, 12, 13, 14] [(6, none, .call [] [] (.pv (.bool y130)) [] []), (13, none, .call [] [] (.pv (.bool y132)) [] [])], .br true, .reg []]) (kt := [20]) (ko := []) (ps := (Q134 ++ [(!(y130 == y132)) = true])) (by kernel_rfl) (All_append.2 ⟨k135, ⟨h136, trivial⟩⟩) hn
  ·obtain rfl := sI hx
   exact WK.run (an := [.lp, .reg [], .br true, .reg [(1, none, .row ((eSl eInt) a128))], .draw [0, 1, 2, 3, 4, 5, 6, 7, 8, 9, 10, 11, 12, 13, 14] [(6, none, .call [] [] (.pv (.bool y130)) [] []), (13, none, .call [] [] (.pv (.bool y132)) [] [])], .br false, .reg []]) (kt := [4, 5, 6, 7, 8, 19, 22, 25, 28, 39, 55, 56, 57, 88, 89, 90, 180, 181, 182]) (ko := [(101, 101), (103, 103), (105, 105), (107, 107), (109, 109), (111, 111)]) (ps := (Q134 ++ [(!(y130 == y132)) = false])) (by kernel_rfl) (All_append.2 ⟨k135, ⟨h136, trivial⟩⟩) hn
 ·obtain rfl := sI hx
  exact WK.run (an := [.lp, .reg [], .br false]) (kt := [4, 5, 6, 7, 8, 19, 22, 25, 28, 39, 55, 56, 57, 88, 89, 90]) (ko := [(101, 101), (103, 103), (105, 105), (107, 107), (109, 109)]) (ps := [(decide (s < c112)) = false]) (by kernel_rfl) ⟨h126, trivial⟩ hn
noncomputable def w7ForestMatchesReference.l1 (c141 : Int) (c142 : Int) (c143 : List Int) (c144 : List Int) (c145 : List A3_Int) (c146 : List Named) (c147 : Int) (c148 : Int) (c149 : Int) (c150 : Int) (c151 : Int) (c152 : Int) (c153 : Int) (c154 : List Int) (c155 : List Edge) (c156 : List Named) (c157 : List Vertex) (c158 : List Edge) (c159 : List Int) (c160 : Int) (c161 : Int) (c162 : List Graph) (c163 : List A2_Int) (c164 : List (List Int)) (s : Int) : Option (Nx Int (Unit ⊕ Unit)) :=
 br (decide (s < c151)) (
  gd (0 ≤ (s : Int) ∧ (s : Int) < ((c164.length : Nat) : Int)) <|
  bd (c164[(0 + (s : Int).toNat)]?) fun a167 =>
  bd (forest_CheckSide (Graph.mk c157 c158 c159) c160 c161 a167) fun y169 =>
  bd (r7CheckSide (Graph.mk c157 c158 c159) c160 c161 a167) fun y171 =>
  br (!(y169 == y171)) (
   some (.done (.inl ()))) (
   some (.cont (IntKind.i64.wrap (s + 1))))) (
  some (.done (.inr ())))
abbrev w7ForestMatchesReference.l1.enc (c141 : Int) (c142 : Int) (c143 : List Int) (c144 : List Int) (c145 : List A3_Int) (c146 : List Named) (c147 : Int) (c148 : Int) (c149 : Int) (c150 : Int) (c151 : Int) (c152 : Int) (c153 : Int) (c154 : List Int) (c155 : List Edge) (c156 : List Named) (c157 : List Vertex) (c158 : List Edge) (c159 : List Int) (c160 : Int) (c161 : Int) (c162 : List Graph) (c163 : List A2_Int) (c164 : List (List Int)) (s : Int) : St := ⟨265, [(4, .pv (.int .i64 c141)), (5, .pv (.int .i64 c142)), (6, .pv (.sl (c143.map eInt))), (7, .pv (.sl (c144.map eInt))), (8, .pv (.sl (c145.map A3_Int.enc))), (19, .ref 101 0 0 0), (22, .ref 103 0 0 0), (25, .pv (.sl (c146.map Named.enc))), (28, .ref 105 0 0 0), (55, .hd 107 0 ((c162.map Graph.enc).length) 3), (56, .pv (.int .i64 c147)), (57, .pv (.int .i64 c148)), (88, .hd 109 0 ((c163.map A2_Int.enc).length) 2), (89, .pv (.int .i64 c149)), (90, .pv (.int .i64 c150)), (208, .hd 111 0 ((c164.map (eSl eInt)).length) 1), (209, .pv (.int .i64 c151)), (210, .pv (.int .i64 s))], [(101, .varp [.int .i64 c152, .int .i64 c153, .sl (c154.map eInt), .sl (c155.map Edge.enc), .sl (c156.map Named.enc)]), (103, .varp [.sl (c157.map Vertex.enc), .sl (c158.map Edge.enc), .sl (c159.map eInt)]), (105, .varp [.int .i64 c160, .int .i64 c161]), (107, .sl false 3 (c162.map Graph.enc)), (109, .sl false 2 (c163.map A2_Int.enc)), (111, .sl false 1 (c164.map (eSl eInt)))]⟩
abbrev w7ForestMatchesReference.l1.post (c141 : Int) (c142 : Int) (c143 : List Int) (c144 : List Int) (c145 : List A3_Int) (c146 : List Named) (c147 : Int) (c148 : Int) (c149 : Int) (c150 : Int) (c151 : Int) (c152 : Int) (c153 : Int) (c154 : List Int) (c155 : List Edge) (c156 : List Named) (c157 : List Vertex) (c158 : List Edge) (c159 : List Int) (c160 : Int) (c161 : Int) (c162 : List Graph) (c163 : List A2_Int) (c164 : List (List Int)) (r : AV) (outs : List AObj) (q : Unit ⊕ Unit) : Prop := match q with | .inl q => WK Try.prog (3, 0) [.code (sub b3 [1, 1, 0, 1, 0, 0, 1, 1, 0, 0, 1, 1, 1, 1, 0, 1, 0, 0, 1, 1, 0, 0, 1, 1, 1, 1, 1, 1, 1, 1, 1, 1, 0, 0, 1, 1, 0, 0, 1, 1, 0, 1]), .inBlock 7, .code (sub b3 [1, 1, 0, 1, 0, 0, 1, 1, 0, 0, 1, 1, 1, 1, 0, 1, 0, 0, 1, 1, 0, 0, 1, 1, 1, 1, 1, 1, 1, 1, 1, 1, 0, 0, 1, 1, 1]), .inLoop (sub b3 [1, 1, 0, 1, 0, 0, 1, 1, 0, 0, 1, 1, 1, 1, 0, 1, 0, 0, 1, 1, 0, 0, 1, 1, 1, 1, 1, 1, 1, 1, 1, 1, 0, 0]), .inBlock 6, .inBlock 3, .code (sub b3 [1, 1, 0, 1, 0, 0, 1, 1, 0, 0, 1, 1, 1, 1, 0, 1, 0, 0, 1, 1, 1]), .inLoop (sub b3 [1, 1, 0, 1, 0, 0, 1, 1, 0, 0, 1, 1, 1, 1, 0, 1, 0, 0]), .inBlock 2, .code (sub b3 [1, 1, 0, 1, 0, 0, 1, 1, 0, 0, 1, 1, 1, 1, 1]), .inBlock 1, .code (sub b3 [1, 1, 0, 1, 0, 0, 1, 1, 1]), .inLoop (sub b3 [1, 1, 0, 1, 0, 0]), .inBlock 0, .code (sub b3 [1, 1, 1])] ⟨265, [(20, .pv (.bool false))], []⟩ r outs | .inr q => WK Try.prog (3, 0) [.code (sub b3 [1, 1, 0, 1, 0, 0, 1, 1, 0, 0, 1, 1, 1, 1, 0, 1, 0, 0, 1, 1, 1]), .inLoop (sub b3 [1, 1, 0, 1, 0, 0, 1, 1, 0, 0, 1, 1, 1, 1, 0, 1, 0, 0]), .inBlock 2, .code (sub b3 [1, 1, 0, 1, 0, 0, 1, 1, 0, 0, 1, 1, 1, 1, 1]), .inBlock 1, .code (sub b3 [1, 1, 0, 1, 0, 0, 1, 1, 1]), .inLoop (sub b3 [1, 1, 0, 1, 0, 0]), .inBlock 0, .code (sub b3 [1, 1, 1])] ⟨265, [(4, .pv (.int .i64 c141)), (5, .pv (.int .i64 c142)), (6, .pv (.sl (c143.map eInt))), (7, .pv (.sl (c144.map eInt))), (8, .pv (.sl (c145.map A3_Int.enc))), (19, .ref 101 0 0 0), (22, .ref 103 0 0 0), (25, .pv (.sl (c146.map Named.enc))), (55, .hd 105 0 ((c162.map Graph.enc).length) 3), (56, .pv (.int .i64 c147)), (57, .pv (.int .i64 c148)), (88, .hd 107 0 ((c163.map A2_Int.enc).length) 2), (89, .pv (.int .i64 c149)), (90, .pv (.int .i64 c150))], [(101, .varp [.int .i64 c152, .int .i64 c153, .sl (c154.map eInt), .sl (c155.map Edge.enc), .sl (c156.map Named.enc)]), (103, .varp [.sl (c157.map Vertex.enc), .sl (c158.map Edge.enc), .sl (c159.map eInt)]), (105, .sl false 3 (c162.map Graph.enc)), (107, .sl false 2 (c163.map A2_Int.enc))]⟩ r outs
set_option maxHeartbeats 4000000 in
theorem w7ForestMatchesReference.l1.ok (c141 : Int) (c142 : Int) (c143 : List Int) (c144 : List Int) (c145 : List A3_Int) (c146 : List Named) (c147 : Int) (c148 : Int) (c149 : Int) (c150 : Int) (c151 : Int) (c152 : Int) (c153 : Int) (c154 : List Int) (c155 : List Edge) (c156 : List Named) (c157 : List Vertex) (c158 : List Edge) (c159 : List Int) (c160 : Int) (c161 : Int) (c162 : List Graph) (c163 : List A2_Int) (c164 : List (List Int)) (r : AV) (outs : List AObj) (s : Int) (q : Unit ⊕ Unit) (h : loopN fuel (w7ForestMatchesReference.l1 c141 c142 c143 c144 c145 c146 c147 c148 c149 c150 c151 c152 c153 c154 c155 c156 c157 c158 c159 c160 c161 c162 c163 c164) s = some q) (hd : w7ForestMatchesReference.l1.post c141 c142 c143 c144 c145 c146 c147 c148 c149 c150 c151 c152 c153 c154 c155 c156 c157 c158 c159 c160 c161 c162 c163 c164 r outs q) :
  WK Try.prog (3, 0) [.inLoop (sub b3 [1, 1, 0, 1, 0, 0, 1, 1, 0, 0, 1, 1, 1, 1, 0, 1, 0, 0, 1, 1, 0, 0, 1, 1, 1, 1, 1, 1, 1, 1, 1, 1, 0, 0]), .inBlock 6, .inBlock 3, .code (sub b3 [1, 1, 0, 1, 0, 0, 1, 1, 0, 0, 1, 1, 1, 1, 0, 1, 0, 0, 1, 1, 1]), .inLoop (sub b3 [1, 1, 0, 1, 0, 0, 1, 1, 0, 0, 1, 1, 1, 1, 0, 1, 0, 0]), .inBlock 2, .code (sub b3 [1, 1, 0, 1, 0, 0, 1, 1, 0, 0, 1, 1, 1, 1, 1]), .inBlock 1, .code (sub b3 [1, 1, 0, 1, 0, 0, 1, 1, 1]), .inLoop (sub b3 [1, 1, 0, 1, 0, 0]), .inBlock 0, .code (sub b3 [1, 1, 1])] (w7ForestMatchesReference.l1.enc c141 c142 c143 c144 c145 c146 c147 c148 c149 c150 c151 c152 c153 c154 c155 c156 c157 c158 c159 c160 c161 c162 c163 c164 s) r outs := by
 refine WK.loop (w7ForestMatchesReference.l1.enc c141 c142 c143 c144 c145 c146 c147 c148 c149 c150 c151 c152 c153 c154 c155 c156 c157 c158 c159 c160 c161 c162 c163 c164) (w7ForestMatchesReference.l1 c141 c142 c143 c144 c145 c146 c147 c148 c149 c150 c151 c152 c153 c154 c155 c156 c157 c158 c159 c160 c161 c162 c163 c164) (w7ForestMatchesReference.l1.post c141 c142 c143 c144 c145 c146 c147 c148 c149 c150 c151 c152 c153 c154 c155 c156 c157 c158 c159 c160 c161 c162 c163 c164 r outs) ?_ fuel s q h hd
 intro s x hx hn
 unfold w7ForestMatchesReference.l1 at hx
 refine br_ok hx (fun h165 hx => ?_) (fun h165 hx => ?_)
 ·refine gd_ok hx fun h166 hx => ?_
  refine bd_ok hx fun a167 h168 hx => ?_
  refine bd_ok hx fun y169 e170 hx => ?_
  refine bd_ok hx fun y171 e172 hx => ?_
  let Q173 : List Prop := [(decide (s < c151)) = true, 0 ≤ (s : Int), (s : Int) < (((c164.map (eSl eInt)).length : Nat) : Int), (c164.map (eSl eInt))[(0 + (s : Int).toNat)]? = some ((eSl eInt) a167), (0 : Int) ≤ 0, (0 : Int) < ((2 : Nat) : Int), (0 : Int) ≤ 1, (1 : Int) < ((2 : Nat) : Int), Spec Try.prog 24 [.aggp [.sl (c157.map Vertex.enc), .sl (c158.map Edge.enc), .sl (c159.map eInt)], .pv (.int .i64 c160), .pv (.int .i64 c161), .pv (.sl (a167.map eInt))] [] (.pv (.bool y169)) [], (0 : Int) ≤ 0, (0 : Int) < ((2 : Nat) : Int), (0 : Int) ≤ 1, (1 : Int) < ((2 : Nat) : Int), Spec Try.prog 25 [.aggp [.sl (c157.map Vertex.enc), .sl (c158.map Edge.enc), .sl (c159.map eInt)], .pv (.int .i64 c160), .pv (.int .i64 c161), .pv (.sl (a167.map eInt))] [] (.pv (.bool y171)) []]
  have k174 : All Q173 := ⟨h165, h166.1, lenLt h166.2, rowOb h168, by decide, by decide, by decide, by decide, forest_CheckSide.ok (Graph.mk c157 c158 c159) c160 c161 a167 e170, by decide, by decide, by decide, by decide, r7CheckSide.ok (Graph.mk c157 c158 c159) c160 c161 a167 e172, trivial⟩
  refine br_ok hx (fun h175 hx => ?_) (fun h175 hx => ?_)
  ·obtain rfl := sI hx
   exact WK.run (an := [.lp, .reg [], .br true, .reg [(1, none, .row ((eSl eInt) a167))], .draw [0, 1, 2, 3, 4, 5, 6, 7, 8, 9, 10, 11, 12, 13, 14] [(6, none, .call [] [] (.pv (.bool y169)) [] []), (13, none, .call [] [] (.pv (.bool y171)) [] [])], .br true, .reg []]) (kt := [20]) (ko := []) (ps := (Q173 ++ [(!(y169 == y171)) = true])) (by kernel_rfl) (All_append.2 ⟨k174, ⟨h175, trivial⟩⟩) hn
  ·obtain rfl := sI hx
   exact WK.run (an := [.lp, .reg [], .br true, .reg [(1, none, .row ((eSl eInt) a167))], .draw [0, 1, 2, 3, 4, 5, 6, 7, 8, 9, 10, 11, 12, 13, 14] [(6, none, .call [] [] (.pv (.bool y169)) [] []), (13, none, .call [] [] (.pv (.bool y171)) [] [])], .br false, .reg []]) (kt := [4, 5, 6, 7, 8, 19, 22, 25, 28, 55, 56, 57, 88, 89, 90, 208, 209, 210]) (ko := [(101, 101), (103, 103), (105, 105), (107, 107), (109, 109), (111, 111)]) (ps := (Q173 ++ [(!(y169 == y171)) = false])) (by kernel_rfl) (All_append.2 ⟨k174, ⟨h175, trivial⟩⟩) hn
 ·obtain rfl := sI hx
  exact WK.run (an := [.lp, .reg [], .br false]) (kt := [4, 5, 6, 7, 8, 19, 22, 25, 55, 56, 57, 88, 89, 90]) (ko := [(101, 101), (103, 103), (107, 105), (109, 107)]) (ps := [(decide (s < c151)) = false]) (by kernel_rfl) ⟨h165, trivial⟩ hn
noncomputable def w7ForestMatchesReference.l2 (c49 : Int) (c50 : Int) (c51 : List Int) (c52 : List Int) (c53 : List A3_Int) (c54 : List Named) (c55 : Int) (c56 : Int) (c57 : Int) (c58 : Int) (c59 : Int) (c60 : List Int) (c61 : List Edge) (c62 : List Named) (c63 : List Vertex) (c64 : List Edge) (c65 : List Int) (c66 : List Graph) (c67 : List A2_Int) (s : Int) : Option (Nx Int (Unit ⊕ Unit ⊕ Unit ⊕ Unit)) :=
 br (decide (s < c57)) (
  gd (0 ≤ (s : Int) ∧ (s : Int) < ((c67.length : Nat) : Int)) <|
  bd (c67[(0 + (s : Int).toNat)]?) fun a70 =>
  bd (forest_Connected (Graph.mk c63 c64 c65) a70.x0 a70.x1) fun y72 =>
  bd (r7Connected (Graph.mk c63 c64 c65) a70.x0 a70.x1) fun y74 =>
  bd (forest_Path (Graph.mk c63 c64 c65) a70.x0 a70.x1) fun y76 =>
  bd (r7Path (Graph.mk c63 c64 c65) a70.x0 a70.x1) fun y78 =>
  bd (forest_Side (Graph.mk c63 c64 c65) a70.x0) fun y80 =>
  bd (r7Side (Graph.mk c63 c64 c65) a70.x0) fun y82 =>
  br (!(y72.1 == y74.1)) (
   some (.done (.inl ()))) (
   br (y72.2 != y74.2) (
    some (.done (.inl ()))) (
    br (y76.2 != y78.2) (
     some (.done (.inl ()))) (
     br (y80.2 != y82.2) (
      some (.done (.inl ()))) (
      bd (r3Ints y76.1 y78.1) fun y91 =>
      br (!y91) (
       some (.done (.inl ()))) (
       bd (r3Ints y80.1 y82.1) fun y94 =>
       br (!y94) (
        some (.done (.inl ()))) (
        gd (0 ≤ ((if 12 < ((c51.length : Nat) : Int) then 12 else ((c51.length : Nat) : Int)) : Int)) <|
        gd (((if 12 < ((c51.length : Nat) : Int) then 12 else ((c51.length : Nat) : Int)) : Int) ≤ (((c51.map eInt).length : Nat) : Int)) <|
        bd (loopN fuel (w7ForestMatchesReference.l0 c49 c50 c51 c52 c53 c54 y82.1 c55 c56 c57 s ((3 : Nat) : Int) c58 c59 c60 c61 c62 c63 c64 c65 a70.x0 a70.x1 c66 c67 [(c51.take ((if 12 < ((c51.length : Nat) : Int) then 12 else ((c51.length : Nat) : Int)) : Int).toNat), y78.1, []]) 0) fun q101 =>
        match q101 with
        | .inl q101 =>
         some (.done (.inr (.inl ())))
        | .inr q101 =>
         gd (0 ≤ ((if 12 < ((c52.length : Nat) : Int) then 12 else ((c52.length : Nat) : Int)) : Int)) <|
         gd (((if 12 < ((c52.length : Nat) : Int) then 12 else ((c52.length : Nat) : Int)) : Int) ≤ (((c52.map eInt).length : Nat) : Int)) <|
         bd (loopN fuel (w7ForestMatchesReference.l1 c49 c50 c51 c52 c53 c54 c55 c56 c57 s ((2 : Nat) : Int) c58 c59 c60 c61 c62 c63 c64 c65 a70.x0 a70.x1 c66 c67 [(c52.take ((if 12 < ((c52.length : Nat) : Int) then 12 else ((c52.length : Nat) : Int)) : Int).toNat), y82.1]) 0) fun q105 =>
         match q105 with
         | .inl q105 =>
          some (.done (.inr (.inr (.inl ()))))
         | .inr q105 =>
          some (.cont (IntKind.i64.wrap (s + 1)))))))))) (
  some (.done (.inr (.inr (.inr ())))))
abbrev w7ForestMatchesReference.l2.enc (c49 : Int) (c50 : Int) (c51 : List Int) (c52 : List Int) (c53 : List A3_Int) (c54 : List Named) (c55 : Int) (c56 : Int) (c57 : Int) (c58 : Int) (c59 : Int) (c60 : List Int) (c61 : List Edge) (c62 : List Named) (c63 : List Vertex) (c64 : List Edge) (c65 : List Int) (c66 : List Graph) (c67 : List A2_Int) (s : Int) : St := ⟨265, [(4, .pv (.int .i64 c49)), (5, .pv (.int .i64 c50)), (6, .pv (.sl (c51.map eInt))), (7, .pv (.sl (c52.map eInt))), (8, .pv (.sl (c53.map A3_Int.enc))), (19, .ref 101 0 0 0), (22, .ref 103 0 0 0), (25, .pv (.sl (c54.map Named.enc))), (55, .hd 105 0 ((c66.map Graph.enc).length) 3), (56, .pv (.int .i64 c55)), (57, .pv (.int .i64 c56)), (88, .hd 107 0 ((c67.map A2_Int.enc).length) 2), (89, .pv (.int .i64 c57)), (90, .pv (.int .i64 s))], [(101, .varp [.int .i64 c58, .int .i64 c59, .sl (c60.map eInt), .sl (c61.map Edge.enc), .sl (c62.map Named.enc)]), (103, .varp [.sl (c63.map Vertex.enc), .sl (c64.map Edge.enc), .sl (c65.map eInt)]), (105, .sl false 3 (c66.map Graph.enc)), (107, .sl false 2 (c67.map A2_Int.enc))]⟩
abbrev w7ForestMatchesReference.l2.post (c49 : Int) (c50 : Int) (c51 : List Int) (c52 : List Int) (c53 : List A3_Int) (c54 : List Named) (c55 : Int) (c56 : Int) (c57 : Int) (c58 : Int) (c59 : Int) (c60 : List Int) (c61 : List Edge) (c62 : List Named) (c63 : List Vertex) (c64 : List Edge) (c65 : List Int) (c66 : List Graph) (c67 : List A2_Int) (r : AV) (outs : List AObj) (q : Unit ⊕ Unit ⊕ Unit ⊕ Unit) : Prop := match q with | .inl q => WK Try.prog (3, 0) [.code (sub b3 [1, 1, 0, 1, 0, 0, 1, 1, 0, 0, 1, 1, 1, 1, 0, 1, 0, 0, 1, 1, 0, 0, 1, 1, 1, 1, 1, 1, 1, 0, 1, 0, 1]), .code (sub b3 [1, 1, 0, 1, 0, 0, 1, 1, 0, 0, 1, 1, 1, 1, 0, 1, 0, 0, 1, 1, 0, 0, 1, 1, 1, 1, 1, 1, 1, 1]), .inBlock 3, .code (sub b3 [1, 1, 0, 1, 0, 0, 1, 1, 0, 0, 1, 1, 1, 1, 0, 1, 0, 0, 1, 1, 1]), .inLoop (sub b3 [1, 1, 0, 1, 0, 0, 1, 1, 0, 0, 1, 1, 1, 1, 0, 1, 0, 0]), .inBlock 2, .code (sub b3 [1, 1, 0, 1, 0, 0, 1, 1, 0, 0, 1, 1, 1, 1, 1]), .inBlock 1, .code (sub b3 [1, 1, 0, 1, 0, 0, 1, 1, 1]), .inLoop (sub b3 [1, 1, 0, 1, 0, 0]), .inBlock 0, .code (sub b3 [1, 1, 1])] ⟨265, [(20, .pv (.bool false))], []⟩ r outs | .inr (.inl q) => WK Try.prog (3, 0) [.code (sub b3 [1, 1, 0, 1, 0, 0, 1, 1, 0, 0, 1, 1, 1, 1, 0, 1, 0, 0, 1, 1, 0, 0, 1, 1, 1, 1, 1, 1, 1, 1, 0, 1, 0, 0, 1, 1, 0, 0, 1, 1, 0, 1]), .inBlock 5, .code (sub b3 [1, 1, 0, 1, 0, 0, 1, 1, 0, 0, 1, 1, 1, 1, 0, 1, 0, 0, 1, 1, 0, 0, 1, 1, 1, 1, 1, 1, 1, 1, 0, 1, 0, 0, 1, 1, 1]), .inLoop (sub b3 [1, 1, 0, 1, 0, 0, 1, 1, 0, 0, 1, 1, 1, 1, 0, 1, 0, 0, 1, 1, 0, 0, 1, 1, 1, 1, 1, 1, 1, 1, 0, 1, 0, 0]), .inBlock 4, .code (sub b3 [1, 1, 0, 1, 0, 0, 1, 1, 0, 0, 1, 1, 1, 1, 0, 1, 0, 0, 1, 1, 0, 0, 1, 1, 1, 1, 1, 1, 1, 1, 1]), .inBlock 3, .code (sub b3 [1, 1, 0, 1, 0, 0, 1, 1, 0, 0, 1, 1, 1, 1, 0, 1, 0, 0, 1, 1, 1]), .inLoop (sub b3 [1, 1, 0, 1, 0, 0, 1, 1, 0, 0, 1, 1, 1, 1, 0, 1, 0, 0]), .inBlock 2, .code (sub b3 [1, 1, 0, 1, 0, 0, 1, 1, 0, 0, 1, 1, 1, 1, 1]), .inBlock 1, .code (sub b3 [1, 1, 0, 1, 0, 0, 1, 1, 1]), .inLoop (sub b3 [1, 1, 0, 1, 0, 0]), .inBlock 0, .code (sub b3 [1, 1, 1])] ⟨265, [(20, .pv (.bool false))], []⟩ r outs | .inr (.inr (.inl q)) => WK Try.prog (3, 0) [.code (sub b3 [1, 1, 0, 1, 0, 0, 1, 1, 0, 0, 1, 1, 1, 1, 0, 1, 0, 0, 1, 1, 0, 0, 1, 1, 1, 1, 1, 1, 1, 1, 1, 1, 0, 0, 1, 1, 0, 0, 1, 1, 0, 1]), .inBlock 7, .code (sub b3 [1, 1, 0, 1, 0, 0, 1, 1, 0, 0, 1, 1, 1, 1, 0, 1, 0, 0, 1, 1, 0, 0, 1, 1, 1, 1, 1, 1, 1, 1, 1, 1, 0, 0, 1, 1, 1]), .inLoop (sub b3 [1, 1, 0, 1, 0, 0, 1, 1, 0, 0, 1, 1, 1, 1, 0, 1, 0, 0, 1, 1, 0, 0, 1, 1, 1, 1, 1, 1, 1, 1, 1, 1, 0, 0]), .inBlock 6, .inBlock 3, .code (sub b3 [1, 1, 0, 1, 0, 0, 1, 1, 0, 0, 1, 1, 1, 1, 0, 1, 0, 0, 1, 1, 1]), .inLoop (sub b3 [1, 1, 0, 1, 0, 0, 1, 1, 0, 0, 1, 1, 1, 1, 0, 1, 0, 0]), .inBlock 2, .code (sub b3 [1, 1, 0, 1, 0, 0, 1, 1, 0, 0, 1, 1, 1, 1, 1]), .inBlock 1, .code (sub b3 [1, 1, 0, 1, 0, 0, 1, 1, 1]), .inLoop (sub b3 [1, 1, 0, 1, 0, 0]), .inBlock 0, .code (sub b3 [1, 1, 1])] ⟨265, [(20, .pv (.bool false))], []⟩ r outs | .inr (.inr (.inr q)) => WK Try.prog (3, 0) [.code (sub b3 [1, 1, 0, 1, 0, 0, 1, 1, 0, 0, 1, 1, 1, 1, 1, 0]), .code (sub b3 [1, 1, 0, 1, 0, 0, 1, 1, 0, 0, 1, 1, 1, 1, 1, 1]), .inBlock 1, .code (sub b3 [1, 1, 0, 1, 0, 0, 1, 1, 1]), .inLoop (sub b3 [1, 1, 0, 1, 0, 0]), .inBlock 0, .code (sub b3 [1, 1, 1])] ⟨265, [(4, .pv (.int .i64 c49)), (5, .pv (.int .i64 c50)), (6, .pv (.sl (c51.map eInt))), (7, .pv (.sl (c52.map eInt))), (8, .pv (.sl (c53.map A3_Int.enc))), (19, .ref 101 0 0 0), (22, .ref 103 0 0 0), (25, .pv (.sl (c54.map Named.enc))), (55, .hd 105 0 ((c66.map Graph.enc).length) 3), (56, .pv (.int .i64 c55)), (57, .pv (.int .i64 c56))], [(101, .varp [.int .i64 c58, .int .i64 c59, .sl (c60.map eInt), .sl (c61.map Edge.enc), .sl (c62.map Named.enc)]), (103, .varp [.sl (c63.map Vertex.enc), .sl (c64.map Edge.enc), .sl (c65.map eInt)]), (105, .sl false 3 (c66.map Graph.enc))]⟩ r outs
set_option maxHeartbeats 4000000 in
theorem w7ForestMatchesReference.l2.ok (c49 : Int) (c50 : Int) (c51 : List Int) (c52 : List Int) (c53 : List A3_Int) (c54 : List Named) (c55 : Int) (c56 : Int) (c57 : Int) (c58 : Int) (c59 : Int) (c60 : List Int) (c61 : List Edge) (c62 : List Named) (c63 : List Vertex) (c64 : List Edge) (c65 : List Int) (c66 : List Graph) (c67 : List A2_Int) (r : AV) (outs : List AObj) (s : Int) (q : Unit ⊕ Unit ⊕ Unit ⊕ Unit) (h : loopN fuel (w7ForestMatchesReference.l2 c49 c50 c51 c52 c53 c54 c55 c56 c57 c58 c59 c60 c61 c62 c63 c64 c65 c66 c67) s = some q) (hd : w7ForestMatchesReference.l2.post c49 c50 c51 c52 c53 c54 c55 c56 c57 c58 c59 c60 c61 c62 c63 c64 c65 c66 c67 r outs q) :
  WK Try.prog (3, 0) [.inLoop (sub b3 [1, 1, 0, 1, 0, 0, 1, 1, 0, 0, 1, 1, 1, 1, 0, 1, 0, 0]), .inBlock 2, .code (sub b3 [1, 1, 0, 1, 0, 0, 1, 1, 0, 0, 1, 1, 1, 1, 1]), .inBlock 1, .code (sub b3 [1, 1, 0, 1, 0, 0, 1, 1, 1]), .inLoop (sub b3 [1, 1, 0, 1, 0, 0]), .inBlock 0, .code (sub b3 [1, 1, 1])] (w7ForestMatchesReference.l2.enc c49 c50 c51 c52 c53 c54 c55 c56 c57 c58 c59 c60 c61 c62 c63 c64 c65 c66 c67 s) r outs := by
 refine WK.loop (w7ForestMatchesReference.l2.enc c49 c50 c51 c52 c53 c54 c55 c56 c57 c58 c59 c60 c61 c62 c63 c64 c65 c66 c67) (w7ForestMatchesReference.l2 c49 c50 c51 c52 c53 c54 c55 c56 c57 c58 c59 c60 c61 c62 c63 c64 c65 c66 c67) (w7ForestMatchesReference.l2.post c49 c50 c51 c52 c53 c54 c55 c56 c57 c58 c59 c60 c61 c62 c63 c64 c65 c66 c67 r outs) ?_ fuel s q h hd
 intro s x hx hn
 unfold w7ForestMatchesReference.l2 at hx
 refine br_ok hx (fun h68 hx => ?_) (fun h68 hx => ?_)
 ·refine gd_ok hx fun h69 hx => ?_
  refine bd_ok hx fun a70 h71 hx => ?_
  refine bd_ok hx fun y72 e73 hx => ?_
  refine bd_ok hx fun y74 e75 hx => ?_
  refine bd_ok hx fun y76 e77 hx => ?_
  refine bd_ok hx fun y78 e79 hx => ?_
  refine bd_ok hx fun y80 e81 hx => ?_
  refine bd_ok hx fun y82 e83 hx => ?_
  let A84 : List An := [.lp, .reg [], .br true, .reg [(1, none, .row (A2_Int.enc a70)), (2, none, .nm 1019)], .reg [(5, none, .call [] [] (.tup [.pv (.bool y72.1), .pv (.int .i64 y72.2)]) [] [])], .reg [(5, none, .call [] [] (.tup [.pv (.bool y74.1), .pv (.int .i64 y74.2)]) [] [])], .reg [(5, none, .call [] [] (.tup [.pv (.sl (y76.1.map eInt)), .pv (.int .i64 y76.2)]) [] [])], .reg [(5, none, .call [] [] (.tup [.pv (.sl (y78.1.map eInt)), .pv (.int .i64 y78.2)]) [] [])], .reg [(3, none, .call [] [] (.tup [.pv (.sl (y80.1.map eInt)), .pv (.int .i64 y80.2)]) [] [])], .reg [(3, none, .call [] [] (.tup [.pv (.sl (y82.1.map eInt)), .pv (.int .i64 y82.2)]) [] [])]]
  let Q85 : List Prop := [(decide (s < c57)) = true, 0 ≤ (s : Int), (s : Int) < (((c67.map A2_Int.enc).length : Nat) : Int), (c67.map A2_Int.enc)[(0 + (s : Int).toNat)]? = some (A2_Int.enc a70), 2 = 2, (0 : Int) ≤ 0, (0 : Int) < ((2 : Nat) : Int), (0 : Int) ≤ 1, (1 : Int) < ((2 : Nat) : Int), Spec Try.prog 15 [.aggp [.sl (c63.map Vertex.enc), .sl (c64.map Edge.enc), .sl (c65.map eInt)], .pv (.int .i64 a70.x0), .pv (.int .i64 a70.x1)] [] (.tup [.pv (.bool y72.1), .pv (.int .i64 y72.2)]) [], (0 : Int) ≤ 0, (0 : Int) < ((2 : Nat) : Int), (0 : Int) ≤ 1, (1 : Int) < ((2 : Nat) : Int), Spec Try.prog 16 [.aggp [.sl (c63.map Vertex.enc), .sl (c64.map Edge.enc), .sl (c65.map eInt)], .pv (.int .i64 a70.x0), .pv (.int .i64 a70.x1)] [] (.tup [.pv (.bool y74.1), .pv (.int .i64 y74.2)]) [], (0 : Int) ≤ 0, (0 : Int) < ((2 : Nat) : Int), (0 : Int) ≤ 1, (1 : Int) < ((2 : Nat) : Int), Spec Try.prog 17 [.aggp [.sl (c63.map Vertex.enc), .sl (c64.map Edge.enc), .sl (c65.map eInt)], .pv (.int .i64 a70.x0), .pv (.int .i64 a70.x1)] [] (.tup [.pv (.sl (y76.1.map eInt)), .pv (.int .i64 y76.2)]) [], (0 : Int) ≤ 0, (0 : Int) < ((2 : Nat) : Int), (0 : Int) ≤ 1, (1 : Int) < ((2 : Nat) : Int), Spec Try.prog 18 [.aggp [.sl (c63.map Vertex.enc), .sl (c64.map Edge.enc), .sl (c65.map eInt)], .pv (.int .i64 a70.x0), .pv (.int .i64 a70.x1)] [] (.tup [.pv (.sl (y78.1.map eInt)), .pv (.int .i64 y78.2)]) [], (0 : Int) ≤ 0, (0 : Int) < ((2 : Nat) : Int), Spec Try.prog 19 [.aggp [.sl (c63.map Vertex.enc), .sl (c64.map Edge.enc), .sl (c65.map eInt)], .pv (.int .i64 a70.x0)] [] (.tup [.pv (.sl (y80.1.map eInt)), .pv (.int .i64 y80.2)]) [], (0 : Int) ≤ 0, (0 : Int) < ((2 : Nat) : Int), Spec Try.prog 20 [.aggp [.sl (c63.map Vertex.enc), .sl (c64.map Edge.enc), .sl (c65.map eInt)], .pv (.int .i64 a70.x0)] [] (.tup [.pv (.sl (y82.1.map eInt)), .pv (.int .i64 y82.2)]) []]
  have k86 : All Q85 := ⟨h68, h69.1, lenLt h69.2, rowOb h71, rfl, by decide, by decide, by decide, by decide, forest_Connected.ok (Graph.mk c63 c64 c65) a70.x0 a70.x1 e73, by decide, by decide, by decide, by decide, r7Connected.ok (Graph.mk c63 c64 c65) a70.x0 a70.x1 e75, by decide, by decide, by decide, by decide, forest_Path.ok (Graph.mk c63 c64 c65) a70.x0 a70.x1 e77, by decide, by decide, by decide, by decide, r7Path.ok (Graph.mk c63 c64 c65) a70.x0 a70.x1 e79, by decide, by decide, forest_Side.ok (Graph.mk c63 c64 c65) a70.x0 e81, by decide, by decide, r7Side.ok (Graph.mk c63 c64 c65) a70.x0 e83, trivial⟩
  refine br_ok hx (fun h87 hx => ?_) (fun h87 hx => ?_)
  ·obtain rfl := sI hx
   exact WK.run (an := (A84 ++ [.reg [(4, some true, .no)], .bk, .reg []])) (kt := [20]) (ko := []) (ps := (Q85 ++ [(!(y72.1 == y74.1)) = true])) (by kernel_rfl) (All_append.2 ⟨k86, ⟨h87, trivial⟩⟩) hn
  ·refine br_ok hx (fun h88 hx => ?_) (fun h88 hx => ?_)
   ·obtain rfl := sI hx
    exact WK.run (an := (A84 ++ [.reg [(4, some false, .no), (9, some true, .no)], .bk, .reg []])) (kt := [20]) (ko := []) (ps := (Q85 ++ [(!(y72.1 == y74.1)) = false, (y72.2 != y74.2) = true])) (by kernel_rfl) (All_append.2 ⟨k86, ⟨h87, h88, trivial⟩⟩) hn
   ·refine br_ok hx (fun h89 hx => ?_) (fun h89 hx => ?_)
    ·obtain rfl := sI hx
     exact WK.run (an := (A84 ++ [.reg [(4, some false, .no), (9, some false, .no), (14, some true, .no)], .bk, .reg []])) (kt := [20]) (ko := []) (ps := (Q85 ++ [(!(y72.1 == y74.1)) = false, (y72.2 != y74.2) = false, (y76.2 != y78.2) = true])) (by kernel_rfl) (All_append.2 ⟨k86, ⟨h87, h88, h89, trivial⟩⟩) hn
    ·refine br_ok hx (fun h90 hx => ?_) (fun h90 hx => ?_)
     ·obtain rfl := sI hx
      exact WK.run (an := (A84 ++ [.reg [(4, some false, .no), (9, some false, .no), (14, some false, .no), (19, some true, .no)], .bk, .reg []])) (kt := [20]) (ko := []) (ps := (Q85 ++ [(!(y72.1 == y74.1)) = false, (y72.2 != y74.2) = false, (y76.2 != y78.2) = false, (y80.2 != y82.2) = true])) (by kernel_rfl) (All_append.2 ⟨k86, ⟨h87, h88, h89, h90, trivial⟩⟩) hn
     ·refine bd_ok hx fun y91 e92 hx => ?_
      refine br_ok hx (fun h93 hx => ?_) (fun h93 hx => ?_)
      ·obtain rfl := sI hx
       exact WK.run (an := (A84 ++ [.reg [(4, some false, .no), (9, some false, .no), (14, some false, .no), (19, some false, .no), (21, none, .call [] [] (.pv (.bool y91)) [] []), (25, some true, .no)], .bk, .reg []])) (kt := [20]) (ko := []) (ps := (Q85 ++ [(!(y72.1 == y74.1)) = false, (y72.2 != y74.2) = false, (y76.2 != y78.2) = false, (y80.2 != y82.2) = false, Spec Try.prog 21 [.pv (.sl (y76.1.map eInt)), .pv (.sl (y78.1.map eInt))] [] (.pv (.bool y91)) [], (!y91) = true])) (by kernel_rfl) (All_append.2 ⟨k86, ⟨h87, h88, h89, h90, r3Ints.ok y76.1 y78.1 e92, h93, trivial⟩⟩) hn
      ·refine bd_ok hx fun y94 e95 hx => ?_
       let Q96 : List Prop := (Q85 ++ [(!(y72.1 == y74.1)) = false, (y72.2 != y74.2) = false, (y76.2 != y78.2) = false, (y80.2 != y82.2) = false, Spec Try.prog 21 [.pv (.sl (y76.1.map eInt)), .pv (.sl (y78.1.map eInt))] [] (.pv (.bool y91)) [], (!y91) = false, Spec Try.prog 21 [.pv (.sl (y80.1.map eInt)), .pv (.sl (y82.1.map eInt))] [] (.pv (.bool y94)) []])
       have k97 : All Q96 := (All_append.2 ⟨k86, ⟨h87, h88, h89, h90, r3Ints.ok y76.1 y78.1 e92, h93, r3Ints.ok y80.1 y82.1 e95, trivial⟩⟩)
       refine br_ok hx (fun h98 hx => ?_) (fun h98 hx => ?_)
       ·obtain rfl := sI hx
        exact WK.run (an := (A84 ++ [.reg [(4, some false, .no), (9, some false, .no), (14, some false, .no), (19, some false, .no), (21, none, .call [] [] (.pv (.bool y91)) [] []), (25, some false, .no), (27, none, .call [] [] (.pv (.bool y94)) [] [])], .br true, .reg []])) (kt := [20]) (ko := []) (ps := (Q96 ++ [(!y94) = true])) (by kernel_rfl) (All_append.2 ⟨k97, ⟨h98, trivial⟩⟩) hn
       ·refine gd_ok hx fun h99 hx => ?_
        refine gd_ok hx fun h100 hx => ?_
        refine bd_ok hx fun q101 e102 hx => ?_
        refine WK.run (an := (A84 ++ [.reg [(4, some false, .no), (9, some false, .no), (14, some false, .no), (19, some false, .no), (21, none, .call [] [] (.pv (.bool y91)) [] []), (25, some false, .no), (27, none, .call [] [] (.pv (.bool y94)) [] [])], .br false, .reg [(2, none, .val (.pv (.int .i64 ((c51.length : Nat) : Int)))), (4, none, .sls ((c51.take ((if 12 < ((c51.length : Nat) : Int) then 12 else ((c51.length : Nat) : Int)) : Int).toNat).map eInt)), (6, none, .app 1021 ([(c51.take ((if 12 < ((c51.length : Nat) : Int) then 12 else ((c51.length : Nat) : Int)) : Int).toNat), y78.1, []].map (eSl eInt)))]])) (kt := [4, 5, 6, 7, 8, 19, 22, 25, 28, 39, 55, 56, 57, 88, 89, 90, 180, 181, 182]) (ko := [(101, 101), (103, 103), (1019, 105), (105, 107), (107, 109), (1021, 111)]) (ps := (Q96 ++ [(!y94) = false, AV.pv (.int .i64 ((c51.map eInt).length : Nat)) = .pv (.int .i64 (c51.length : Nat)), 0 ≤ ((if 12 < ((c51.length : Nat) : Int) then 12 else ((c51.length : Nat) : Int)) : Int), ((if 12 < ((c51.length : Nat) : Int) then 12 else ((c51.length : Nat) : Int)) : Int) ≤ (((c51.map eInt).length : Nat) : Int), cut1 (c51.map eInt) 0 (((if 12 < ((c51.length : Nat) : Int) then 12 else ((c51.length : Nat) : Int)) : Int).toNat - 0) = (c51.take ((if 12 < ((c51.length : Nat) : Int) then 12 else ((c51.length : Nat) : Int)) : Int).toNat).map eInt, ∀ r ∈ (c51.take ((if 12 < ((c51.length : Nat) : Int) then 12 else ((c51.length : Nat) : Int)) : Int).toNat).map eInt, r.length = 1, 1 = 1, 1 = 1, 1 = 1, 1 = 1, nilLL [[.sl ((c51.take ((if 12 < ((c51.length : Nat) : Int) then 12 else ((c51.length : Nat) : Int)) : Int).toNat).map eInt)], [.sl (y78.1.map eInt)], [.nilsl]] ([(c51.take ((if 12 < ((c51.length : Nat) : Int) then 12 else ((c51.length : Nat) : Int)) : Int).toNat), y78.1, []].map (eSl eInt))])) (by kernel_rfl) (All_append.2 ⟨k97, ⟨h98, lenOb, h99, h100, cut_hi, map_len fun _ => rfl, rfl, rfl, rfl, rfl, ⟨⟨rfl, trivial⟩, ⟨rfl, trivial⟩, ⟨trivial, trivial⟩, trivial⟩, trivial⟩⟩) (WK.enterLoop (w7ForestMatchesReference.l0.ok c49 c50 c51 c52 c53 c54 y82.1 c55 c56 c57 s ((3 : Nat) : Int) c58 c59 c60 c61 c62 c63 c64 c65 a70.x0 a70.x1 c66 c67 [(c51.take ((if 12 < ((c51.length : Nat) : Int) then 12 else ((c51.length : Nat) : Int)) : Int).toNat), y78.1, []] _ _ _ _ e102 ?_))
        rcases q101 with (q101 | q101)
        ·obtain rfl := sI hx
         exact WK.run (an := []) (kt := [20]) (ko := []) (ps := []) (by kernel_rfl) trivial hn
        ·refine gd_ok hx fun h103 hx => ?_
         refine gd_ok hx fun h104 hx => ?_
         refine bd_ok hx fun q105 e106 hx => ?_
         refine WK.run (an := [.reg [(2, none, .val (.pv (.int .i64 ((c52.length : Nat) : Int)))), (4, none, .sls ((c52.take ((if 12 < ((c52.length : Nat) : Int) then 12 else ((c52.length : Nat) : Int)) : Int).toNat).map eInt)), (6, none, .nm 1023)]]) (kt := [4, 5, 6, 7, 8, 19, 22, 25, 28, 55, 56, 57, 88, 89, 90, 208, 209, 210]) (ko := [(101, 101), (103, 103), (105, 105), (107, 107), (109, 109), (1023, 111)]) (ps := [AV.pv (.int .i64 ((c52.map eInt).length : Nat)) = .pv (.int .i64 (c52.length : Nat)), 0 ≤ ((if 12 < ((c52.length : Nat) : Int) then 12 else ((c52.length : Nat) : Int)) : Int), ((if 12 < ((c52.length : Nat) : Int) then 12 else ((c52.length : Nat) : Int)) : Int) ≤ (((c52.map eInt).length : Nat) : Int), cut1 (c52.map eInt) 0 (((if 12 < ((c52.length : Nat) : Int) then 12 else ((c52.length : Nat) : Int)) : Int).toNat - 0) = (c52.take ((if 12 < ((c52.length : Nat) : Int) then 12 else ((c52.length : Nat) : Int)) : Int).toNat).map eInt, ∀ r ∈ (c52.take ((if 12 < ((c52.length : Nat) : Int) then 12 else ((c52.length : Nat) : Int)) : Int).toNat).map eInt, r.length = 1, 1 = 1, 1 = 1, 1 = 1]) (by kernel_rfl) ⟨lenOb, h103, h104, cut_hi, map_len fun _ => rfl, rfl, rfl, rfl, trivial⟩ (WK.enterLoop (w7ForestMatchesReference.l1.ok c49 c50 c51 c52 c53 c54 c55 c56 c57 s ((2 : Nat) : Int) c58 c59 c60 c61 c62 c63 c64 c65 a70.x0 a70.x1 c66 c67 [(c52.take ((if 12 < ((c52.length : Nat) : Int) then 12 else ((c52.length : Nat) : Int)) : Int).toNat), y82.1] _ _ _ _ e106 ?_))
         rcases q105 with (q105 | q105)
         ·obtain rfl := sI hx
          exact WK.run (an := []) (kt := [20]) (ko := []) (ps := []) (by kernel_rfl) trivial hn
         ·obtain rfl := sI hx
          exact WK.run (an := [.reg []]) (kt := [4, 5, 6, 7, 8, 19, 22, 25, 55, 56, 57, 88, 89, 90]) (ko := [(101, 101), (103, 103), (105, 105), (107, 107)]) (ps := []) (by kernel_rfl) trivial hn
 ·obtain rfl := sI hx
  exact WK.run (an := [.lp, .reg [], .br false]) (kt := [4, 5, 6, 7, 8, 19, 22, 25, 55, 56, 57]) (ko := [(101, 101), (103, 103), (105, 105)]) (ps := [(decide (s < c57)) = false]) (by kernel_rfl) ⟨h68, trivial⟩ hn
noncomputable def w7ForestMatchesReference.l3 (c121 : Int) (c122 : Int) (c123 : List Int) (c124 : List Int) (c125 : List A3_Int) (c126 : Int) (c127 : Int) (c128 : Int) (c129 : Int) (c130 : Int) (c131 : List Int) (c132 : List Edge) (c133 : List Named) (c134 : List Graph) (c135 : List View) (s : Int) : Option (Nx Int (Unit ⊕ Unit)) :=
 br (decide (s < c128)) (
  gd (0 ≤ (s : Int) ∧ (s : Int) < ((c135.length : Nat) : Int)) <|
  bd (c135[(0 + (s : Int).toNat)]?) fun a138 =>
  bd (forest_Good a138) fun y140 =>
  bd (r7Good a138) fun y142 =>
  br (!(y140 == y142)) (
   some (.done (.inl ()))) (
   bd (forest_Count a138) fun y147 =>
   bd (r7Count a138) fun y149 =>
   br (y147 != y149) (
    some (.done (.inl ()))) (
    some (.cont (IntKind.i64.wrap (s + 1)))))) (
  some (.done (.inr ())))
abbrev w7ForestMatchesReference.l3.enc (c121 : Int) (c122 : Int) (c123 : List Int) (c124 : List Int) (c125 : List A3_Int) (c126 : Int) (c127 : Int) (c128 : Int) (c129 : Int) (c130 : Int) (c131 : List Int) (c132 : List Edge) (c133 : List Named) (c134 : List Graph) (c135 : List View) (s : Int) : St := ⟨265, [(4, .pv (.int .i64 c121)), (5, .pv (.int .i64 c122)), (6, .pv (.sl (c123.map eInt))), (7, .pv (.sl (c124.map eInt))), (8, .pv (.sl (c125.map A3_Int.enc))), (19, .ref 101 0 0 0), (55, .hd 103 0 ((c134.map Graph.enc).length) 3), (56, .pv (.int .i64 c126)), (57, .pv (.int .i64 c127)), (245, .hd 105 0 ((c135.map View.enc).length) 5), (246, .pv (.int .i64 c128)), (247, .pv (.int .i64 s))], [(101, .varp [.int .i64 c129, .int .i64 c130, .sl (c131.map eInt), .sl (c132.map Edge.enc), .sl (c133.map Named.enc)]), (103, .sl false 3 (c134.map Graph.enc)), (105, .sl false 5 (c135.map View.enc))]⟩
abbrev w7ForestMatchesReference.l3.post (c121 : Int) (c122 : Int) (c123 : List Int) (c124 : List Int) (c125 : List A3_Int) (c126 : Int) (c127 : Int) (c128 : Int) (c129 : Int) (c130 : Int) (c131 : List Int) (c132 : List Edge) (c133 : List Named) (c134 : List Graph) (c135 : List View) (r : AV) (outs : List AObj) (q : Unit ⊕ Unit) : Prop := match q with | .inl q => WK Try.prog (3, 0) [.code (sub b3 [1, 1, 0, 1, 0, 0, 1, 1, 0, 0, 1, 1, 1, 1, 1, 1, 0, 0, 1, 1, 0, 0, 1, 1, 0, 1]), .inBlock 9, .code (sub b3 [1, 1, 0, 1, 0, 0, 1, 1, 0, 0, 1, 1, 1, 1, 1, 1, 0, 0, 1, 1, 1]), .inLoop (sub b3 [1, 1, 0, 1, 0, 0, 1, 1, 0, 0, 1, 1, 1, 1, 1, 1, 0, 0]), .inBlock 8, .inBlock 1, .code (sub b3 [1, 1, 0, 1, 0, 0, 1, 1, 1]), .inLoop (sub b3 [1, 1, 0, 1, 0, 0]), .inBlock 0, .code (sub b3 [1, 1, 1])] ⟨265, [(20, .pv (.bool false))], []⟩ r outs | .inr q => WK Try.prog (3, 0) [.code (sub b3 [1, 1, 0, 1, 0, 0, 1, 1, 1]), .inLoop (sub b3 [1, 1, 0, 1, 0, 0]), .inBlock 0, .code (sub b3 [1, 1, 1])] ⟨265, [(4, .pv (.int .i64 c121)), (5, .pv (.int .i64 c122)), (6, .pv (.sl (c123.map eInt))), (7, .pv (.sl (c124.map eInt))), (8, .pv (.sl (c125.map A3_Int.enc))), (19, .ref 101 0 0 0), (55, .hd 103 0 ((c134.map Graph.enc).length) 3), (56, .pv (.int .i64 c126)), (57, .pv (.int .i64 c127))], [(101, .varp [.int .i64 c129, .int .i64 c130, .sl (c131.map eInt), .sl (c132.map Edge.enc), .sl (c133.map Named.enc)]), (103, .sl false 3 (c134.map Graph.enc))]⟩ r outs
set_option maxHeartbeats 4000000 in
theorem w7ForestMatchesReference.l3.ok (c121 : Int) (c122 : Int) (c123 : List Int) (c124 : List Int) (c125 : List A3_Int) (c126 : Int) (c127 : Int) (c128 : Int) (c129 : Int) (c130 : Int) (c131 : List Int) (c132 : List Edge) (c133 : List Named) (c134 : List Graph) (c135 : List View) (r : AV) (outs : List AObj) (s : Int) (q : Unit ⊕ Unit) (h : loopN fuel (w7ForestMatchesReference.l3 c121 c122 c123 c124 c125 c126 c127 c128 c129 c130 c131 c132 c133 c134 c135) s = some q) (hd : w7ForestMatchesReference.l3.post c121 c122 c123 c124 c125 c126 c127 c128 c129 c130 c131 c132 c133 c134 c135 r outs q) :
  WK Try.prog (3, 0) [.inLoop (sub b3 [1, 1, 0, 1, 0, 0, 1, 1, 0, 0, 1, 1, 1, 1, 1, 1, 0, 0]), .inBlock 8, .inBlock 1, .code (sub b3 [1, 1, 0, 1, 0, 0, 1, 1, 1]), .inLoop (sub b3 [1, 1, 0, 1, 0, 0]), .inBlock 0, .code (sub b3 [1, 1, 1])] (w7ForestMatchesReference.l3.enc c121 c122 c123 c124 c125 c126 c127 c128 c129 c130 c131 c132 c133 c134 c135 s) r outs := by
 refine WK.loop (w7ForestMatchesReference.l3.enc c121 c122 c123 c124 c125 c126 c127 c128 c129 c130 c131 c132 c133 c134 c135) (w7ForestMatchesReference.l3 c121 c122 c123 c124 c125 c126 c127 c128 c129 c130 c131 c132 c133 c134 c135) (w7ForestMatchesReference.l3.post c121 c122 c123 c124 c125 c126 c127 c128 c129 c130 c131 c132 c133 c134 c135 r outs) ?_ fuel s q h hd
 intro s x hx hn
 unfold w7ForestMatchesReference.l3 at hx
 refine br_ok hx (fun h136 hx => ?_) (fun h136 hx => ?_)
 ·refine gd_ok hx fun h137 hx => ?_
  refine bd_ok hx fun a138 h139 hx => ?_
  refine bd_ok hx fun y140 e141 hx => ?_
  refine bd_ok hx fun y142 e143 hx => ?_
  let Q144 : List Prop := [(decide (s < c128)) = true, 0 ≤ (s : Int), (s : Int) < (((c135.map View.enc).length : Nat) : Int), (c135.map View.enc)[(0 + (s : Int).toNat)]? = some (View.enc a138), AV.pv (.int .i64 0) = .pv (.int .i64 0), AV.pv (.int .i64 0) = .pv (.int .i64 0), 5 = 5, Spec Try.prog 29 [.aggp [.int .i64 a138.Vertex.ID, .int .i64 a138.Vertex.Side, .sl (a138.Depots.map eInt), .sl (a138.Edges.map Edge.enc), .sl (a138.Labels.map Named.enc)]] [] (.pv (.bool y140)) [], Spec Try.prog 30 [.aggp [.int .i64 a138.Vertex.ID, .int .i64 a138.Vertex.Side, .sl (a138.Depots.map eInt), .sl (a138.Edges.map Edge.enc), .sl (a138.Labels.map Named.enc)]] [] (.pv (.bool y142)) []]
  have k145 : All Q144 := ⟨h136, h137.1, lenLt h137.2, rowOb h139, rfl, rfl, rfl, forest_Good.ok a138 e141, r7Good.ok a138 e143, trivial⟩
  refine br_ok hx (fun h146 hx => ?_) (fun h146 hx => ?_)
  ·obtain rfl := sI hx
   exact WK.run (an := [.lp, .reg [], .br true, .reg [(1, none, .row (View.enc a138)), (2, none, .nmv 1029 (.aggp [.int .i64 0, .int .i64 0, .sl ([].map eInt), .sl ([].map Edge.enc), .sl ([].map Named.enc)]))], .draw [0, 1, 2, 3, 4, 5, 6, 7, 8, 9, 10, 11] [(1, none, .call [] [] (.pv (.bool y140)) [] []), (3, none, .call [] [] (.pv (.bool y142)) [] []), (6, some true, .no), (7, some true, .no), (8, some true, .no), (9, some true, .no), (10, some true, .no), (11, none, .bit true)], .bk, .reg []]) (kt := [20]) (ko := []) (ps := (Q144 ++ [(!(y140 == y142)) = true, (!(y140 == y142)) = true, (!(y140 == y142)) = true, (!(y140 == y142)) = true, (!(y140 == y142)) = true, (!(y140 == y142)) = true])) (by kernel_rfl) (All_append.2 ⟨k145, ⟨h146, h146, h146, h146, h146, h146, trivial⟩⟩) hn
  ·refine bd_ok hx fun y147 e148 hx => ?_
   refine bd_ok hx fun y149 e150 hx => ?_
   let A151 : List An := [.lp, .reg [], .br true, .reg [(1, none, .row (View.enc a138)), (2, none, .nmv 1029 (.aggp [.int .i64 0, .int .i64 0, .sl ([].map eInt), .sl ([].map Edge.enc), .sl ([].map Named.enc)]))], .draw [0, 1, 2, 3, 4, 5, 6, 7, 8, 9, 10, 11] [(1, none, .call [] [] (.pv (.bool y140)) [] []), (3, none, .call [] [] (.pv (.bool y142)) [] []), (6, some false, .no), (7, some false, .call [] [] (.pv (.int .i64 y147)) [] []), (8, some false, .no), (9, some false, .call [] [] (.pv (.int .i64 y149)) [] []), (10, some false, .no), (11, none, .bit false)]]
   let Q152 : List Prop := (Q144 ++ [(!(y140 == y142)) = false, (!(y140 == y142)) = false, Spec Try.prog 31 [.aggp [.int .i64 a138.Vertex.ID, .int .i64 a138.Vertex.Side, .sl (a138.Depots.map eInt), .sl (a138.Edges.map Edge.enc), .sl (a138.Labels.map Named.enc)]] [] (.pv (.int .i64 y147)) [], (!(y140 == y142)) = false, (!(y140 == y142)) = false, Spec Try.prog 32 [.aggp [.int .i64 a138.Vertex.ID, .int .i64 a138.Vertex.Side, .sl (a138.Depots.map eInt), .sl (a138.Edges.map Edge.enc), .sl (a138.Labels.map Named.enc)]] [] (.pv (.int .i64 y149)) [], (!(y140 == y142)) = false, (!(y140 == y142)) = false])
   have k153 : All Q152 := (All_append.2 ⟨k145, ⟨h146, h146, forest_Count.ok a138 e148, h146, h146, r7Count.ok a138 e150, h146, h146, trivial⟩⟩)
   refine br_ok hx (fun h154 hx => ?_) (fun h154 hx => ?_)
   ·obtain rfl := sI hx
    exact WK.run (an := (A151 ++ [.br true, .reg []])) (kt := [20]) (ko := []) (ps := (Q152 ++ [(y147 != y149) = true])) (by kernel_rfl) (All_append.2 ⟨k153, ⟨h154, trivial⟩⟩) hn
   ·obtain rfl := sI hx
    exact WK.run (an := (A151 ++ [.br false, .reg []])) (kt := [4, 5, 6, 7, 8, 19, 55, 56, 57, 245, 246, 247]) (ko := [(101, 101), (103, 103), (105, 105)]) (ps := (Q152 ++ [(y147 != y149) = false])) (by kernel_rfl) (All_append.2 ⟨k153, ⟨h154, trivial⟩⟩) hn
 ·obtain rfl := sI hx
  exact WK.run (an := [.lp, .reg [], .br false]) (kt := [4, 5, 6, 7, 8, 19, 55, 56, 57]) (ko := [(101, 101), (103, 103)]) (ps := [(decide (s < c128)) = false]) (by kernel_rfl) ⟨h136, trivial⟩ hn
noncomputable def w7ForestMatchesReference.l4 (c18 : Int) (c19 : Int) (c20 : List Int) (c21 : List Int) (c22 : List A3_Int) (c23 : Int) (c24 : Int) (c25 : Int) (c26 : List Int) (c27 : List Edge) (c28 : List Named) (c29 : List Graph) (s : Int) : Option (Nx Int (Unit ⊕ Unit ⊕ Unit ⊕ Unit ⊕ Unit ⊕ Unit)) :=
 br (decide (s < c23)) (
  gd (0 ≤ (s : Int) ∧ (s : Int) < ((c29.length : Nat) : Int)) <|
  bd (c29[(0 + (s : Int).toNat)]?) fun a32 =>
  bd (forest_Labels a32) fun y34 =>
  bd (r7Labels a32) fun y36 =>
  br (y34.2 != y36.2) (
   some (.done (.inl ()))) (
   bd (r7SameLabels y34.1 y36.1) fun y42 =>
   br (!y42) (
    some (.done (.inl ()))) (
    bd (w7pick c18 10) fun y45 =>
    bd (w7pick c19 10) fun y47 =>
    bd (loopN fuel (w7ForestMatchesReference.l2 c18 c19 c20 c21 c22 y36.1 c23 s ((2 : Nat) : Int) c24 c25 c26 c27 c28 a32.Vertices a32.Edges a32.Depots c29 [(A2_Int.mk c18 c19), (A2_Int.mk y45 y47)]) 0) fun q49 =>
    match q49 with
    | .inl q49 =>
     some (.done (.inr (.inl ())))
    | .inr (.inl q49) =>
     some (.done (.inr (.inr (.inl ()))))
    | .inr (.inr (.inl q49)) =>
     some (.done (.inr (.inr (.inr (.inl ())))))
    | .inr (.inr (.inr q49)) =>
     bd (w7short (View.mk (Vertex.mk c24 c25) c26 c27 c28)) fun y51 =>
     bd (w7pick c18 10) fun y53 =>
     bd (r7View a32 y36.1 y53) fun y55 =>
     bd (r7Bent y36.1 c22) fun y57 =>
     bd (w7pick c18 10) fun y59 =>
     bd (r7View a32 y57 y59) fun y61 =>
     bd (loopN fuel (w7ForestMatchesReference.l3 c18 c19 c20 c21 c22 c23 s ((3 : Nat) : Int) c24 c25 c26 c27 c28 c29 [y51, y55, y61]) 0) fun q63 =>
     match q63 with
     | .inl q63 =>
      some (.done (.inr (.inr (.inr (.inr (.inl ()))))))
     | .inr q63 =>
      some (.cont (IntKind.i64.wrap (s + 1)))))) (
  some (.done (.inr (.inr (.inr (.inr (.inr ())))))))
abbrev w7ForestMatchesReference.l4.enc (c18 : Int) (c19 : Int) (c20 : List Int) (c21 : List Int) (c22 : List A3_Int) (c23 : Int) (c24 : Int) (c25 : Int) (c26 : List Int) (c27 : List Edge) (c28 : List Named) (c29 : List Graph) (s : Int) : St := ⟨265, [(4, .pv (.int .i64 c18)), (5, .pv (.int .i64 c19)), (6, .pv (.sl (c20.map eInt))), (7, .pv (.sl (c21.map eInt))), (8, .pv (.sl (c22.map A3_Int.enc))), (19, .ref 101 0 0 0), (55, .hd 103 0 ((c29.map Graph.enc).length) 3), (56, .pv (.int .i64 c23)), (57, .pv (.int .i64 s))], [(101, .varp [.int .i64 c24, .int .i64 c25, .sl (c26.map eInt), .sl (c27.map Edge.enc), .sl (c28.map Named.enc)]), (103, .sl false 3 (c29.map Graph.enc))]⟩
abbrev w7ForestMatchesReference.l4.post (c18 : Int) (c19 : Int) (c20 : List Int) (c21 : List Int) (c22 : List A3_Int) (c23 : Int) (c24 : Int) (c25 : Int) (c26 : List Int) (c27 : List Edge) (c28 : List Named) (c29 : List Graph) (r : AV) (outs : List AObj) (q : Unit ⊕ Unit ⊕ Unit ⊕ Unit ⊕ Unit ⊕ Unit) : Prop := match q with | .inl q => WK Try.prog (3, 0) [.code (sub b3 [1, 1, 0, 1, 0, 0, 1, 1, 0, 0, 1, 1, 1, 0, 1, 0, 1]), .code (sub b3 [1, 1, 0, 1, 0, 0, 1, 1, 0, 0, 1, 1, 1, 1]), .inBlock 1, .code (sub b3 [1, 1, 0, 1, 0, 0, 1, 1, 1]), .inLoop (sub b3 [1, 1, 0, 1, 0, 0]), .inBlock 0, .code (sub b3 [1, 1, 1])] ⟨265, [(20, .pv (.bool false))], []⟩ r outs | .inr (.inl q) => WK Try.prog (3, 0) [.code (sub b3 [1, 1, 0, 1, 0, 0, 1, 1, 0, 0, 1, 1, 1, 1, 0, 1, 0, 0, 1, 1, 0, 0, 1, 1, 1, 1, 1, 1, 1, 0, 1, 0, 1]), .code (sub b3 [1, 1, 0, 1, 0, 0, 1, 1, 0, 0, 1, 1, 1, 1, 0, 1, 0, 0, 1, 1, 0, 0, 1, 1, 1, 1, 1, 1, 1, 1]), .inBlock 3, .code (sub b3 [1, 1, 0, 1, 0, 0, 1, 1, 0, 0, 1, 1, 1, 1, 0, 1, 0, 0, 1, 1, 1]), .inLoop (sub b3 [1, 1, 0, 1, 0, 0, 1, 1, 0, 0, 1, 1, 1, 1, 0, 1, 0, 0]), .inBlock 2, .code (sub b3 [1, 1, 0, 1, 0, 0, 1, 1, 0, 0, 1, 1, 1, 1, 1]), .inBlock 1, .code (sub b3 [1, 1, 0, 1, 0, 0, 1, 1, 1]), .inLoop (sub b3 [1, 1, 0, 1, 0, 0]), .inBlock 0, .code (sub b3 [1, 1, 1])] ⟨265, [(20, .pv (.bool false))], []⟩ r outs | .inr (.inr (.inl q)) => WK Try.prog (3, 0) [.code (sub b3 [1, 1, 0, 1, 0, 0, 1, 1, 0, 0, 1, 1, 1, 1, 0, 1, 0, 0, 1, 1, 0, 0, 1, 1, 1, 1, 1, 1, 1, 1, 0, 1, 0, 0, 1, 1, 0, 0, 1, 1, 0, 1]), .inBlock 5, .code (sub b3 [1, 1, 0, 1, 0, 0, 1, 1, 0, 0, 1, 1, 1, 1, 0, 1, 0, 0, 1, 1, 0, 0, 1, 1, 1, 1, 1, 1, 1, 1, 0, 1, 0, 0, 1, 1, 1]), .inLoop (sub b3 [1, 1, 0, 1, 0, 0, 1, 1, 0, 0, 1, 1, 1, 1, 0, 1, 0, 0, 1, 1, 0, 0, 1, 1, 1, 1, 1, 1, 1, 1, 0, 1, 0, 0]), .inBlock 4, .code (sub b3 [1, 1, 0, 1, 0, 0, 1, 1, 0, 0, 1, 1, 1, 1, 0, 1, 0, 0, 1, 1, 0, 0, 1, 1, 1, 1, 1, 1, 1, 1, 1]), .inBlock 3, .code (sub b3 [1, 1, 0, 1, 0, 0, 1, 1, 0, 0, 1, 1, 1, 1, 0, 1, 0, 0, 1, 1, 1]), .inLoop (sub b3 [1, 1, 0, 1, 0, 0, 1, 1, 0, 0, 1, 1, 1, 1, 0, 1, 0, 0]), .inBlock 2, .code (sub b3 [1, 1, 0, 1, 0, 0, 1, 1, 0, 0, 1, 1, 1, 1, 1]), .inBlock 1, .code (sub b3 [1, 1, 0, 1, 0, 0, 1, 1, 1]), .inLoop (sub b3 [1, 1, 0, 1, 0, 0]), .inBlock 0, .code (sub b3 [1, 1, 1])] ⟨265, [(20, .pv (.bool false))], []⟩ r outs | .inr (.inr (.inr (.inl q))) => WK Try.prog (3, 0) [.code (sub b3 [1, 1, 0, 1, 0, 0, 1, 1, 0, 0, 1, 1, 1, 1, 0, 1, 0, 0, 1, 1, 0, 0, 1, 1, 1, 1, 1, 1, 1, 1, 1, 1, 0, 0, 1, 1, 0, 0, 1, 1, 0, 1]), .inBlock 7, .code (sub b3 [1, 1, 0, 1, 0, 0, 1, 1, 0, 0, 1, 1, 1, 1, 0, 1, 0, 0, 1, 1, 0, 0, 1, 1, 1, 1, 1, 1, 1, 1, 1, 1, 0, 0, 1, 1, 1]), .inLoop (sub b3 [1, 1, 0, 1, 0, 0, 1, 1, 0, 0, 1, 1, 1, 1, 0, 1, 0, 0, 1, 1, 0, 0, 1, 1, 1, 1, 1, 1, 1, 1, 1, 1, 0, 0]), .inBlock 6, .inBlock 3, .code (sub b3 [1, 1, 0, 1, 0, 0, 1, 1, 0, 0, 1, 1, 1, 1, 0, 1, 0, 0, 1, 1, 1]), .inLoop (sub b3 [1, 1, 0, 1, 0, 0, 1, 1, 0, 0, 1, 1, 1, 1, 0, 1, 0, 0]), .inBlock 2, .code (sub b3 [1, 1, 0, 1, 0, 0, 1, 1, 0, 0, 1, 1, 1, 1, 1]), .inBlock 1, .code (sub b3 [1, 1, 0, 1, 0, 0, 1, 1, 1]), .inLoop (sub b3 [1, 1, 0, 1, 0, 0]), .inBlock 0, .code (sub b3 [1, 1, 1])] ⟨265, [(20, .pv (.bool false))], []⟩ r outs | .inr (.inr (.inr (.inr (.inl q)))) => WK Try.prog (3, 0) [.code (sub b3 [1, 1, 0, 1, 0, 0, 1, 1, 0, 0, 1, 1, 1, 1, 1, 1, 0, 0, 1, 1, 0, 0, 1, 1, 0, 1]), .inBlock 9, .code (sub b3 [1, 1, 0, 1, 0, 0, 1, 1, 0, 0, 1, 1, 1, 1, 1, 1, 0, 0, 1, 1, 1]), .inLoop (sub b3 [1, 1, 0, 1, 0, 0, 1, 1, 0, 0, 1, 1, 1, 1, 1, 1, 0, 0]), .inBlock 8, .inBlock 1, .code (sub b3 [1, 1, 0, 1, 0, 0, 1, 1, 1]), .inLoop (sub b3 [1, 1, 0, 1, 0, 0]), .inBlock 0, .code (sub b3 [1, 1, 1])] ⟨265, [(20, .pv (.bool false))], []⟩ r outs | .inr (.inr (.inr (.inr (.inr q)))) => WK Try.prog (3, 0) [.code (sub b3 [1, 1, 1, 0]), .code (sub b3 [1, 1, 1, 1])] ⟨265, [], []⟩ r outs
set_option maxHeartbeats 4000000 in
theorem w7ForestMatchesReference.l4.ok (c18 : Int) (c19 : Int) (c20 : List Int) (c21 : List Int) (c22 : List A3_Int) (c23 : Int) (c24 : Int) (c25 : Int) (c26 : List Int) (c27 : List Edge) (c28 : List Named) (c29 : List Graph) (r : AV) (outs : List AObj) (s : Int) (q : Unit ⊕ Unit ⊕ Unit ⊕ Unit ⊕ Unit ⊕ Unit) (h : loopN fuel (w7ForestMatchesReference.l4 c18 c19 c20 c21 c22 c23 c24 c25 c26 c27 c28 c29) s = some q) (hd : w7ForestMatchesReference.l4.post c18 c19 c20 c21 c22 c23 c24 c25 c26 c27 c28 c29 r outs q) :
  WK Try.prog (3, 0) [.inLoop (sub b3 [1, 1, 0, 1, 0, 0]), .inBlock 0, .code (sub b3 [1, 1, 1])] (w7ForestMatchesReference.l4.enc c18 c19 c20 c21 c22 c23 c24 c25 c26 c27 c28 c29 s) r outs := by
 refine WK.loop (w7ForestMatchesReference.l4.enc c18 c19 c20 c21 c22 c23 c24 c25 c26 c27 c28 c29) (w7ForestMatchesReference.l4 c18 c19 c20 c21 c22 c23 c24 c25 c26 c27 c28 c29) (w7ForestMatchesReference.l4.post c18 c19 c20 c21 c22 c23 c24 c25 c26 c27 c28 c29 r outs) ?_ fuel s q h hd
 intro s x hx hn
 unfold w7ForestMatchesReference.l4 at hx
 refine br_ok hx (fun h30 hx => ?_) (fun h30 hx => ?_)
 ·refine gd_ok hx fun h31 hx => ?_
  refine bd_ok hx fun a32 h33 hx => ?_
  refine bd_ok hx fun y34 e35 hx => ?_
  refine bd_ok hx fun y36 e37 hx => ?_
  let A38 : List An := [.lp, .reg [], .br true, .reg [(1, none, .row (Graph.enc a32)), (2, none, .nmv 1031 (.aggp [.sl ([].map Vertex.enc), .sl ([].map Edge.enc), .sl ([].map eInt)]))], .reg [(1, none, .call [] [] (.tup [.pv (.sl (y34.1.map Named.enc)), .pv (.int .i64 y34.2)]) [] [])], .reg [(1, none, .call [] [] (.tup [.pv (.sl (y36.1.map Named.enc)), .pv (.int .i64 y36.2)]) [] [])]]
  let Q39 : List Prop := [(decide (s < c23)) = true, 0 ≤ (s : Int), (s : Int) < (((c29.map Graph.enc).length : Nat) : Int), (c29.map Graph.enc)[(0 + (s : Int).toNat)]? = some (Graph.enc a32), 3 = 3, Spec Try.prog 11 [.aggp [.sl (a32.Vertices.map Vertex.enc), .sl (a32.Edges.map Edge.enc), .sl (a32.Depots.map eInt)]] [] (.tup [.pv (.sl (y34.1.map Named.enc)), .pv (.int .i64 y34.2)]) [], Spec Try.prog 12 [.aggp [.sl (a32.Vertices.map Vertex.enc), .sl (a32.Edges.map Edge.enc), .sl (a32.Depots.map eInt)]] [] (.tup [.pv (.sl (y36.1.map Named.enc)), .pv (.int .i64 y36.2)]) []]
  have k40 : All Q39 := ⟨h30, h31.1, lenLt h31.2, rowOb h33, rfl, forest_Labels.ok a32 e35, r7Labels.ok a32 e37, trivial⟩
  refine br_ok hx (fun h41 hx => ?_) (fun h41 hx => ?_)
  ·obtain rfl := sI hx
   exact WK.run (an := (A38 ++ [.reg [(4, some true, .no)], .bk, .reg []])) (kt := [20]) (ko := []) (ps := (Q39 ++ [(y34.2 != y36.2) = true])) (by kernel_rfl) (All_append.2 ⟨k40, ⟨h41, trivial⟩⟩) hn
  ·refine bd_ok hx fun y42 e43 hx => ?_
   refine br_ok hx (fun h44 hx => ?_) (fun h44 hx => ?_)
   ·obtain rfl := sI hx
    exact WK.run (an := (A38 ++ [.reg [(4, some false, .no), (6, none, .call [] [] (.pv (.bool y42)) [] [])], .br true, .reg []])) (kt := [20]) (ko := []) (ps := (Q39 ++ [(y34.2 != y36.2) = false, Spec Try.prog 13 [.pv (.sl (y34.1.map Named.enc)), .pv (.sl (y36.1.map Named.enc))] [] (.pv (.bool y42)) [], (!y42) = true])) (by kernel_rfl) (All_append.2 ⟨k40, ⟨h41, r7SameLabels.ok y34.1 y36.1 e43, h44, trivial⟩⟩) hn
   ·refine bd_ok hx fun y45 e46 hx => ?_
    refine bd_ok hx fun y47 e48 hx => ?_
    refine bd_ok hx fun q49 e50 hx => ?_
    refine WK.run (an := (A38 ++ [.reg [(4, some false, .no), (6, none, .call [] [] (.pv (.bool y42)) [] [])], .br false, .reg [(4, none, .call [] [] (.pv (.int .i64 y45)) [] []), (6, none, .call [] [] (.pv (.int .i64 y47)) [] []), (8, none, .nm 1033)]])) (kt := [4, 5, 6, 7, 8, 19, 22, 25, 55, 56, 57, 88, 89, 90]) (ko := [(101, 101), (1031, 103), (103, 105), (1033, 107)]) (ps := (Q39 ++ [(y34.2 != y36.2) = false, Spec Try.prog 13 [.pv (.sl (y34.1.map Named.enc)), .pv (.sl (y36.1.map Named.enc))] [] (.pv (.bool y42)) [], (!y42) = false, Spec Try.prog 14 [.pv (.int .i64 c18), .pv (.int .i64 10)] [] (.pv (.int .i64 y45)) [], Spec Try.prog 14 [.pv (.int .i64 c19), .pv (.int .i64 10)] [] (.pv (.int .i64 y47)) [], 2 = 2, 2 = 2, 2 = 2])) (by kernel_rfl) (All_append.2 ⟨k40, ⟨h41, r7SameLabels.ok y34.1 y36.1 e43, h44, w7pick.ok c18 10 e46, w7pick.ok c19 10 e48, rfl, rfl, rfl, trivial⟩⟩) (WK.enterLoop (w7ForestMatchesReference.l2.ok c18 c19 c20 c21 c22 y36.1 c23 s ((2 : Nat) : Int) c24 c25 c26 c27 c28 a32.Vertices a32.Edges a32.Depots c29 [(A2_Int.mk c18 c19), (A2_Int.mk y45 y47)] _ _ _ _ e50 ?_))
    rcases q49 with (q49 | (q49 | (q49 | q49)))
    ·obtain rfl := sI hx
     exact WK.run (an := []) (kt := [20]) (ko := []) (ps := []) (by kernel_rfl) trivial hn
    ·obtain rfl := sI hx
     exact WK.run (an := []) (kt := [20]) (ko := []) (ps := []) (by kernel_rfl) trivial hn
    ·obtain rfl := sI hx
     exact WK.run (an := []) (kt := [20]) (ko := []) (ps := []) (by kernel_rfl) trivial hn
    ·refine bd_ok hx fun y51 e52 hx => ?_
     refine bd_ok hx fun y53 e54 hx => ?_
     refine bd_ok hx fun y55 e56 hx => ?_
     refine bd_ok hx fun y57 e58 hx => ?_
     refine bd_ok hx fun y59 e60 hx => ?_
     refine bd_ok hx fun y61 e62 hx => ?_
     refine bd_ok hx fun q63 e64 hx => ?_
     refine WK.run (an := [.draw [0, 1, 2, 3, 4, 5, 6, 7, 8, 9, 10, 11, 12, 13, 14, 15, 16] [(1, none, .call [] [] (.aggp [.int .i64 y51.Vertex.ID, .int .i64 y51.Vertex.Side, .sl (y51.Depots.map eInt), .sl (y51.Edges.map Edge.enc), .sl (y51.Labels.map Named.enc)]) [] []), (5, none, .call [] [] (.pv (.int .i64 y53)) [] []), (6, none, .call [] [] (.aggp [.int .i64 y55.Vertex.ID, .int .i64 y55.Vertex.Side, .sl (y55.Depots.map eInt), .sl (y55.Edges.map Edge.enc), .sl (y55.Labels.map Named.enc)]) [] []), (10, none, .call [] [] (.pv (.sl (y57.map Named.enc))) [] []), (12, none, .call [] [] (.pv (.int .i64 y59)) [] []), (13, none, .call [] [] (.aggp [.int .i64 y61.Vertex.ID, .int .i64 y61.Vertex.Side, .sl (y61.Depots.map eInt), .sl (y61.Edges.map Edge.enc), .sl (y61.Labels.map Named.enc)]) [] []), (14, none, .nm 1035)]]) (kt := [4, 5, 6, 7, 8, 19, 55, 56, 57, 245, 246, 247]) (ko := [(101, 101), (105, 103), (1035, 105)]) (ps := [Spec Try.prog 26 [.aggp [.int .i64 c24, .int .i64 c25, .sl (c26.map eInt), .sl (c27.map Edge.enc), .sl (c28.map Named.enc)]] [] (.aggp [.int .i64 y51.Vertex.ID, .int .i64 y51.Vertex.Side, .sl (y51.Depots.map eInt), .sl (y51.Edges.map Edge.enc), .sl (y51.Labels.map Named.enc)]) [], Spec Try.prog 14 [.pv (.int .i64 c18), .pv (.int .i64 10)] [] (.pv (.int .i64 y53)) [], Spec Try.prog 27 [.aggp [.sl (a32.Vertices.map Vertex.enc), .sl (a32.Edges.map Edge.enc), .sl (a32.Depots.map eInt)], .pv (.sl (y36.1.map Named.enc)), .pv (.int .i64 y53)] [] (.aggp [.int .i64 y55.Vertex.ID, .int .i64 y55.Vertex.Side, .sl (y55.Depots.map eInt), .sl (y55.Edges.map Edge.enc), .sl (y55.Labels.map Named.enc)]) [], Spec Try.prog 28 [.pv (.sl (y36.1.map Named.enc)), .pv (.sl (c22.map A3_Int.enc))] [] (.pv (.sl (y57.map Named.enc))) [], Spec Try.prog 14 [.pv (.int .i64 c18), .pv (.int .i64 10)] [] (.pv (.int .i64 y59)) [], Spec Try.prog 27 [.aggp [.sl (a32.Vertices.map Vertex.enc), .sl (a32.Edges.map Edge.enc), .sl (a32.Depots.map eInt)], .pv (.sl (y57.map Named.enc)), .pv (.int .i64 y59)] [] (.aggp [.int .i64 y61.Vertex.ID, .int .i64 y61.Vertex.Side, .sl (y61.Depots.map eInt), .sl (y61.Edges.map Edge.enc), .sl (y61.Labels.map Named.enc)]) [], 5 = 5, 5 = 5, 5 = 5, 5 = 5]) (by kernel_rfl) ⟨w7short.ok (View.mk (Vertex.mk c24 c25) c26 c27 c28) e52, w7pick.ok c18 10 e54, r7View.ok a32 y36.1 y53 e56, r7Bent.ok y36.1 c22 e58, w7pick.ok c18 10 e60, r7View.ok a32 y57 y59 e62, rfl, rfl, rfl, rfl, trivial⟩ (WK.enterLoop (w7ForestMatchesReference.l3.ok c18 c19 c20 c21 c22 c23 s ((3 : Nat) : Int) c24 c25 c26 c27 c28 c29 [y51, y55, y61] _ _ _ _ e64 ?_))
     rcases q63 with (q63 | q63)
     ·obtain rfl := sI hx
      exact WK.run (an := []) (kt := [20]) (ko := []) (ps := []) (by kernel_rfl) trivial hn
     ·obtain rfl := sI hx
      exact WK.run (an := [.reg []]) (kt := [4, 5, 6, 7, 8, 19, 55, 56, 57]) (ko := [(101, 101), (103, 103)]) (ps := []) (by kernel_rfl) trivial hn
 ·obtain rfl := sI hx
  exact WK.run (an := [.lp, .reg [], .br false]) (kt := []) (ko := []) (ps := [(decide (s < c23)) = false]) (by kernel_rfl) ⟨h30, trivial⟩ hn
noncomputable def w7ForestMatchesReference (v1 : Int) (v2 : List A5_Int) (v3 : Bool) (v4 : Graph) (v5 : Int) (v6 : Int) (v7 : List Int) (v8 : List Int) (v9 : List A3_Int) (v10 : View) : Option Bool :=
 bd (w7sane) fun y11 =>
 br (!y11) (
  some false) (
  bd (r3Made v1 v2 v3) fun y14 =>
  bd (w7few v4) fun y16 =>
  bd (loopN fuel (w7ForestMatchesReference.l4 v5 v6 v7 v8 v9 ((2 : Nat) : Int) v10.Vertex.ID v10.Vertex.Side v10.Depots v10.Edges v10.Labels [y14, y16]) 0) fun q65 =>
  match q65 with
  | .inl q65 =>
   some false
  | .inr (.inl q65) =>
   some false
  | .inr (.inr (.inl q65)) =>
   some false
  | .inr (.inr (.inr (.inl q65))) =>
   some false
  | .inr (.inr (.inr (.inr (.inl q65)))) =>
   some false
  | .inr (.inr (.inr (.inr (.inr q65)))) =>
   some true)
set_option maxHeartbeats 4000000 in
theorem w7ForestMatchesReference.ok (v1 : Int) (v2 : List A5_Int) (v3 : Bool) (v4 : Graph) (v5 : Int) (v6 : Int) (v7 : List Int) (v8 : List Int) (v9 : List A3_Int) (v10 : View) {x : Bool} (hx : w7ForestMatchesReference v1 v2 v3 v4 v5 v6 v7 v8 v9 v10 = some x) :
  Spec Try.prog 3 [.pv (.int .i64 v1), .pv (.sl (v2.map A5_Int.enc)), .pv (.bool v3), .aggp [.sl (v4.Vertices.map Vertex.enc), .sl (v4.Edges.map Edge.enc), .sl (v4.Depots.map eInt)], .pv (.int .i64 v5), .pv (.int .i64 v6), .pv (.sl (v7.map eInt)), .pv (.sl (v8.map eInt)), .pv (.sl (v9.map A3_Int.enc)), .aggp [.int .i64 v10.Vertex.ID, .int .i64 v10.Vertex.Side, .sl (v10.Depots.map eInt), .sl (v10.Edges.map Edge.enc), .sl (v10.Labels.map Named.enc)]] [] (.pv (.bool x)) [] := by
 refine Spec.of (c := b3) Try.func3 rfl rfl rfl ?_
 unfold w7ForestMatchesReference at hx
 refine bd_ok hx fun y11 e12 hx => ?_
 refine br_ok hx (fun h13 hx => ?_) (fun h13 hx => ?_)
 ·obtain rfl := sI hx
  exact WK.fin (fn := Try.f3) Try.func3 (an := [.reg [(0, none, .nm 1003), (1, none, .nm 1005)], .reg [(0, none, .call [] [] (.pv (.bool y11)) [] [])], .br true, .reg []]) (kt := [20]) (ko := []) (frz := []) (ps := [Spec Try.prog 8 [] [] (.pv (.bool y11)) [], (!y11) = true]) (qs := []) (by kernel_rfl) ⟨w7sane.ok  e12, h13, trivial⟩ trivial
 ·refine bd_ok hx fun y14 e15 hx => ?_
  refine bd_ok hx fun y16 e17 hx => ?_
  refine bd_ok hx fun q65 e66 hx => ?_
  refine WK.run (an := [.reg [(0, none, .nm 1003), (1, none, .nm 1005)], .reg [(0, none, .call [] [] (.pv (.bool y11)) [] [])], .br false, .draw [0, 1, 2, 3, 4, 5, 6, 7, 8] [(3, none, .call [] [] (.aggp [.sl (y14.Vertices.map Vertex.enc), .sl (y14.Edges.map Edge.enc), .sl (y14.Depots.map eInt)]) [] []), (5, none, .call [] [] (.aggp [.sl (y16.Vertices.map Vertex.enc), .sl (y16.Edges.map Edge.enc), .sl (y16.Depots.map eInt)]) [] []), (6, none, .nm 1007)]]) (kt := [4, 5, 6, 7, 8, 19, 55, 56, 57]) (ko := [(1005, 101), (1007, 103)]) (ps := [Spec Try.prog 8 [] [] (.pv (.bool y11)) [], (!y11) = false, Spec Try.prog 9 [.pv (.int .i64 v1), .pv (.sl (v2.map A5_Int.enc)), .pv (.bool v3)] [] (.aggp [.sl (y14.Vertices.map Vertex.enc), .sl (y14.Edges.map Edge.enc), .sl (y14.Depots.map eInt)]) [], Spec Try.prog 10 [.aggp [.sl (v4.Vertices.map Vertex.enc), .sl (v4.Edges.map Edge.enc), .sl (v4.Depots.map eInt)]] [] (.aggp [.sl (y16.Vertices.map Vertex.enc), .sl (y16.Edges.map Edge.enc), .sl (y16.Depots.map eInt)]) [], 3 = 3, 3 = 3, 3 = 3]) (by kernel_rfl) ⟨w7sane.ok  e12, h13, r3Made.ok v1 v2 v3 e15, w7few.ok v4 e17, rfl, rfl, rfl, trivial⟩ (WK.enterLoop (w7ForestMatchesReference.l4.ok v5 v6 v7 v8 v9 ((2 : Nat) : Int) v10.Vertex.ID v10.Vertex.Side v10.Depots v10.Edges v10.Labels [y14, y16] _ _ _ _ e66 ?_))
  rcases q65 with (q65 | (q65 | (q65 | (q65 | (q65 | q65)))))
  ·obtain rfl := sI hx
   exact WK.fin (fn := Try.f3) Try.func3 (an := []) (kt := [20]) (ko := []) (frz := []) (ps := []) (qs := []) (by kernel_rfl) trivial trivial
  ·obtain rfl := sI hx
   exact WK.fin (fn := Try.f3) Try.func3 (an := []) (kt := [20]) (ko := []) (frz := []) (ps := []) (qs := []) (by kernel_rfl) trivial trivial
  ·obtain rfl := sI hx
   exact WK.fin (fn := Try.f3) Try.func3 (an := []) (kt := [20]) (ko := []) (frz := []) (ps := []) (qs := []) (by kernel_rfl) trivial trivial
  ·obtain rfl := sI hx
   exact WK.fin (fn := Try.f3) Try.func3 (an := []) (kt := [20]) (ko := []) (frz := []) (ps := []) (qs := []) (by kernel_rfl) trivial trivial
  ·obtain rfl := sI hx
   exact WK.fin (fn := Try.f3) Try.func3 (an := []) (kt := [20]) (ko := []) (frz := []) (ps := []) (qs := []) (by kernel_rfl) trivial trivial
  ·obtain rfl := sI hx
   exact WK.fin (fn := Try.f3) Try.func3 (an := [.reg []]) (kt := [20]) (ko := []) (frz := []) (ps := []) (qs := []) (by kernel_rfl) trivial trivial
end Go.Fw.Gen
