/- Plain functions, and the proofs that the program computes them; printed by a program of our own. -/
import Derived.Test.YtpkjgdngkhnhpaaG2
set_option linter.unusedVariables false
namespace Go.Fw.Gen
open Go.Proofs Go.Fw
noncomputable abbrev b10 : Code := body Try.f10
noncomputable def w7few (v1 : Graph) : Option Graph :=
 gd (0 ≤ ((if 6 < ((v1.Vertices.length : Nat) : Int) then 6 else ((v1.Vertices.length : Nat) : Int)) : Int)) <|
 gd (((if 6 < ((v1.Vertices.length : Nat) : Int) then 6 else ((v1.Vertices.length : Nat) : Int)) : Int) ≤ (((v1.Vertices.map Vertex.enc).length : Nat) : Int)) <|
 gd (0 ≤ ((if 8 < ((v1.Edges.length : Nat) : Int) then 8 else ((v1.Edges.length : Nat) : Int)) : Int)) <|
 gd (((if 8 < ((v1.Edges.length : Nat) : Int) then 8 else ((v1.Edges.length : Nat) : Int)) : Int) ≤ (((v1.Edges.map Edge.enc).length : Nat) : Int)) <|
 gd (0 ≤ ((if 4 < ((v1.Depots.length : Nat) : Int) then 4 else ((v1.Depots.length : Nat) : Int)) : Int)) <|
 gd (((if 4 < ((v1.Depots.length : Nat) : Int) then 4 else ((v1.Depots.length : Nat) : Int)) : Int) ≤ (((v1.Depots.map eInt).length : Nat) : Int)) <|
 some (Graph.mk (v1.Vertices.take ((if 6 < ((v1.Vertices.length : Nat) : Int) then 6 else ((v1.Vertices.length : Nat) : Int)) : Int).toNat) (v1.Edges.take ((if 8 < ((v1.Edges.length : Nat) : Int) then 8 else ((v1.Edges.length : Nat) : Int)) : Int).toNat) (v1.Depots.take ((if 4 < ((v1.Depots.length : Nat) : Int) then 4 else ((v1.Depots.length : Nat) : Int)) : Int).toNat))
theorem w7few.ok (v1 : Graph) {x : Graph} (hx : w7few v1 = some x) :
  Spec Try.prog 10 [.aggp [.sl (v1.Vertices.map Vertex.enc), .sl (v1.Edges.map Edge.enc), .sl (v1.Depots.map eInt)]] [] (.aggp [.sl (x.Vertices.map Vertex.enc), .sl (x.Edges.map Edge.enc), .sl (x.Depots.map eInt)]) [] := by
 refine Spec.of (c := b10) Try.func10 rfl rfl rfl ?_
 unfold w7few at hx
 refine gd_ok hx fun h2 hx => ?_
 refine gd_ok hx fun h3 hx => ?_
 refine gd_ok hx fun h4 hx => ?_
 refine gd_ok hx fun h5 hx => ?_
 refine gd_ok hx fun h6 hx => ?_
 refine gd_ok hx fun h7 hx => ?_
 obtain rfl := sI hx
 exact WK.fin (fn := Try.f10) Try.func10 (an := [.reg [(0, none, .nm 1003), (1, none, .nmv 1005 (.aggp [.sl ([].map Vertex.enc), .sl ([].map Edge.enc), .sl ([].map eInt)]))], .draw [0, 1, 2, 3, 4, 5, 6, 7, 8, 9, 10, 11, 12, 13, 14, 15, 16, 17, 18, 19, 20, 21, 22] [(4, none, .val (.pv (.int .i64 ((v1.Vertices.length : Nat) : Int)))), (6, none, .sls ((v1.Vertices.take ((if 6 < ((v1.Vertices.length : Nat) : Int) then 6 else ((v1.Vertices.length : Nat) : Int)) : Int).toNat).map Vertex.enc)), (11, none, .val (.pv (.int .i64 ((v1.Edges.length : Nat) : Int)))), (13, none, .sls ((v1.Edges.take ((if 8 < ((v1.Edges.length : Nat) : Int) then 8 else ((v1.Edges.length : Nat) : Int)) : Int).toNat).map Edge.enc)), (18, none, .val (.pv (.int .i64 ((v1.Depots.length : Nat) : Int)))), (20, none, .sls ((v1.Depots.take ((if 4 < ((v1.Depots.length : Nat) : Int) then 4 else ((v1.Depots.length : Nat) : Int)) : Int).toNat).map eInt))]]) (kt := [2]) (ko := [(1005, 101)]) (frz := []) (ps := [AV.pv (.int .i64 ((v1.Vertices.map Vertex.enc).length : Nat)) = .pv (.int .i64 (v1.Vertices.length : Nat)), 0 ≤ ((if 6 < ((v1.Vertices.length : Nat) : Int) then 6 else ((v1.Vertices.length : Nat) : Int)) : Int), ((if 6 < ((v1.Vertices.length : Nat) : Int) then 6 else ((v1.Vertices.length : Nat) : Int)) : Int) ≤ (((v1.Vertices.map Vertex.enc).length : Nat) : Int), cut1 (v1.Vertices.map Vertex.enc) 0 (((if 6 < ((v1.Vertices.length : Nat) : Int) then 6 else ((v1.Vertices.length : Nat) : Int)) : Int).toNat - 0) = (v1.Vertices.take ((if 6 < ((v1.Vertices.length : Nat) : Int) then 6 else ((v1.Vertices.length : Nat) : Int)) : Int).toNat).map Vertex.enc, ∀ r ∈ (v1.Vertices.take ((if 6 < ((v1.Vertices.length : Nat) : Int) then 6 else ((v1.Vertices.length : Nat) : Int)) : Int).toNat).map Vertex.enc, r.length = 2, AV.pv (.int .i64 ((v1.Edges.map Edge.enc).length : Nat)) = .pv (.int .i64 (v1.Edges.length : Nat)), 0 ≤ ((if 8 < ((v1.Edges.length : Nat) : Int) then 8 else ((v1.Edges.length : Nat) : Int)) : Int), ((if 8 < ((v1.Edges.length : Nat) : Int) then 8 else ((v1.Edges.length : Nat) : Int)) : Int) ≤ (((v1.Edges.map Edge.enc).length : Nat) : Int), cut1 (v1.Edges.map Edge.enc) 0 (((if 8 < ((v1.Edges.length : Nat) : Int) then 8 else ((v1.Edges.length : Nat) : Int)) : Int).toNat - 0) = (v1.Edges.take ((if 8 < ((v1.Edges.length : Nat) : Int) then 8 else ((v1.Edges.length : Nat) : Int)) : Int).toNat).map Edge.enc, ∀ r ∈ (v1.Edges.take ((if 8 < ((v1.Edges.length : Nat) : Int) then 8 else ((v1.Edges.length : Nat) : Int)) : Int).toNat).map Edge.enc, r.length = 6, AV.pv (.int .i64 ((v1.Depots.map eInt).length : Nat)) = .pv (.int .i64 (v1.Depots.length : Nat)), 0 ≤ ((if 4 < ((v1.Depots.length : Nat) : Int) then 4 else ((v1.Depots.length : Nat) : Int)) : Int), ((if 4 < ((v1.Depots.length : Nat) : Int) then 4 else ((v1.Depots.length : Nat) : Int)) : Int) ≤ (((v1.Depots.map eInt).length : Nat) : Int), cut1 (v1.Depots.map eInt) 0 (((if 4 < ((v1.Depots.length : Nat) : Int) then 4 else ((v1.Depots.length : Nat) : Int)) : Int).toNat - 0) = (v1.Depots.take ((if 4 < ((v1.Depots.length : Nat) : Int) then 4 else ((v1.Depots.length : Nat) : Int)) : Int).toNat).map eInt, ∀ r ∈ (v1.Depots.take ((if 4 < ((v1.Depots.length : Nat) : Int) then 4 else ((v1.Depots.length : Nat) : Int)) : Int).toNat).map eInt, r.length = 1, 3 = 3]) (qs := []) (by kernel_rfl) ⟨lenOb, h2, h3, cut_hi, map_len fun _ => rfl, lenOb, h4, h5, cut_hi, map_len fun _ => rfl, lenOb, h6, h7, cut_hi, map_len fun _ => rfl, rfl, trivial⟩ trivial
noncomputable abbrev b92 : Code := body Try.f92
noncomputable def r3in (v1 : Int) (v2 : Int) (v3 : Int) : Option Bool :=
 br (decide (v1 ≥ v2)) (
  some (decide (v1 ≤ v3))) (
  some false)
theorem r3in.ok (v1 : Int) (v2 : Int) (v3 : Int) {x : Bool} (hx : r3in v1 v2 v3 = some x) :
  Spec Try.prog 92 [.pv (.int .i64 v1), .pv (.int .i64 v2), .pv (.int .i64 v3)] [] (.pv (.bool x)) [] := by
 refine Spec.of (c := b92) Try.func92 rfl rfl rfl ?_
 unfold r3in at hx
 refine br_ok hx (fun h4 hx => ?_) (fun h4 hx => ?_)
 ·obtain rfl := sI hx
  exact WK.fin (fn := Try.f92) Try.func92 (an := [.reg [], .reg [(4, some true, .no)]]) (kt := [6]) (ko := []) (frz := []) (ps := [(decide (v1 ≥ v2)) = true]) (qs := []) (by kernel_rfl) ⟨h4, trivial⟩ trivial
 ·obtain rfl := sI hx
  exact WK.fin (fn := Try.f92) Try.func92 (an := [.reg [], .reg [(4, some false, .no)]]) (kt := [6]) (ko := []) (frz := []) (ps := [(decide (v1 ≥ v2)) = false]) (qs := []) (by kernel_rfl) ⟨h4, trivial⟩ trivial
noncomputable abbrev b73 : Code := body Try.f73
noncomputable def r3vertex (v1 : Vertex) : Option Bool :=
 bd (r3in v1.ID 0 23) fun y2 =>
 br y2 (
  bd (r3in v1.Side 0 3) fun y5 =>
  some y5) (
  some false)
theorem r3vertex.ok (v1 : Vertex) {x : Bool} (hx : r3vertex v1 = some x) :
  Spec Try.prog 73 [.aggp [.int .i64 v1.ID, .int .i64 v1.Side]] [] (.pv (.bool x)) [] := by
 refine Spec.of (c := b73) Try.func73 rfl rfl rfl ?_
 unfold r3vertex at hx
 refine bd_ok hx fun y2 e3 hx => ?_
 refine br_ok hx (fun h4 hx => ?_) (fun h4 hx => ?_)
 ·refine bd_ok hx fun y5 e6 hx => ?_
  obtain rfl := sI hx
  exact WK.fin (fn := Try.f73) Try.func73 (an := [.reg [(0, none, .nm 1003)], .reg [(2, none, .call [] [] (.pv (.bool y2)) [] []), (4, some true, .no), (6, none, .call [] [] (.pv (.bool y5)) [] [])]]) (kt := [2]) (ko := []) (frz := []) (ps := [Spec Try.prog 92 [.pv (.int .i64 v1.ID), .pv (.int .i64 0), .pv (.int .i64 23)] [] (.pv (.bool y2)) [], y2 = true, Spec Try.prog 92 [.pv (.int .i64 v1.Side), .pv (.int .i64 0), .pv (.int .i64 3)] [] (.pv (.bool y5)) []]) (qs := []) (by kernel_rfl) ⟨r3in.ok v1.ID 0 23 e3, h4, r3in.ok v1.Side 0 3 e6, trivial⟩ trivial
 ·obtain rfl := sI hx
  exact WK.fin (fn := Try.f73) Try.func73 (an := [.reg [(0, none, .nm 1003)], .reg [(2, none, .call [] [] (.pv (.bool y2)) [] []), (4, some false, .no)]]) (kt := [2]) (ko := []) (frz := []) (ps := [Spec Try.prog 92 [.pv (.int .i64 v1.ID), .pv (.int .i64 0), .pv (.int .i64 23)] [] (.pv (.bool y2)) [], y2 = false]) (qs := []) (by kernel_rfl) ⟨r3in.ok v1.ID 0 23 e3, h4, trivial⟩ trivial
noncomputable abbrev b74 : Code := body Try.f74
noncomputable def r3edge (v1 : Edge) : Option Bool :=
 bd (r3in v1.ID 0 39) fun y2 =>
 br y2 (
  bd (r3in v1.From 0 23) fun y5 =>
  br y5 (
   bd (r3in v1.To 0 23) fun y10 =>
   br y10 (
    bd (r3in v1.Weight (-1000) 1000) fun y13 =>
    br y13 (
     bd (r3in v1.Cap 0 1000) fun y18 =>
     some y18) (
     some false)) (
    some false)) (
   some false)) (
  some false)
theorem r3edge.ok (v1 : Edge) {x : Bool} (hx : r3edge v1 = some x) :
  Spec Try.prog 74 [.aggp [.int .i64 v1.ID, .int .i64 v1.From, .int .i64 v1.To, .bool v1.Directed, .int .i64 v1.Weight, .int .i64 v1.Cap]] [] (.pv (.bool x)) [] := by
 refine Spec.of (c := b74) Try.func74 rfl rfl rfl ?_
 unfold r3edge at hx
 refine bd_ok hx fun y2 e3 hx => ?_
 refine br_ok hx (fun h4 hx => ?_) (fun h4 hx => ?_)
 ·refine bd_ok hx fun y5 e6 hx => ?_
  let Q7 : List Prop := [Spec Try.prog 92 [.pv (.int .i64 v1.ID), .pv (.int .i64 0), .pv (.int .i64 39)] [] (.pv (.bool y2)) [], y2 = true, Spec Try.prog 92 [.pv (.int .i64 v1.From), .pv (.int .i64 0), .pv (.int .i64 23)] [] (.pv (.bool y5)) []]
  have k8 : All Q7 := ⟨r3in.ok v1.ID 0 39 e3, h4, r3in.ok v1.From 0 23 e6, trivial⟩
  refine br_ok hx (fun h9 hx => ?_) (fun h9 hx => ?_)
  ·refine bd_ok hx fun y10 e11 hx => ?_
   refine br_ok hx (fun h12 hx => ?_) (fun h12 hx => ?_)
   ·refine bd_ok hx fun y13 e14 hx => ?_
    let Q15 : List Prop := (Q7 ++ [y5 = true, Spec Try.prog 92 [.pv (.int .i64 v1.To), .pv (.int .i64 0), .pv (.int .i64 23)] [] (.pv (.bool y10)) [], y10 = true, Spec Try.prog 92 [.pv (.int .i64 v1.Weight), .pv (.int .i64 (-1000)), .pv (.int .i64 1000)] [] (.pv (.bool y13)) []])
    have k16 : All Q15 := (All_append.2 ⟨k8, ⟨h9, r3in.ok v1.To 0 23 e11, h12, r3in.ok v1.Weight (-1000) 1000 e14, trivial⟩⟩)
    refine br_ok hx (fun h17 hx => ?_) (fun h17 hx => ?_)
    ·refine bd_ok hx fun y18 e19 hx => ?_
     obtain rfl := sI hx
     exact WK.fin (fn := Try.f74) Try.func74 (an := [.reg [(0, none, .nm 1003)], .reg [(2, none, .call [] [] (.pv (.bool y2)) [] []), (4, some true, .no), (6, none, .call [] [] (.pv (.bool y5)) [] []), (9, some true, .no), (11, none, .call [] [] (.pv (.bool y10)) [] []), (14, some true, .no), (16, none, .call [] [] (.pv (.bool y13)) [] []), (19, some true, .no), (21, none, .call [] [] (.pv (.bool y18)) [] [])]]) (kt := [2]) (ko := []) (frz := []) (ps := (Q15 ++ [y13 = true, Spec Try.prog 92 [.pv (.int .i64 v1.Cap), .pv (.int .i64 0), .pv (.int .i64 1000)] [] (.pv (.bool y18)) []])) (qs := []) (by kernel_rfl) (All_append.2 ⟨k16, ⟨h17, r3in.ok v1.Cap 0 1000 e19, trivial⟩⟩) trivial
    ·obtain rfl := sI hx
     exact WK.fin (fn := Try.f74) Try.func74 (an := [.reg [(0, none, .nm 1003)], .reg [(2, none, .call [] [] (.pv (.bool y2)) [] []), (4, some true, .no), (6, none, .call [] [] (.pv (.bool y5)) [] []), (9, some true, .no), (11, none, .call [] [] (.pv (.bool y10)) [] []), (14, some true, .no), (16, none, .call [] [] (.pv (.bool y13)) [] []), (19, some false, .no)]]) (kt := [2]) (ko := []) (frz := []) (ps := (Q15 ++ [y13 = false])) (qs := []) (by kernel_rfl) (All_append.2 ⟨k16, ⟨h17, trivial⟩⟩) trivial
   ·obtain rfl := sI hx
    exact WK.fin (fn := Try.f74) Try.func74 (an := [.reg [(0, none, .nm 1003)], .reg [(2, none, .call [] [] (.pv (.bool y2)) [] []), (4, some true, .no), (6, none, .call [] [] (.pv (.bool y5)) [] []), (9, some true, .no), (11, none, .call [] [] (.pv (.bool y10)) [] []), (14, some false, .no)]]) (kt := [2]) (ko := []) (frz := []) (ps := (Q7 ++ [y5 = true, Spec Try.prog 92 [.pv (.int .i64 v1.To), .pv (.int .i64 0), .pv (.int .i64 23)] [] (.pv (.bool y10)) [], y10 = false])) (qs := []) (by kernel_rfl) (All_append.2 ⟨k8, ⟨h9, r3in.ok v1.To 0 23 e11, h12, trivial⟩⟩) trivial
  ·obtain rfl := sI hx
   exact WK.fin (fn := Try.f74) Try.func74 (an := [.reg [(0, none, .nm 1003)], .reg [(2, none, .call [] [] (.pv (.bool y2)) [] []), (4, some true, .no), (6, none, .call [] [] (.pv (.bool y5)) [] []), (9, some false, .no)]]) (kt := [2]) (ko := []) (frz := []) (ps := (Q7 ++ [y5 = false])) (qs := []) (by kernel_rfl) (All_append.2 ⟨k8, ⟨h9, trivial⟩⟩) trivial
 ·obtain rfl := sI hx
  exact WK.fin (fn := Try.f74) Try.func74 (an := [.reg [(0, none, .nm 1003)], .reg [(2, none, .call [] [] (.pv (.bool y2)) [] []), (4, some false, .no)]]) (kt := [2]) (ko := []) (frz := []) (ps := [Spec Try.prog 92 [.pv (.int .i64 v1.ID), .pv (.int .i64 0), .pv (.int .i64 39)] [] (.pv (.bool y2)) [], y2 = false]) (qs := []) (by kernel_rfl) ⟨r3in.ok v1.ID 0 39 e3, h4, trivial⟩ trivial
noncomputable abbrev b41 : Code := body Try.f41
noncomputable def r3Valid.l0 (c59 : List Vertex) (c60 : List Edge) (c61 : List Int) (s : Int) : Option (Nx Int (Unit ⊕ Unit)) :=
 br (decide (s < ((c61.length : Nat) : Int))) (
  getR c61 s fun a63 =>
  bd (r3Place (Graph.mk c59 c60 c61) a63) fun y66 =>
  br (decide (y66 < 0)) (
   some (.done (.inl ()))) (
   br (decide (s > 0)) (
    getR c61 s fun a72 =>
    getR c61 (IntKind.i64.wrap (s - 1)) fun a75 =>
    br (decide (a72 ≤ a75)) (
     some (.done (.inl ()))) (
     some (.cont (IntKind.i64.wrap (s + 1))))) (
    some (.cont (IntKind.i64.wrap (s + 1)))))) (
  some (.done (.inr ())))
abbrev r3Valid.l0.enc (c59 : List Vertex) (c60 : List Edge) (c61 : List Int) (s : Int) : St := ⟨123, [(1, .ref 101 0 0 0), (6, .pv (.int .i64 s))], [(101, .varp [.sl (c59.map Vertex.enc), .sl (c60.map Edge.enc), .sl (c61.map eInt)])]⟩
abbrev r3Valid.l0.post (c59 : List Vertex) (c60 : List Edge) (c61 : List Int) (r : AV) (outs : List AObj) (q : Unit ⊕ Unit) : Prop := match q with | .inl q => WK Try.prog (41, 0) [.code (sub b41 [1, 1, 1, 0, 1, 0, 0, 1, 0, 0, 1, 0, 1]), .inBlock 5, .code (sub b41 [1, 1, 1, 0, 1, 0, 0, 1, 1]), .inLoop (sub b41 [1, 1, 1, 0, 1, 0, 0]), .inBlock 4, .code (sub b41 [1, 1, 1, 1])] ⟨123, [(2, .pv (.bool false))], []⟩ r outs | .inr q => WK Try.prog (41, 0) [.code (sub b41 [1, 1, 1, 1, 0]), .code (sub b41 [1, 1, 1, 1, 1])] ⟨123, [(1, .ref 101 0 0 0)], [(101, .varp [.sl (c59.map Vertex.enc), .sl (c60.map Edge.enc), .sl (c61.map eInt)])]⟩ r outs
theorem r3Valid.l0.ok (c59 : List Vertex) (c60 : List Edge) (c61 : List Int) (r : AV) (outs : List AObj) (s : Int) (q : Unit ⊕ Unit) (h : loopN fuel (r3Valid.l0 c59 c60 c61) s = some q) (hd : r3Valid.l0.post c59 c60 c61 r outs q) :
  WK Try.prog (41, 0) [.inLoop (sub b41 [1, 1, 1, 0, 1, 0, 0]), .inBlock 4, .code (sub b41 [1, 1, 1, 1])] (r3Valid.l0.enc c59 c60 c61 s) r outs := by
 refine WK.loop (r3Valid.l0.enc c59 c60 c61) (r3Valid.l0 c59 c60 c61) (r3Valid.l0.post c59 c60 c61 r outs) ?_ fuel s q h hd
 intro s x hx hn
 unfold r3Valid.l0 at hx
 refine br_ok hx (fun h62 hx => ?_) (fun h62 hx => ?_)
 ·refine getR_ok hx fun a63 h64 h65 hx => ?_
  refine bd_ok hx fun y66 e67 hx => ?_
  let Q68 : List Prop := [AV.pv (.int .i64 ((c61.map eInt).length : Nat)) = .pv (.int .i64 (c61.length : Nat)), (decide (s < ((c61.length : Nat) : Int))) = true, 0 ≤ (s : Int), (c61.map eInt)[(s : Int).toNat]? = some (eInt a63), (eInt a63).length = 1, Spec Try.prog 34 [.aggp [.sl (c59.map Vertex.enc), .sl (c60.map Edge.enc), .sl (c61.map eInt)], .pv (.int .i64 a63)] [] (.pv (.int .i64 y66)) []]
  have k69 : All Q68 := ⟨lenOb, h62, h64, rowOb h65, rfl, r3Place.ok (Graph.mk c59 c60 c61) a63 e67, trivial⟩
  refine br_ok hx (fun h70 hx => ?_) (fun h70 hx => ?_)
  ·obtain rfl := sI hx
   exact WK.run (an := [.lp, .reg [(3, none, .val (.pv (.int .i64 ((c61.length : Nat) : Int))))], .br true, .draw [0, 1, 2, 3, 4, 5, 6, 7, 8, 9, 10, 11, 12, 13, 14, 15, 16, 17, 18, 19, 20, 21, 22, 23, 24, 25] [(4, none, .row (eInt a63)), (6, none, .call [] [] (.pv (.int .i64 y66)) [] []), (9, some true, .no), (10, some true, .no), (11, some true, .no), (24, some true, .no), (25, none, .bit true)], .bk, .reg []]) (kt := [2]) (ko := []) (ps := (Q68 ++ [(decide (y66 < 0)) = true, (decide (y66 < 0)) = true, (decide (y66 < 0)) = true, (decide (y66 < 0)) = true, (decide (y66 < 0)) = true])) (by kernel_rfl) (All_append.2 ⟨k69, ⟨h70, h70, h70, h70, h70, trivial⟩⟩) hn
  ·refine br_ok hx (fun h71 hx => ?_) (fun h71 hx => ?_)
   ·refine getR_ok hx fun a72 h73 h74 hx => ?_
    refine getR_ok hx fun a75 h76 h77 hx => ?_
    refine WK.run (an := [.lp, .reg [(3, none, .val (.pv (.int .i64 ((c61.length : Nat) : Int))))], .br true, .draw [0, 1, 2, 3, 4, 5, 6, 7, 8, 9, 10, 11, 12, 13, 14, 15, 16, 17, 18, 19, 20, 21, 22, 23, 24, 25] [(4, none, .row (eInt a63)), (6, none, .call [] [] (.pv (.int .i64 y66)) [] []), (9, some false, .no), (10, some false, .no), (11, some false, .no), (12, some true, .no), (13, some true, .no), (14, some true, .no), (15, some true, .row (eInt a72)), (16, some true, .no), (17, some true, .no), (18, some true, .no), (19, some true, .no), (20, some true, .no), (21, some true, .row (eInt a75)), (22, some true, .no), (23, some true, .no), (24, some false, .bit true), (25, none, .bit false)]]) (kt := [1, 6, 118]) (ko := [(101, 101)]) (k' := [.code (sub b41 [1, 1, 1, 0, 1, 0, 0, 1, 0, 0, 1]), .inBlock 5, .code (sub b41 [1, 1, 1, 0, 1, 0, 0, 1, 1]), .inLoop (sub b41 [1, 1, 1, 0, 1, 0, 0]), .inBlock 4, .code (sub b41 [1, 1, 1, 1])]) (σ' := ⟨123, [(1, .ref 101 0 0 0), (6, .pv (.int .i64 s)), (118, .pv (.bool (decide (a72 ≤ a75))))], [(101, .varp [.sl (c59.map Vertex.enc), .sl (c60.map Edge.enc), .sl (c61.map eInt)])]⟩) (ps := (Q68 ++ [(decide (y66 < 0)) = false, (decide (y66 < 0)) = false, (decide (y66 < 0)) = false, (decide (s > 0)) = true, (decide (s > 0)) = true, (decide (s > 0)) = true, (decide (s > 0)) = true, 0 ≤ (s : Int), (c61.map eInt)[(s : Int).toNat]? = some (eInt a72), (eInt a72).length = 1, (decide (s > 0)) = true, (decide (s > 0)) = true, (decide (s > 0)) = true, (decide (s > 0)) = true, (decide (s > 0)) = true, (decide (s > 0)) = true, 0 ≤ ((IntKind.i64.wrap (s - 1)) : Int), (c61.map eInt)[((IntKind.i64.wrap (s - 1)) : Int).toNat]? = some (eInt a75), (eInt a75).length = 1, (decide (s > 0)) = true, (decide (s > 0)) = true, (decide (y66 < 0)) = false, (decide (s > 0)) = true, (decide (y66 < 0)) = false]))
     (by kernel_rfl) (All_append.2 ⟨k69, ⟨h70, h70, h70, h71, h71, h71, h71, h73, rowOb h74, rfl, h71, h71, h71, h71, h71, h71, h76, rowOb h77, rfl, h71, h71, h70, h71, h70, trivial⟩⟩) ?_
    refine br_ok hx (fun h78 hx => ?_) (fun h78 hx => ?_)
    ·obtain rfl := sI hx
     exact WK.run (an := [.br true, .reg []]) (kt := [2]) (ko := []) (ps := [(decide (a72 ≤ a75)) = true]) (by kernel_rfl) ⟨h78, trivial⟩ hn
    ·obtain rfl := sI hx
     exact WK.run (an := [.br false, .reg []]) (kt := [1, 6]) (ko := [(101, 101)]) (ps := [(decide (a72 ≤ a75)) = false]) (by kernel_rfl) ⟨h78, trivial⟩ hn
   ·obtain rfl := sI hx
    exact WK.run (an := [.lp, .reg [(3, none, .val (.pv (.int .i64 ((c61.length : Nat) : Int))))], .br true, .draw [0, 1, 2, 3, 4, 5, 6, 7, 8, 9, 10, 11, 12, 13, 14, 15, 16, 17, 18, 19, 20, 21, 22, 23, 24, 25] [(4, none, .row (eInt a63)), (6, none, .call [] [] (.pv (.int .i64 y66)) [] []), (9, some false, .no), (10, some false, .no), (11, some false, .no), (12, some false, .no), (13, some false, .no), (14, some false, .no), (15, some false, .no), (16, some false, .no), (17, some false, .no), (18, some false, .no), (19, some false, .no), (20, some false, .no), (21, some false, .no), (22, some false, .no), (23, some false, .no), (24, some false, .bit false), (25, none, .bit false)], .bk, .reg []]) (kt := [1, 6]) (ko := [(101, 101)]) (ps := (Q68 ++ [(decide (y66 < 0)) = false, (decide (y66 < 0)) = false, (decide (y66 < 0)) = false, (decide (s > 0)) = false, (decide (s > 0)) = false, (decide (s > 0)) = false, (decide (s > 0)) = false, (decide (s > 0)) = false, (decide (s > 0)) = false, (decide (s > 0)) = false, (decide (s > 0)) = false, (decide (s > 0)) = false, (decide (s > 0)) = false, (decide (s > 0)) = false, (decide (s > 0)) = false, (decide (y66 < 0)) = false, (decide (s > 0)) = false, (decide (y66 < 0)) = false])) (by kernel_rfl) (All_append.2 ⟨k69, ⟨h70, h70, h70, h71, h71, h71, h71, h71, h71, h71, h71, h71, h71, h71, h71, h70, h71, h70, trivial⟩⟩) hn
 ·obtain rfl := sI hx
  exact WK.run (an := [.lp, .reg [(3, none, .val (.pv (.int .i64 ((c61.length : Nat) : Int))))], .br false]) (kt := [1]) (ko := [(101, 101)]) (ps := [AV.pv (.int .i64 ((c61.map eInt).length : Nat)) = .pv (.int .i64 (c61.length : Nat)), (decide (s < ((c61.length : Nat) : Int))) = false]) (by kernel_rfl) ⟨lenOb, h62, trivial⟩ hn
noncomputable def r3Valid.l1 (c22 : List Vertex) (c23 : List Edge) (c24 : List Int) (s : Int) : Option (Nx Int (Unit ⊕ Unit ⊕ Unit)) :=
 br (decide (s < ((c23.length : Nat) : Int))) (
  getR c23 s fun a26 =>
  bd (r3edge a26) fun y29 =>
  br (!y29) (
   some (.done (.inl ()))) (
   br (decide (s > 0)) (
    getR c23 (IntKind.i64.wrap (s - 1)) fun a35 =>
    br (decide (a26.ID ≤ a35.ID)) (
     some (.done (.inl ()))) (
     bd (r3Place (Graph.mk c22 c23 c24) a26.From) fun y42 =>
     br (decide (y42 < 0)) (
      some (.done (.inl ()))) (
      bd (r3Place (Graph.mk c22 c23 c24) a26.To) fun y47 =>
      br (decide (y47 < 0)) (
       some (.done (.inl ()))) (
       some (.cont (IntKind.i64.wrap (s + 1))))))) (
    bd (r3Place (Graph.mk c22 c23 c24) a26.From) fun y50 =>
    br (decide (y50 < 0)) (
     some (.done (.inl ()))) (
     bd (r3Place (Graph.mk c22 c23 c24) a26.To) fun y56 =>
     br (decide (y56 < 0)) (
      some (.done (.inl ()))) (
      some (.cont (IntKind.i64.wrap (s + 1)))))))) (
  bd (loopN fuel (r3Valid.l0 c22 c23 c24) 0) fun q59 =>
  match q59 with
  | .inl q59 =>
   some (.done (.inr (.inl ())))
  | .inr q59 =>
   some (.done (.inr (.inr ()))))
abbrev r3Valid.l1.enc (c22 : List Vertex) (c23 : List Edge) (c24 : List Int) (s : Int) : St := ⟨123, [(1, .ref 101 0 0 0), (4, .pv (.int .i64 s))], [(101, .varp [.sl (c22.map Vertex.enc), .sl (c23.map Edge.enc), .sl (c24.map eInt)])]⟩
abbrev r3Valid.l1.post (c22 : List Vertex) (c23 : List Edge) (c24 : List Int) (r : AV) (outs : List AObj) (q : Unit ⊕ Unit ⊕ Unit) : Prop := match q with | .inl q => WK Try.prog (41, 0) [.code (sub b41 [1, 1, 0, 1, 0, 0, 1, 0, 0, 1, 1, 0, 1]), .inBlock 3, .code (sub b41 [1, 1, 0, 1, 0, 0, 1, 1]), .inLoop (sub b41 [1, 1, 0, 1, 0, 0]), .inBlock 2, .code (sub b41 [1, 1, 1])] ⟨123, [(2, .pv (.bool false))], []⟩ r outs | .inr (.inl q) => WK Try.prog (41, 0) [.code (sub b41 [1, 1, 1, 0, 1, 0, 0, 1, 0, 0, 1, 0, 1]), .inBlock 5, .code (sub b41 [1, 1, 1, 0, 1, 0, 0, 1, 1]), .inLoop (sub b41 [1, 1, 1, 0, 1, 0, 0]), .inBlock 4, .code (sub b41 [1, 1, 1, 1])] ⟨123, [(2, .pv (.bool false))], []⟩ r outs | .inr (.inr q) => WK Try.prog (41, 0) [.code (sub b41 [1, 1, 1, 1, 0]), .code (sub b41 [1, 1, 1, 1, 1])] ⟨123, [(1, .ref 101 0 0 0)], [(101, .varp [.sl (c22.map Vertex.enc), .sl (c23.map Edge.enc), .sl (c24.map eInt)])]⟩ r outs
theorem r3Valid.l1.ok (c22 : List Vertex) (c23 : List Edge) (c24 : List Int) (r : AV) (outs : List AObj) (s : Int) (q : Unit ⊕ Unit ⊕ Unit) (h : loopN fuel (r3Valid.l1 c22 c23 c24) s = some q) (hd : r3Valid.l1.post c22 c23 c24 r outs q) :
  WK Try.prog (41, 0) [.inLoop (sub b41 [1, 1, 0, 1, 0, 0]), .inBlock 2, .code (sub b41 [1, 1, 1])] (r3Valid.l1.enc c22 c23 c24 s) r outs := by
 refine WK.loop (r3Valid.l1.enc c22 c23 c24) (r3Valid.l1 c22 c23 c24) (r3Valid.l1.post c22 c23 c24 r outs) ?_ fuel s q h hd
 intro s x hx hn
 unfold r3Valid.l1 at hx
 refine br_ok hx (fun h25 hx => ?_) (fun h25 hx => ?_)
 ·refine getR_ok hx fun a26 h27 h28 hx => ?_
  refine bd_ok hx fun y29 e30 hx => ?_
  let Q31 : List Prop := [AV.pv (.int .i64 ((c23.map Edge.enc).length : Nat)) = .pv (.int .i64 (c23.length : Nat)), (decide (s < ((c23.length : Nat) : Int))) = true, 0 ≤ (s : Int), (c23.map Edge.enc)[(s : Int).toNat]? = some (Edge.enc a26), (Edge.enc a26).length = 6, 6 = 6, Spec Try.prog 74 [.aggp [.int .i64 a26.ID, .int .i64 a26.From, .int .i64 a26.To, .bool a26.Directed, .int .i64 a26.Weight, .int .i64 a26.Cap]] [] (.pv (.bool y29)) []]
  have k32 : All Q31 := ⟨lenOb, h25, h27, rowOb h28, rfl, rfl, r3edge.ok a26 e30, trivial⟩
  refine br_ok hx (fun h33 hx => ?_) (fun h33 hx => ?_)
  ·obtain rfl := sI hx
   exact WK.run (an := [.lp, .reg [(3, none, .val (.pv (.int .i64 ((c23.length : Nat) : Int))))], .br true, .reg [(3, none, .row (Edge.enc a26)), (5, none, .nm 1007)], .draw [0, 1, 2, 3, 4, 5, 6, 7, 8, 9, 10, 11, 12, 13, 14, 15, 16, 17, 18, 19, 20, 21, 22, 23, 24, 25, 26, 27, 28, 29, 30, 31, 32] [(1, none, .call [] [] (.pv (.bool y29)) [] []), (4, some true, .no), (5, some true, .no), (6, some true, .no), (17, some true, .no), (18, none, .bit true)], .bk, .reg []]) (kt := [2]) (ko := []) (ps := (Q31 ++ [(!y29) = true, (!y29) = true, (!y29) = true, (!y29) = true, (!y29) = true])) (by kernel_rfl) (All_append.2 ⟨k32, ⟨h33, h33, h33, h33, h33, trivial⟩⟩) hn
  ·refine br_ok hx (fun h34 hx => ?_) (fun h34 hx => ?_)
   ·refine getR_ok hx fun a35 h36 h37 hx => ?_
    let B38 : Anns := [(1, none, .call [] [] (.pv (.bool y29)) [] []), (4, some false, .no), (5, some false, .no), (6, some false, .no), (7, some true, .no), (8, some true, .no), (9, some true, .no), (10, some true, .no), (11, some true, .no), (12, some true, .no), (13, some true, .row (Edge.enc a35)), (14, some true, .no), (15, some true, .no), (16, some true, .no), (17, some false, .bit true), (18, none, .bit false)]
    let Q39 : List Prop := (Q31 ++ [(!y29) = false, (!y29) = false, (!y29) = false, (decide (s > 0)) = true, (decide (s > 0)) = true, (decide (s > 0)) = true, (decide (s > 0)) = true, (decide (s > 0)) = true, (decide (s > 0)) = true, (decide (s > 0)) = true, 0 ≤ ((IntKind.i64.wrap (s - 1)) : Int), (c23.map Edge.enc)[((IntKind.i64.wrap (s - 1)) : Int).toNat]? = some (Edge.enc a35), (Edge.enc a35).length = 6, (decide (s > 0)) = true, (decide (s > 0)) = true, (decide (s > 0)) = true, (!y29) = false, (decide (s > 0)) = true, (!y29) = false])
    have k40 : All Q39 := (All_append.2 ⟨k32, ⟨h33, h33, h33, h34, h34, h34, h34, h34, h34, h34, h36, rowOb h37, rfl, h34, h34, h34, h33, h34, h33, trivial⟩⟩)
    refine br_ok hx (fun h41 hx => ?_) (fun h41 hx => ?_)
    ·obtain rfl := sI hx
     exact WK.run (an := [.lp, .reg [(3, none, .val (.pv (.int .i64 ((c23.length : Nat) : Int))))], .br true, .reg [(3, none, .row (Edge.enc a26)), (5, none, .nm 1007)], .draw [0, 1, 2, 3, 4, 5, 6, 7, 8, 9, 10, 11, 12, 13, 14, 15, 16, 17, 18, 19, 20, 21, 22, 23, 24, 25, 26, 27, 28, 29, 30, 31, 32] (B38 ++ [(20, some true, .no), (21, some true, .no), (22, some true, .no), (23, some true, .no), (24, some true, .no), (25, none, .bit true)]), .bk, .reg []]) (kt := [2]) (ko := []) (ps := (Q39 ++ [(decide (a26.ID ≤ a35.ID)) = true, (decide (a26.ID ≤ a35.ID)) = true, (decide (a26.ID ≤ a35.ID)) = true, (decide (a26.ID ≤ a35.ID)) = true, (decide (a26.ID ≤ a35.ID)) = true, (decide (a26.ID ≤ a35.ID)) = true])) (by kernel_rfl) (All_append.2 ⟨k40, ⟨h41, h41, h41, h41, h41, h41, trivial⟩⟩) hn
    ·refine bd_ok hx fun y42 e43 hx => ?_
     let Q44 : List Prop := (Q39 ++ [(decide (a26.ID ≤ a35.ID)) = false, (decide (a26.ID ≤ a35.ID)) = false, (decide (a26.ID ≤ a35.ID)) = false, (decide (a26.ID ≤ a35.ID)) = false, Spec Try.prog 34 [.aggp [.sl (c22.map Vertex.enc), .sl (c23.map Edge.enc), .sl (c24.map eInt)], .pv (.int .i64 a26.From)] [] (.pv (.int .i64 y42)) [], (decide (a26.ID ≤ a35.ID)) = false, (decide (a26.ID ≤ a35.ID)) = false])
     have k45 : All Q44 := (All_append.2 ⟨k40, ⟨h41, h41, h41, h41, r3Place.ok (Graph.mk c22 c23 c24) a26.From e43, h41, h41, trivial⟩⟩)
     refine br_ok hx (fun h46 hx => ?_) (fun h46 hx => ?_)
     ·obtain rfl := sI hx
      exact WK.run (an := [.lp, .reg [(3, none, .val (.pv (.int .i64 ((c23.length : Nat) : Int))))], .br true, .reg [(3, none, .row (Edge.enc a26)), (5, none, .nm 1007)], .draw [0, 1, 2, 3, 4, 5, 6, 7, 8, 9, 10, 11, 12, 13, 14, 15, 16, 17, 18, 19, 20, 21, 22, 23, 24, 25, 26, 27, 28, 29, 30, 31, 32] (B38 ++ [(20, some false, .no), (21, some false, .no), (22, some false, .no), (23, some false, .call [] [] (.pv (.int .i64 y42)) [] []), (24, some false, .no), (25, none, .bit false), (27, some true, .no), (28, some true, .no), (29, some true, .no), (30, some true, .no), (31, some true, .no), (32, none, .bit true)]), .bk, .reg []]) (kt := [2]) (ko := []) (ps := (Q44 ++ [(decide (y42 < 0)) = true, (decide (y42 < 0)) = true, (decide (y42 < 0)) = true, (decide (y42 < 0)) = true, (decide (y42 < 0)) = true, (decide (y42 < 0)) = true])) (by kernel_rfl) (All_append.2 ⟨k45, ⟨h46, h46, h46, h46, h46, h46, trivial⟩⟩) hn
     ·refine bd_ok hx fun y47 e48 hx => ?_
      refine WK.run (an := [.lp, .reg [(3, none, .val (.pv (.int .i64 ((c23.length : Nat) : Int))))], .br true, .reg [(3, none, .row (Edge.enc a26)), (5, none, .nm 1007)], .draw [0, 1, 2, 3, 4, 5, 6, 7, 8, 9, 10, 11, 12, 13, 14, 15, 16, 17, 18, 19, 20, 21, 22, 23, 24, 25, 26, 27, 28, 29, 30, 31, 32] (B38 ++ [(20, some false, .no), (21, some false, .no), (22, some false, .no), (23, some false, .call [] [] (.pv (.int .i64 y42)) [] []), (24, some false, .no), (25, none, .bit false), (27, some false, .no), (28, some false, .no), (29, some false, .no), (30, some false, .call [] [] (.pv (.int .i64 y47)) [] []), (31, some false, .no), (32, none, .bit false)])]) (kt := [1, 4, 85]) (ko := [(101, 101)]) (k' := [.code (sub b41 [1, 1, 0, 1, 0, 0, 1, 0, 0, 1, 1]), .inBlock 3, .code (sub b41 [1, 1, 0, 1, 0, 0, 1, 1]), .inLoop (sub b41 [1, 1, 0, 1, 0, 0]), .inBlock 2, .code (sub b41 [1, 1, 1])]) (σ' := ⟨123, [(1, .ref 101 0 0 0), (4, .pv (.int .i64 s)), (85, .pv (.bool (decide (y47 < 0))))], [(101, .varp [.sl (c22.map Vertex.enc), .sl (c23.map Edge.enc), .sl (c24.map eInt)])]⟩) (ps := (Q44 ++ [(decide (y42 < 0)) = false, (decide (y42 < 0)) = false, (decide (y42 < 0)) = false, (decide (y42 < 0)) = false, Spec Try.prog 34 [.aggp [.sl (c22.map Vertex.enc), .sl (c23.map Edge.enc), .sl (c24.map eInt)], .pv (.int .i64 a26.To)] [] (.pv (.int .i64 y47)) [], (decide (y42 < 0)) = false, (decide (y42 < 0)) = false]))
       (by kernel_rfl) (All_append.2 ⟨k45, ⟨h46, h46, h46, h46, r3Place.ok (Graph.mk c22 c23 c24) a26.To e48, h46, h46, trivial⟩⟩) ?_
      refine br_ok hx (fun h49 hx => ?_) (fun h49 hx => ?_)
      ·obtain rfl := sI hx
       exact WK.run (an := [.br true, .reg []]) (kt := [2]) (ko := []) (ps := [(decide (y47 < 0)) = true]) (by kernel_rfl) ⟨h49, trivial⟩ hn
      ·obtain rfl := sI hx
       exact WK.run (an := [.br false, .reg []]) (kt := [1, 4]) (ko := [(101, 101)]) (ps := [(decide (y47 < 0)) = false]) (by kernel_rfl) ⟨h49, trivial⟩ hn
   ·refine bd_ok hx fun y50 e51 hx => ?_
    let B52 : Anns := [(1, none, .call [] [] (.pv (.bool y29)) [] []), (4, some false, .no), (5, some false, .no), (6, some false, .no), (7, some false, .no), (8, some false, .no), (9, some false, .no), (10, some false, .no), (11, some false, .no), (12, some false, .no), (13, some false, .no), (14, some false, .no), (15, some false, .no), (16, some false, .no), (17, some false, .bit false), (18, none, .bit false), (23, none, .call [] [] (.pv (.int .i64 y50)) [] [])]
    let Q53 : List Prop := (Q31 ++ [(!y29) = false, (!y29) = false, (!y29) = false, (decide (s > 0)) = false, (decide (s > 0)) = false, (decide (s > 0)) = false, (decide (s > 0)) = false, (decide (s > 0)) = false, (decide (s > 0)) = false, (decide (s > 0)) = false, (decide (s > 0)) = false, (decide (s > 0)) = false, (decide (s > 0)) = false, (!y29) = false, (decide (s > 0)) = false, (!y29) = false, Spec Try.prog 34 [.aggp [.sl (c22.map Vertex.enc), .sl (c23.map Edge.enc), .sl (c24.map eInt)], .pv (.int .i64 a26.From)] [] (.pv (.int .i64 y50)) []])
    have k54 : All Q53 := (All_append.2 ⟨k32, ⟨h33, h33, h33, h34, h34, h34, h34, h34, h34, h34, h34, h34, h34, h33, h34, h33, r3Place.ok (Graph.mk c22 c23 c24) a26.From e51, trivial⟩⟩)
    refine br_ok hx (fun h55 hx => ?_) (fun h55 hx => ?_)
    ·obtain rfl := sI hx
     exact WK.run (an := [.lp, .reg [(3, none, .val (.pv (.int .i64 ((c23.length : Nat) : Int))))], .br true, .reg [(3, none, .row (Edge.enc a26)), (5, none, .nm 1007)], .draw [0, 1, 2, 3, 4, 5, 6, 7, 8, 9, 10, 11, 12, 13, 14, 15, 16, 17, 18, 19, 20, 21, 22, 23, 24, 25, 26, 27, 28, 29, 30, 31, 32] (B52 ++ [(27, some true, .no), (28, some true, .no), (29, some true, .no), (30, some true, .no), (31, some true, .no), (32, none, .bit true)]), .bk, .reg []]) (kt := [2]) (ko := []) (ps := (Q53 ++ [(decide (y50 < 0)) = true, (decide (y50 < 0)) = true, (decide (y50 < 0)) = true, (decide (y50 < 0)) = true, (decide (y50 < 0)) = true, (decide (y50 < 0)) = true])) (by kernel_rfl) (All_append.2 ⟨k54, ⟨h55, h55, h55, h55, h55, h55, trivial⟩⟩) hn
    ·refine bd_ok hx fun y56 e57 hx => ?_
     refine WK.run (an := [.lp, .reg [(3, none, .val (.pv (.int .i64 ((c23.length : Nat) : Int))))], .br true, .reg [(3, none, .row (Edge.enc a26)), (5, none, .nm 1007)], .draw [0, 1, 2, 3, 4, 5, 6, 7, 8, 9, 10, 11, 12, 13, 14, 15, 16, 17, 18, 19, 20, 21, 22, 23, 24, 25, 26, 27, 28, 29, 30, 31, 32] (B52 ++ [(27, some false, .no), (28, some false, .no), (29, some false, .no), (30, some false, .call [] [] (.pv (.int .i64 y56)) [] []), (31, some false, .no), (32, none, .bit false)])]) (kt := [1, 4, 85]) (ko := [(101, 101)]) (k' := [.code (sub b41 [1, 1, 0, 1, 0, 0, 1, 0, 0, 1, 1]), .inBlock 3, .code (sub b41 [1, 1, 0, 1, 0, 0, 1, 1]), .inLoop (sub b41 [1, 1, 0, 1, 0, 0]), .inBlock 2, .code (sub b41 [1, 1, 1])]) (σ' := ⟨123, [(1, .ref 101 0 0 0), (4, .pv (.int .i64 s)), (85, .pv (.bool (decide (y56 < 0))))], [(101, .varp [.sl (c22.map Vertex.enc), .sl (c23.map Edge.enc), .sl (c24.map eInt)])]⟩) (ps := (Q53 ++ [(decide (y50 < 0)) = false, (decide (y50 < 0)) = false, (decide (y50 < 0)) = false, (decide (y50 < 0)) = false, Spec Try.prog 34 [.aggp [.sl (c22.map Vertex.enc), .sl (c23.map Edge.enc), .sl (c24.map eInt)], .pv (.int .i64 a26.To)] [] (.pv (.int .i64 y56)) [], (decide (y50 < 0)) = false, (decide (y50 < 0)) = false]))
      (by kernel_rfl) (All_append.2 ⟨k54, ⟨h55, h55, h55, h55, r3Place.ok (Graph.mk c22 c23 c24) a26.To e57, h55, h55, trivial⟩⟩) ?_
     refine br_ok hx (fun h58 hx => ?_) (fun h58 hx => ?_)
     ·obtain rfl := sI hx
      exact WK.run (an := [.br true, .reg []]) (kt := [2]) (ko := []) (ps := [(decide (y56 < 0)) = true]) (by kernel_rfl) ⟨h58, trivial⟩ hn
     ·obtain rfl := sI hx
      exact WK.run (an := [.br false, .reg []]) (kt := [1, 4]) (ko := [(101, 101)]) (ps := [(decide (y56 < 0)) = false]) (by kernel_rfl) ⟨h58, trivial⟩ hn
 ·refine bd_ok hx fun q59 e60 hx => ?_
  refine WK.run (an := [.lp, .reg [(3, none, .val (.pv (.int .i64 ((c23.length : Nat) : Int))))], .br false, .reg []]) (kt := [1, 6]) (ko := [(101, 101)]) (ps := [AV.pv (.int .i64 ((c23.map Edge.enc).length : Nat)) = .pv (.int .i64 (c23.length : Nat)), (decide (s < ((c23.length : Nat) : Int))) = false]) (by kernel_rfl) ⟨lenOb, h25, trivial⟩ (WK.enterLoop (r3Valid.l0.ok c22 c23 c24 _ _ _ _ e60 ?_))
  rcases q59 with (q59 | q59)
  ·obtain rfl := sI hx
   exact WK.run (an := []) (kt := [2]) (ko := []) (ps := []) (by kernel_rfl) trivial hn
  ·obtain rfl := sI hx
   exact WK.run (an := []) (kt := [1]) (ko := [(101, 101)]) (ps := []) (by kernel_rfl) trivial hn
noncomputable def r3Valid.l2 (c2 : List Vertex) (c3 : List Edge) (c4 : List Int) (s : Int) : Option (Nx Int (Unit ⊕ Unit ⊕ Unit ⊕ Unit)) :=
 br (decide (s < ((c2.length : Nat) : Int))) (
  getR c2 s fun a6 =>
  bd (r3vertex a6) fun y9 =>
  br (!y9) (
   some (.done (.inl ()))) (
   br (decide (s > 0)) (
    getR c2 s fun a15 =>
    getR c2 (IntKind.i64.wrap (s - 1)) fun a18 =>
    br (decide (a15.ID ≤ a18.ID)) (
     some (.done (.inl ()))) (
     some (.cont (IntKind.i64.wrap (s + 1))))) (
    some (.cont (IntKind.i64.wrap (s + 1)))))) (
  bd (loopN fuel (r3Valid.l1 c2 c3 c4) 0) fun q22 =>
  match q22 with
  | .inl q22 =>
   some (.done (.inr (.inl ())))
  | .inr (.inl q22) =>
   some (.done (.inr (.inr (.inl ()))))
  | .inr (.inr q22) =>
   some (.done (.inr (.inr (.inr ())))))
abbrev r3Valid.l2.enc (c2 : List Vertex) (c3 : List Edge) (c4 : List Int) (s : Int) : St := ⟨123, [(1, .ref 101 0 0 0), (3, .pv (.int .i64 s))], [(101, .varp [.sl (c2.map Vertex.enc), .sl (c3.map Edge.enc), .sl (c4.map eInt)])]⟩
abbrev r3Valid.l2.post (c2 : List Vertex) (c3 : List Edge) (c4 : List Int) (r : AV) (outs : List AObj) (q : Unit ⊕ Unit ⊕ Unit ⊕ Unit) : Prop := match q with | .inl q => WK Try.prog (41, 0) [.code (sub b41 [1, 0, 1, 0, 0, 1, 0, 0, 1, 0, 1]), .inBlock 1, .code (sub b41 [1, 0, 1, 0, 0, 1, 1]), .inLoop (sub b41 [1, 0, 1, 0, 0]), .inBlock 0, .code (sub b41 [1, 1])] ⟨123, [(2, .pv (.bool false))], []⟩ r outs | .inr (.inl q) => WK Try.prog (41, 0) [.code (sub b41 [1, 1, 0, 1, 0, 0, 1, 0, 0, 1, 1, 0, 1]), .inBlock 3, .code (sub b41 [1, 1, 0, 1, 0, 0, 1, 1]), .inLoop (sub b41 [1, 1, 0, 1, 0, 0]), .inBlock 2, .code (sub b41 [1, 1, 1])] ⟨123, [(2, .pv (.bool false))], []⟩ r outs | .inr (.inr (.inl q)) => WK Try.prog (41, 0) [.code (sub b41 [1, 1, 1, 0, 1, 0, 0, 1, 0, 0, 1, 0, 1]), .inBlock 5, .code (sub b41 [1, 1, 1, 0, 1, 0, 0, 1, 1]), .inLoop (sub b41 [1, 1, 1, 0, 1, 0, 0]), .inBlock 4, .code (sub b41 [1, 1, 1, 1])] ⟨123, [(2, .pv (.bool false))], []⟩ r outs | .inr (.inr (.inr q)) => WK Try.prog (41, 0) [.code (sub b41 [1, 1, 1, 1, 0]), .code (sub b41 [1, 1, 1, 1, 1])] ⟨123, [(1, .ref 101 0 0 0)], [(101, .varp [.sl (c2.map Vertex.enc), .sl (c3.map Edge.enc), .sl (c4.map eInt)])]⟩ r outs
theorem r3Valid.l2.ok (c2 : List Vertex) (c3 : List Edge) (c4 : List Int) (r : AV) (outs : List AObj) (s : Int) (q : Unit ⊕ Unit ⊕ Unit ⊕ Unit) (h : loopN fuel (r3Valid.l2 c2 c3 c4) s = some q) (hd : r3Valid.l2.post c2 c3 c4 r outs q) :
  WK Try.prog (41, 0) [.inLoop (sub b41 [1, 0, 1, 0, 0]), .inBlock 0, .code (sub b41 [1, 1])] (r3Valid.l2.enc c2 c3 c4 s) r outs := by
 refine WK.loop (r3Valid.l2.enc c2 c3 c4) (r3Valid.l2 c2 c3 c4) (r3Valid.l2.post c2 c3 c4 r outs) ?_ fuel s q h hd
 intro s x hx hn
 unfold r3Valid.l2 at hx
 refine br_ok hx (fun h5 hx => ?_) (fun h5 hx => ?_)
 ·refine getR_ok hx fun a6 h7 h8 hx => ?_
  refine bd_ok hx fun y9 e10 hx => ?_
  let Q11 : List Prop := [AV.pv (.int .i64 ((c2.map Vertex.enc).length : Nat)) = .pv (.int .i64 (c2.length : Nat)), (decide (s < ((c2.length : Nat) : Int))) = true, 0 ≤ (s : Int), (c2.map Vertex.enc)[(s : Int).toNat]? = some (Vertex.enc a6), (Vertex.enc a6).length = 2, Spec Try.prog 73 [.aggp [.int .i64 a6.ID, .int .i64 a6.Side]] [] (.pv (.bool y9)) []]
  have k12 : All Q11 := ⟨lenOb, h5, h7, rowOb h8, rfl, r3vertex.ok a6 e10, trivial⟩
  refine br_ok hx (fun h13 hx => ?_) (fun h13 hx => ?_)
  ·obtain rfl := sI hx
   exact WK.run (an := [.lp, .reg [(3, none, .val (.pv (.int .i64 ((c2.length : Nat) : Int))))], .br true, .draw [0, 1, 2, 3, 4, 5, 6, 7, 8, 9, 10, 11, 12, 13, 14, 15, 16, 17, 18, 19, 20, 21, 22, 23, 24, 25, 26] [(3, none, .row (Vertex.enc a6)), (5, none, .call [] [] (.pv (.bool y9)) [] []), (8, some true, .no), (9, some true, .no), (10, some true, .no), (25, some true, .no), (26, none, .bit true)], .bk, .reg []]) (kt := [2]) (ko := []) (ps := (Q11 ++ [(!y9) = true, (!y9) = true, (!y9) = true, (!y9) = true, (!y9) = true])) (by kernel_rfl) (All_append.2 ⟨k12, ⟨h13, h13, h13, h13, h13, trivial⟩⟩) hn
  ·refine br_ok hx (fun h14 hx => ?_) (fun h14 hx => ?_)
   ·refine getR_ok hx fun a15 h16 h17 hx => ?_
    refine getR_ok hx fun a18 h19 h20 hx => ?_
    refine WK.run (an := [.lp, .reg [(3, none, .val (.pv (.int .i64 ((c2.length : Nat) : Int))))], .br true, .draw [0, 1, 2, 3, 4, 5, 6, 7, 8, 9, 10, 11, 12, 13, 14, 15, 16, 17, 18, 19, 20, 21, 22, 23, 24, 25, 26] [(3, none, .row (Vertex.enc a6)), (5, none, .call [] [] (.pv (.bool y9)) [] []), (8, some false, .no), (9, some false, .no), (10, some false, .no), (11, some true, .no), (12, some true, .no), (13, some true, .no), (14, some true, .row (Vertex.enc a15)), (15, some true, .no), (16, some true, .no), (17, some true, .no), (18, some true, .no), (19, some true, .no), (20, some true, .no), (21, some true, .row (Vertex.enc a18)), (22, some true, .no), (23, some true, .no), (24, some true, .no), (25, some false, .bit true), (26, none, .bit false)]]) (kt := [1, 3, 40]) (ko := [(101, 101)]) (k' := [.code (sub b41 [1, 0, 1, 0, 0, 1, 0, 0, 1]), .inBlock 1, .code (sub b41 [1, 0, 1, 0, 0, 1, 1]), .inLoop (sub b41 [1, 0, 1, 0, 0]), .inBlock 0, .code (sub b41 [1, 1])]) (σ' := ⟨123, [(1, .ref 101 0 0 0), (3, .pv (.int .i64 s)), (40, .pv (.bool (decide (a15.ID ≤ a18.ID))))], [(101, .varp [.sl (c2.map Vertex.enc), .sl (c3.map Edge.enc), .sl (c4.map eInt)])]⟩) (ps := (Q11 ++ [(!y9) = false, (!y9) = false, (!y9) = false, (decide (s > 0)) = true, (decide (s > 0)) = true, (decide (s > 0)) = true, (decide (s > 0)) = true, 0 ≤ (s : Int), (c2.map Vertex.enc)[(s : Int).toNat]? = some (Vertex.enc a15), (Vertex.enc a15).length = 2, (decide (s > 0)) = true, (decide (s > 0)) = true, (decide (s > 0)) = true, (decide (s > 0)) = true, (decide (s > 0)) = true, (decide (s > 0)) = true, (decide (s > 0)) = true, 0 ≤ ((IntKind.i64.wrap (s - 1)) : Int), (c2.map Vertex.enc)[((IntKind.i64.wrap (s - 1)) : Int).toNat]? = some (Vertex.enc a18), (Vertex.enc a18).length = 2, (decide (s > 0)) = true, (decide (s > 0)) = true, (decide (s > 0)) = true, (!y9) = false, (decide (s > 0)) = true, (!y9) = false]))
     (by kernel_rfl) (All_append.2 ⟨k12, ⟨h13, h13, h13, h14, h14, h14, h14, h16, rowOb h17, rfl, h14, h14, h14, h14, h14, h14, h14, h19, rowOb h20, rfl, h14, h14, h14, h13, h14, h13, trivial⟩⟩) ?_
    refine br_ok hx (fun h21 hx => ?_) (fun h21 hx => ?_)
    ·obtain rfl := sI hx
     exact WK.run (an := [.br true, .reg []]) (kt := [2]) (ko := []) (ps := [(decide (a15.ID ≤ a18.ID)) = true]) (by kernel_rfl) ⟨h21, trivial⟩ hn
    ·obtain rfl := sI hx
     exact WK.run (an := [.br false, .reg []]) (kt := [1, 3]) (ko := [(101, 101)]) (ps := [(decide (a15.ID ≤ a18.ID)) = false]) (by kernel_rfl) ⟨h21, trivial⟩ hn
   ·obtain rfl := sI hx
    exact WK.run (an := [.lp, .reg [(3, none, .val (.pv (.int .i64 ((c2.length : Nat) : Int))))], .br true, .draw [0, 1, 2, 3, 4, 5, 6, 7, 8, 9, 10, 11, 12, 13, 14, 15, 16, 17, 18, 19, 20, 21, 22, 23, 24, 25, 26] [(3, none, .row (Vertex.enc a6)), (5, none, .call [] [] (.pv (.bool y9)) [] []), (8, some false, .no), (9, some false, .no), (10, some false, .no), (11, some false, .no), (12, some false, .no), (13, some false, .no), (14, some false, .no), (15, some false, .no), (16, some false, .no), (17, some false, .no), (18, some false, .no), (19, some false, .no), (20, some false, .no), (21, some false, .no), (22, some false, .no), (23, some false, .no), (24, some false, .no), (25, some false, .bit false), (26, none, .bit false)], .bk, .reg []]) (kt := [1, 3]) (ko := [(101, 101)]) (ps := (Q11 ++ [(!y9) = false, (!y9) = false, (!y9) = false, (decide (s > 0)) = false, (decide (s > 0)) = false, (decide (s > 0)) = false, (decide (s > 0)) = false, (decide (s > 0)) = false, (decide (s > 0)) = false, (decide (s > 0)) = false, (decide (s > 0)) = false, (decide (s > 0)) = false, (decide (s > 0)) = false, (decide (s > 0)) = false, (decide (s > 0)) = false, (decide (s > 0)) = false, (decide (s > 0)) = false, (!y9) = false, (decide (s > 0)) = false, (!y9) = false])) (by kernel_rfl) (All_append.2 ⟨k12, ⟨h13, h13, h13, h14, h14, h14, h14, h14, h14, h14, h14, h14, h14, h14, h14, h14, h14, h13, h14, h13, trivial⟩⟩) hn
 ·refine bd_ok hx fun q22 e23 hx => ?_
  refine WK.run (an := [.lp, .reg [(3, none, .val (.pv (.int .i64 ((c2.length : Nat) : Int))))], .br false, .reg []]) (kt := [1, 4]) (ko := [(101, 101)]) (ps := [AV.pv (.int .i64 ((c2.map Vertex.enc).length : Nat)) = .pv (.int .i64 (c2.length : Nat)), (decide (s < ((c2.length : Nat) : Int))) = false]) (by kernel_rfl) ⟨lenOb, h5, trivial⟩ (WK.enterLoop (r3Valid.l1.ok c2 c3 c4 _ _ _ _ e23 ?_))
  rcases q22 with (q22 | (q22 | q22))
  ·obtain rfl := sI hx
   exact WK.run (an := []) (kt := [2]) (ko := []) (ps := []) (by kernel_rfl) trivial hn
  ·obtain rfl := sI hx
   exact WK.run (an := []) (kt := [2]) (ko := []) (ps := []) (by kernel_rfl) trivial hn
  ·obtain rfl := sI hx
   exact WK.run (an := []) (kt := [1]) (ko := [(101, 101)]) (ps := []) (by kernel_rfl) trivial hn
noncomputable def r3Valid (v1 : Graph) : Option Bool :=
 bd (loopN fuel (r3Valid.l2 v1.Vertices v1.Edges v1.Depots) 0) fun q24 =>
 match q24 with
 | .inl q24 =>
  some false
 | .inr (.inl q24) =>
  some false
 | .inr (.inr (.inl q24)) =>
  some false
 | .inr (.inr (.inr q24)) =>
  some (decide (((v1.Depots.length : Nat) : Int) ≤ 3))
theorem r3Valid.ok (v1 : Graph) {x : Bool} (hx : r3Valid v1 = some x) :
  Spec Try.prog 41 [.aggp [.sl (v1.Vertices.map Vertex.enc), .sl (v1.Edges.map Edge.enc), .sl (v1.Depots.map eInt)]] [] (.pv (.bool x)) [] := by
 refine Spec.of (c := b41) Try.func41 rfl rfl rfl ?_
 unfold r3Valid at hx
 refine bd_ok hx fun q24 e25 hx => ?_
 refine WK.run (an := [.reg [(0, none, .nm 1003)], .reg []]) (kt := [1, 3]) (ko := [(1003, 101)]) (ps := []) (by kernel_rfl) trivial (WK.enterLoop (r3Valid.l2.ok v1.Vertices v1.Edges v1.Depots _ _ _ _ e25 ?_))
 rcases q24 with (q24 | (q24 | (q24 | q24)))
 ·obtain rfl := sI hx
  exact WK.fin (fn := Try.f41) Try.func41 (an := []) (kt := [2]) (ko := []) (frz := []) (ps := []) (qs := []) (by kernel_rfl) trivial trivial
 ·obtain rfl := sI hx
  exact WK.fin (fn := Try.f41) Try.func41 (an := []) (kt := [2]) (ko := []) (frz := []) (ps := []) (qs := []) (by kernel_rfl) trivial trivial
 ·obtain rfl := sI hx
  exact WK.fin (fn := Try.f41) Try.func41 (an := []) (kt := [2]) (ko := []) (frz := []) (ps := []) (qs := []) (by kernel_rfl) trivial trivial
 ·obtain rfl := sI hx
  exact WK.fin (fn := Try.f41) Try.func41 (an := [.reg [(2, none, .val (.pv (.int .i64 ((v1.Depots.length : Nat) : Int))))]]) (kt := [2]) (ko := []) (frz := []) (ps := [AV.pv (.int .i64 ((v1.Depots.map eInt).length : Nat)) = .pv (.int .i64 (v1.Depots.length : Nat))]) (qs := []) (by kernel_rfl) ⟨lenOb, trivial⟩ trivial
noncomputable abbrev b43 : Code := body Try.f43
noncomputable def r7spread.l0 (c19 : Int) (c20 : Int) (c21 : List Vertex) (c22 : List Edge) (c23 : List Int) (c24 : List Bool) (s : Int × (List Bool)) : Option (Nx (Int × (List Bool)) (List Bool)) :=
 br (decide (s.1 < ((c22.length : Nat) : Int))) (
  getR c22 s.1 fun a26 =>
  bd (r3Place (Graph.mk c21 c22 c23) a26.From) fun y29 =>
  getR c22 s.1 fun a31 =>
  bd (r3Place (Graph.mk c21 c22 c23) a31.To) fun y34 =>
  gd (0 ≤ (y29 : Int) ∧ (y29 : Int) < ((s.2.length : Nat) : Int)) <|
  bd (s.2[(0 + (y29 : Int).toNat)]?) fun a37 =>
  br a37 (
   gd (0 ≤ (y29 : Int) ∧ (y29 : Int) < ((s.2.length : Nat) : Int)) <|
   bd (s.2[(0 + (y29 : Int).toNat)]?) fun a44 =>
   gd (0 ≤ (y34 : Int) ∧ (y34 : Int) < ((s.2.length : Nat) : Int)) <|
   bd ((s.2.set (0 + (y29 : Int).toNat) true)[(0 + (y34 : Int).toNat)]?) fun a47 =>
   br a47 (
    gd (0 ≤ (y34 : Int) ∧ (y34 : Int) < ((s.2.length : Nat) : Int)) <|
    bd ((s.2.set (0 + (y29 : Int).toNat) true)[(0 + (y34 : Int).toNat)]?) fun a53 =>
    some (.cont ((IntKind.i64.wrap (s.1 + 1)), ((s.2.set (0 + (y29 : Int).toNat) true).set (0 + (y34 : Int).toNat) true)))) (
    gd (0 ≤ (y29 : Int) ∧ (y29 : Int) < ((c24.length : Nat) : Int)) <|
    bd (c24[(0 + (y29 : Int).toNat)]?) fun a56 =>
    gd (0 ≤ (y34 : Int) ∧ (y34 : Int) < ((s.2.length : Nat) : Int)) <|
    bd ((s.2.set (0 + (y29 : Int).toNat) true)[(0 + (y34 : Int).toNat)]?) fun a59 =>
    some (.cont ((IntKind.i64.wrap (s.1 + 1)), ((s.2.set (0 + (y29 : Int).toNat) true).set (0 + (y34 : Int).toNat) a56))))) (
   gd (0 ≤ (y34 : Int) ∧ (y34 : Int) < ((c24.length : Nat) : Int)) <|
   bd (c24[(0 + (y34 : Int).toNat)]?) fun a62 =>
   gd (0 ≤ (y29 : Int) ∧ (y29 : Int) < ((s.2.length : Nat) : Int)) <|
   bd (s.2[(0 + (y29 : Int).toNat)]?) fun a65 =>
   gd (0 ≤ (y34 : Int) ∧ (y34 : Int) < ((s.2.length : Nat) : Int)) <|
   bd ((s.2.set (0 + (y29 : Int).toNat) a62)[(0 + (y34 : Int).toNat)]?) fun a68 =>
   br a68 (
    gd (0 ≤ (y34 : Int) ∧ (y34 : Int) < ((s.2.length : Nat) : Int)) <|
    bd ((s.2.set (0 + (y29 : Int).toNat) a62)[(0 + (y34 : Int).toNat)]?) fun a74 =>
    some (.cont ((IntKind.i64.wrap (s.1 + 1)), ((s.2.set (0 + (y29 : Int).toNat) a62).set (0 + (y34 : Int).toNat) true)))) (
    gd (0 ≤ (y29 : Int) ∧ (y29 : Int) < ((c24.length : Nat) : Int)) <|
    bd (c24[(0 + (y29 : Int).toNat)]?) fun a77 =>
    gd (0 ≤ (y34 : Int) ∧ (y34 : Int) < ((s.2.length : Nat) : Int)) <|
    bd ((s.2.set (0 + (y29 : Int).toNat) a62)[(0 + (y34 : Int).toNat)]?) fun a80 =>
    some (.cont ((IntKind.i64.wrap (s.1 + 1)), ((s.2.set (0 + (y29 : Int).toNat) a62).set (0 + (y34 : Int).toNat) a77)))))) (
  some (.done s.2))
abbrev r7spread.l0.enc (c19 : Int) (c20 : Int) (c21 : List Vertex) (c22 : List Edge) (c23 : List Int) (c24 : List Bool) (s : Int × (List Bool)) : St := ⟨81, [(2, .pv (.int .i64 c19)), (3, .ref 101 0 0 0), (7, .hd 103 0 ((c24.map eBool).length) 1), (8, .pv (.int .i64 c20)), (9, .hd 105 0 ((s.2.map eBool).length) 1), (10, .pv (.int .i64 s.1))], [(101, .varp [.sl (c21.map Vertex.enc), .sl (c22.map Edge.enc), .sl (c23.map eInt)]), (103, .sl false 1 (c24.map eBool)), (105, .sl false 1 (s.2.map eBool))]⟩
abbrev r7spread.l0.post (c19 : Int) (c20 : Int) (c21 : List Vertex) (c22 : List Edge) (c23 : List Int) (c24 : List Bool) (r : AV) (outs : List AObj) (q : (List Bool)) : Prop := WK Try.prog (43, 0) [.code (sub b43 [1, 1, 1, 0, 1, 0, 0, 1, 0, 0, 1, 1]), .inBlock 1, .code (sub b43 [1, 1, 1, 0, 1, 0, 0, 1, 1]), .inLoop (sub b43 [1, 1, 1, 0, 1, 0, 0]), .inBlock 0, .code (sub b43 [1, 1, 1, 1])] ⟨81, [(2, .pv (.int .i64 c19)), (3, .ref 101 0 0 0), (8, .pv (.int .i64 c20)), (9, .hd 103 0 ((q.map eBool).length) 1)], [(101, .varp [.sl (c21.map Vertex.enc), .sl (c22.map Edge.enc), .sl (c23.map eInt)]), (103, .sl false 1 (q.map eBool))]⟩ r outs
theorem r7spread.l0.ok (c19 : Int) (c20 : Int) (c21 : List Vertex) (c22 : List Edge) (c23 : List Int) (c24 : List Bool) (r : AV) (outs : List AObj) (s : Int × (List Bool)) (q : (List Bool)) (h : loopN fuel (r7spread.l0 c19 c20 c21 c22 c23 c24) s = some q) (hd : r7spread.l0.post c19 c20 c21 c22 c23 c24 r outs q) :
  WK Try.prog (43, 0) [.inLoop (sub b43 [1, 1, 1, 0, 1, 0, 0, 1, 0, 0, 1, 0, 1, 0, 0]), .inBlock 2, .code (sub b43 [1, 1, 1, 0, 1, 0, 0, 1, 0, 0, 1, 1]), .inBlock 1, .code (sub b43 [1, 1, 1, 0, 1, 0, 0, 1, 1]), .inLoop (sub b43 [1, 1, 1, 0, 1, 0, 0]), .inBlock 0, .code (sub b43 [1, 1, 1, 1])] (r7spread.l0.enc c19 c20 c21 c22 c23 c24 s) r outs := by
 refine WK.loop (r7spread.l0.enc c19 c20 c21 c22 c23 c24) (r7spread.l0 c19 c20 c21 c22 c23 c24) (r7spread.l0.post c19 c20 c21 c22 c23 c24 r outs) ?_ fuel s q h hd
 intro s x hx hn
 unfold r7spread.l0 at hx
 refine br_ok hx (fun h25 hx => ?_) (fun h25 hx => ?_)
 ·refine getR_ok hx fun a26 h27 h28 hx => ?_
  refine bd_ok hx fun y29 e30 hx => ?_
  refine getR_ok hx fun a31 h32 h33 hx => ?_
  refine bd_ok hx fun y34 e35 hx => ?_
  refine gd_ok hx fun h36 hx => ?_
  refine bd_ok hx fun a37 h38 hx => ?_
  let A39 : List An := [.lp, .reg [(3, none, .val (.pv (.int .i64 ((c22.length : Nat) : Int))))], .br true, .draw [0, 1, 2, 3, 4, 5, 6, 7, 8] [(4, none, .row (Edge.enc a26)), (7, none, .call [] [] (.pv (.int .i64 y29)) [] [])], .draw [0, 1, 2, 3, 4, 5, 6, 7, 8] [(4, none, .row (Edge.enc a31)), (7, none, .call [] [] (.pv (.int .i64 y34)) [] [])]]
  let Q40 : List Prop := [AV.pv (.int .i64 ((c22.map Edge.enc).length : Nat)) = .pv (.int .i64 (c22.length : Nat)), (decide (s.1 < ((c22.length : Nat) : Int))) = true, 0 ≤ (s.1 : Int), (c22.map Edge.enc)[(s.1 : Int).toNat]? = some (Edge.enc a26), (Edge.enc a26).length = 6, Spec Try.prog 34 [.aggp [.sl (c21.map Vertex.enc), .sl (c22.map Edge.enc), .sl (c23.map eInt)], .pv (.int .i64 a26.From)] [] (.pv (.int .i64 y29)) [], 0 ≤ (s.1 : Int), (c22.map Edge.enc)[(s.1 : Int).toNat]? = some (Edge.enc a31), (Edge.enc a31).length = 6, Spec Try.prog 34 [.aggp [.sl (c21.map Vertex.enc), .sl (c22.map Edge.enc), .sl (c23.map eInt)], .pv (.int .i64 a31.To)] [] (.pv (.int .i64 y34)) [], 0 ≤ (y29 : Int), (y29 : Int) < (((s.2.map eBool).length : Nat) : Int), (s.2.map eBool)[(0 + (y29 : Int).toNat)]? = some (eBool a37)]
  have k41 : All Q40 := ⟨lenOb, h25, h27, rowOb h28, rfl, r3Place.ok (Graph.mk c21 c22 c23) a26.From e30, h32, rowOb h33, rfl, r3Place.ok (Graph.mk c21 c22 c23) a31.To e35, h36.1, lenLt h36.2, rowOb h38, trivial⟩
  refine br_ok hx (fun h42 hx => ?_) (fun h42 hx => ?_)
  ·refine gd_ok hx fun h43 hx => ?_
   refine bd_ok hx fun a44 h45 hx => ?_
   refine gd_ok hx fun h46 hx => ?_
   refine bd_ok hx fun a47 h48 hx => ?_
   let Q49 : List Prop := (Q40 ++ [a37 = true, 0 ≤ (y29 : Int), (y29 : Int) < (((s.2.map eBool).length : Nat) : Int), (s.2.map eBool)[(0 + (y29 : Int).toNat)]? = some (eBool a44), 1 = 1, 0 + 1 ≤ (eBool a44).length, (s.2.map eBool).set (0 + (y29 : Int).toNat) (splice (eBool a44) 0 [.bool true]) = ((s.2.set (0 + (y29 : Int).toNat) true).map eBool), 0 ≤ (y34 : Int), (y34 : Int) < (((s.2.map eBool).length : Nat) : Int), ((s.2.set (0 + (y29 : Int).toNat) true).map eBool)[(0 + (y34 : Int).toNat)]? = some (eBool a47)])
   have k50 : All Q49 := (All_append.2 ⟨k41, ⟨h42, h43.1, lenLt h43.2, rowOb h45, rfl, Nat.le_of_ble_eq_true rfl, setOb (f := eBool) (x := true), h46.1, lenLt h46.2, rowOb h48, trivial⟩⟩)
   refine br_ok hx (fun h51 hx => ?_) (fun h51 hx => ?_)
   ·refine gd_ok hx fun h52 hx => ?_
    refine bd_ok hx fun a53 h54 hx => ?_
    obtain rfl := sI hx
    refine WK.run (an := (A39 ++ [.reg [(5, none, .row (eBool a37)), (7, some true, .no), (13, none, .rows (eBool a44) ((s.2.set (0 + (y29 : Int).toNat) true).map eBool))], .reg [(5, none, .row (eBool a47)), (7, some true, .no), (13, none, .rows (eBool a53) (((s.2.set (0 + (y29 : Int).toNat) true).set (0 + (y34 : Int).toNat) true).map eBool))], .reg []])) (kt := [2, 3, 7, 8, 9, 10]) (ko := [(101, 101), (103, 103), (105, 105)]) (k' := [.inLoop (sub b43 [1, 1, 1, 0, 1, 0, 0, 1, 0, 0, 1, 0, 1, 0, 0]), .inBlock 2, .code (sub b43 [1, 1, 1, 0, 1, 0, 0, 1, 0, 0, 1, 1]), .inBlock 1, .code (sub b43 [1, 1, 1, 0, 1, 0, 0, 1, 1]), .inLoop (sub b43 [1, 1, 1, 0, 1, 0, 0]), .inBlock 0, .code (sub b43 [1, 1, 1, 1])]) (σ' := ⟨81, [(2, .pv (.int .i64 c19)), (3, .ref 101 0 0 0), (7, .hd 103 0 ((c24.map eBool).length) 1), (8, .pv (.int .i64 c20)), (9, .hd 105 0 ((s.2.map eBool).length) 1), (10, .pv (.int .i64 (IntKind.i64.wrap (s.1 + 1))))], [(101, .varp [.sl (c21.map Vertex.enc), .sl (c22.map Edge.enc), .sl (c23.map eInt)]), (103, .sl false 1 (c24.map eBool)), (105, .sl false 1 (((s.2.set (0 + (y29 : Int).toNat) true).set (0 + (y34 : Int).toNat) true).map eBool))]⟩) (ps := (Q49 ++ [a47 = true, 0 ≤ (y34 : Int), (y34 : Int) < (((s.2.map eBool).length : Nat) : Int), ((s.2.set (0 + (y29 : Int).toNat) true).map eBool)[(0 + (y34 : Int).toNat)]? = some (eBool a53), 1 = 1, 0 + 1 ≤ (eBool a53).length, ((s.2.set (0 + (y29 : Int).toNat) true).map eBool).set (0 + (y34 : Int).toNat) (splice (eBool a53) 0 [.bool true]) = (((s.2.set (0 + (y29 : Int).toNat) true).set (0 + (y34 : Int).toNat) true).map eBool)]))
     (by kernel_rfl) (All_append.2 ⟨k50, ⟨h51, h52.1, lenLt h52.2, rowOb h54, rfl, Nat.le_of_ble_eq_true rfl, setOb (f := eBool) (x := true), trivial⟩⟩) ?_
    refine WK.eq (σ' := r7spread.l0.enc c19 c20 c21 c22 c23 c24 ((IntKind.i64.wrap (s.1 + 1)), ((s.2.set (0 + (y29 : Int).toNat) true).set (0 + (y34 : Int).toNat) true))) (by simp only [r7spread.l0.enc, List.length_map, List.length_set]) ?_
    exact hn
   ·refine gd_ok hx fun h55 hx => ?_
    refine bd_ok hx fun a56 h57 hx => ?_
    refine gd_ok hx fun h58 hx => ?_
    refine bd_ok hx fun a59 h60 hx => ?_
    obtain rfl := sI hx
    refine WK.run (an := (A39 ++ [.reg [(5, none, .row (eBool a37)), (7, some true, .no), (13, none, .rows (eBool a44) ((s.2.set (0 + (y29 : Int).toNat) true).map eBool))], .reg [(5, none, .row (eBool a47)), (7, some false, .no), (10, none, .row (eBool a56)), (13, none, .rows (eBool a59) (((s.2.set (0 + (y29 : Int).toNat) true).set (0 + (y34 : Int).toNat) a56).map eBool))], .reg []])) (kt := [2, 3, 7, 8, 9, 10]) (ko := [(101, 101), (103, 103), (105, 105)]) (k' := [.inLoop (sub b43 [1, 1, 1, 0, 1, 0, 0, 1, 0, 0, 1, 0, 1, 0, 0]), .inBlock 2, .code (sub b43 [1, 1, 1, 0, 1, 0, 0, 1, 0, 0, 1, 1]), .inBlock 1, .code (sub b43 [1, 1, 1, 0, 1, 0, 0, 1, 1]), .inLoop (sub b43 [1, 1, 1, 0, 1, 0, 0]), .inBlock 0, .code (sub b43 [1, 1, 1, 1])]) (σ' := ⟨81, [(2, .pv (.int .i64 c19)), (3, .ref 101 0 0 0), (7, .hd 103 0 ((c24.map eBool).length) 1), (8, .pv (.int .i64 c20)), (9, .hd 105 0 ((s.2.map eBool).length) 1), (10, .pv (.int .i64 (IntKind.i64.wrap (s.1 + 1))))], [(101, .varp [.sl (c21.map Vertex.enc), .sl (c22.map Edge.enc), .sl (c23.map eInt)]), (103, .sl false 1 (c24.map eBool)), (105, .sl false 1 (((s.2.set (0 + (y29 : Int).toNat) true).set (0 + (y34 : Int).toNat) a56).map eBool))]⟩) (ps := (Q49 ++ [a47 = false, 0 ≤ (y29 : Int), (y29 : Int) < (((c24.map eBool).length : Nat) : Int), (c24.map eBool)[(0 + (y29 : Int).toNat)]? = some (eBool a56), 0 ≤ (y34 : Int), (y34 : Int) < (((s.2.map eBool).length : Nat) : Int), ((s.2.set (0 + (y29 : Int).toNat) true).map eBool)[(0 + (y34 : Int).toNat)]? = some (eBool a59), 1 = 1, 0 + 1 ≤ (eBool a59).length, ((s.2.set (0 + (y29 : Int).toNat) true).map eBool).set (0 + (y34 : Int).toNat) (splice (eBool a59) 0 [.bool a56]) = (((s.2.set (0 + (y29 : Int).toNat) true).set (0 + (y34 : Int).toNat) a56).map eBool)]))
     (by kernel_rfl) (All_append.2 ⟨k50, ⟨h51, h55.1, lenLt h55.2, rowOb h57, h58.1, lenLt h58.2, rowOb h60, rfl, Nat.le_of_ble_eq_true rfl, setOb (f := eBool) (x := a56), trivial⟩⟩) ?_
    refine WK.eq (σ' := r7spread.l0.enc c19 c20 c21 c22 c23 c24 ((IntKind.i64.wrap (s.1 + 1)), ((s.2.set (0 + (y29 : Int).toNat) true).set (0 + (y34 : Int).toNat) a56))) (by simp only [r7spread.l0.enc, List.length_map, List.length_set]) ?_
    exact hn
  ·refine gd_ok hx fun h61 hx => ?_
   refine bd_ok hx fun a62 h63 hx => ?_
   refine gd_ok hx fun h64 hx => ?_
   refine bd_ok hx fun a65 h66 hx => ?_
   refine gd_ok hx fun h67 hx => ?_
   refine bd_ok hx fun a68 h69 hx => ?_
   let Q70 : List Prop := (Q40 ++ [a37 = false, 0 ≤ (y34 : Int), (y34 : Int) < (((c24.map eBool).length : Nat) : Int), (c24.map eBool)[(0 + (y34 : Int).toNat)]? = some (eBool a62), 0 ≤ (y29 : Int), (y29 : Int) < (((s.2.map eBool).length : Nat) : Int), (s.2.map eBool)[(0 + (y29 : Int).toNat)]? = some (eBool a65), 1 = 1, 0 + 1 ≤ (eBool a65).length, (s.2.map eBool).set (0 + (y29 : Int).toNat) (splice (eBool a65) 0 [.bool a62]) = ((s.2.set (0 + (y29 : Int).toNat) a62).map eBool), 0 ≤ (y34 : Int), (y34 : Int) < (((s.2.map eBool).length : Nat) : Int), ((s.2.set (0 + (y29 : Int).toNat) a62).map eBool)[(0 + (y34 : Int).toNat)]? = some (eBool a68)])
   have k71 : All Q70 := (All_append.2 ⟨k41, ⟨h42, h61.1, lenLt h61.2, rowOb h63, h64.1, lenLt h64.2, rowOb h66, rfl, Nat.le_of_ble_eq_true rfl, setOb (f := eBool) (x := a62), h67.1, lenLt h67.2, rowOb h69, trivial⟩⟩)
   refine br_ok hx (fun h72 hx => ?_) (fun h72 hx => ?_)
   ·refine gd_ok hx fun h73 hx => ?_
    refine bd_ok hx fun a74 h75 hx => ?_
    obtain rfl := sI hx
    refine WK.run (an := (A39 ++ [.reg [(5, none, .row (eBool a37)), (7, some false, .no), (10, none, .row (eBool a62)), (13, none, .rows (eBool a65) ((s.2.set (0 + (y29 : Int).toNat) a62).map eBool))], .reg [(5, none, .row (eBool a68)), (7, some true, .no), (13, none, .rows (eBool a74) (((s.2.set (0 + (y29 : Int).toNat) a62).set (0 + (y34 : Int).toNat) true).map eBool))], .reg []])) (kt := [2, 3, 7, 8, 9, 10]) (ko := [(101, 101), (103, 103), (105, 105)]) (k' := [.inLoop (sub b43 [1, 1, 1, 0, 1, 0, 0, 1, 0, 0, 1, 0, 1, 0, 0]), .inBlock 2, .code (sub b43 [1, 1, 1, 0, 1, 0, 0, 1, 0, 0, 1, 1]), .inBlock 1, .code (sub b43 [1, 1, 1, 0, 1, 0, 0, 1, 1]), .inLoop (sub b43 [1, 1, 1, 0, 1, 0, 0]), .inBlock 0, .code (sub b43 [1, 1, 1, 1])]) (σ' := ⟨81, [(2, .pv (.int .i64 c19)), (3, .ref 101 0 0 0), (7, .hd 103 0 ((c24.map eBool).length) 1), (8, .pv (.int .i64 c20)), (9, .hd 105 0 ((s.2.map eBool).length) 1), (10, .pv (.int .i64 (IntKind.i64.wrap (s.1 + 1))))], [(101, .varp [.sl (c21.map Vertex.enc), .sl (c22.map Edge.enc), .sl (c23.map eInt)]), (103, .sl false 1 (c24.map eBool)), (105, .sl false 1 (((s.2.set (0 + (y29 : Int).toNat) a62).set (0 + (y34 : Int).toNat) true).map eBool))]⟩) (ps := (Q70 ++ [a68 = true, 0 ≤ (y34 : Int), (y34 : Int) < (((s.2.map eBool).length : Nat) : Int), ((s.2.set (0 + (y29 : Int).toNat) a62).map eBool)[(0 + (y34 : Int).toNat)]? = some (eBool a74), 1 = 1, 0 + 1 ≤ (eBool a74).length, ((s.2.set (0 + (y29 : Int).toNat) a62).map eBool).set (0 + (y34 : Int).toNat) (splice (eBool a74) 0 [.bool true]) = (((s.2.set (0 + (y29 : Int).toNat) a62).set (0 + (y34 : Int).toNat) true).map eBool)]))
     (by kernel_rfl) (All_append.2 ⟨k71, ⟨h72, h73.1, lenLt h73.2, rowOb h75, rfl, Nat.le_of_ble_eq_true rfl, setOb (f := eBool) (x := true), trivial⟩⟩) ?_
    refine WK.eq (σ' := r7spread.l0.enc c19 c20 c21 c22 c23 c24 ((IntKind.i64.wrap (s.1 + 1)), ((s.2.set (0 + (y29 : Int).toNat) a62).set (0 + (y34 : Int).toNat) true))) (by simp only [r7spread.l0.enc, List.length_map, List.length_set]) ?_
    exact hn
   ·refine gd_ok hx fun h76 hx => ?_
    refine bd_ok hx fun a77 h78 hx => ?_
    refine gd_ok hx fun h79 hx => ?_
    refine bd_ok hx fun a80 h81 hx => ?_
    obtain rfl := sI hx
    refine WK.run (an := (A39 ++ [.reg [(5, none, .row (eBool a37)), (7, some false, .no), (10, none, .row (eBool a62)), (13, none, .rows (eBool a65) ((s.2.set (0 + (y29 : Int).toNat) a62).map eBool))], .reg [(5, none, .row (eBool a68)), (7, some false, .no), (10, none, .row (eBool a77)), (13, none, .rows (eBool a80) (((s.2.set (0 + (y29 : Int).toNat) a62).set (0 + (y34 : Int).toNat) a77).map eBool))], .reg []])) (kt := [2, 3, 7, 8, 9, 10]) (ko := [(101, 101), (103, 103), (105, 105)]) (k' := [.inLoop (sub b43 [1, 1, 1, 0, 1, 0, 0, 1, 0, 0, 1, 0, 1, 0, 0]), .inBlock 2, .code (sub b43 [1, 1, 1, 0, 1, 0, 0, 1, 0, 0, 1, 1]), .inBlock 1, .code (sub b43 [1, 1, 1, 0, 1, 0, 0, 1, 1]), .inLoop (sub b43 [1, 1, 1, 0, 1, 0, 0]), .inBlock 0, .code (sub b43 [1, 1, 1, 1])]) (σ' := ⟨81, [(2, .pv (.int .i64 c19)), (3, .ref 101 0 0 0), (7, .hd 103 0 ((c24.map eBool).length) 1), (8, .pv (.int .i64 c20)), (9, .hd 105 0 ((s.2.map eBool).length) 1), (10, .pv (.int .i64 (IntKind.i64.wrap (s.1 + 1))))], [(101, .varp [.sl (c21.map Vertex.enc), .sl (c22.map Edge.enc), .sl (c23.map eInt)]), (103, .sl false 1 (c24.map eBool)), (105, .sl false 1 (((s.2.set (0 + (y29 : Int).toNat) a62).set (0 + (y34 : Int).toNat) a77).map eBool))]⟩) (ps := (Q70 ++ [a68 = false, 0 ≤ (y29 : Int), (y29 : Int) < (((c24.map eBool).length : Nat) : Int), (c24.map eBool)[(0 + (y29 : Int).toNat)]? = some (eBool a77), 0 ≤ (y34 : Int), (y34 : Int) < (((s.2.map eBool).length : Nat) : Int), ((s.2.set (0 + (y29 : Int).toNat) a62).map eBool)[(0 + (y34 : Int).toNat)]? = some (eBool a80), 1 = 1, 0 + 1 ≤ (eBool a80).length, ((s.2.set (0 + (y29 : Int).toNat) a62).map eBool).set (0 + (y34 : Int).toNat) (splice (eBool a80) 0 [.bool a77]) = (((s.2.set (0 + (y29 : Int).toNat) a62).set (0 + (y34 : Int).toNat) a77).map eBool)]))
     (by kernel_rfl) (All_append.2 ⟨k71, ⟨h72, h76.1, lenLt h76.2, rowOb h78, h79.1, lenLt h79.2, rowOb h81, rfl, Nat.le_of_ble_eq_true rfl, setOb (f := eBool) (x := a77), trivial⟩⟩) ?_
    refine WK.eq (σ' := r7spread.l0.enc c19 c20 c21 c22 c23 c24 ((IntKind.i64.wrap (s.1 + 1)), ((s.2.set (0 + (y29 : Int).toNat) a62).set (0 + (y34 : Int).toNat) a77))) (by simp only [r7spread.l0.enc, List.length_map, List.length_set]) ?_
    exact hn
 ·obtain rfl := sI hx
  exact WK.run (an := [.lp, .reg [(3, none, .val (.pv (.int .i64 ((c22.length : Nat) : Int))))], .br false]) (kt := [2, 3, 8, 9]) (ko := [(101, 101), (105, 103)]) (ps := [AV.pv (.int .i64 ((c22.map Edge.enc).length : Nat)) = .pv (.int .i64 (c22.length : Nat)), (decide (s.1 < ((c22.length : Nat) : Int))) = false]) (by kernel_rfl) ⟨lenOb, h25, trivial⟩ hn
noncomputable def r7spread.l1 (c12 : Int) (c13 : List Vertex) (c14 : List Edge) (c15 : List Int) (s : Int × (List Bool)) : Option (Nx (Int × (List Bool)) (List Bool)) :=
 br (decide (s.1 < c12)) (
  gd (s.2.length ≤ bigLen) <|
  bd (loopN fuel (r7spread.l0 c12 s.1 c13 c14 c15 s.2) (0, s.2)) fun q18 =>
  some (.cont ((IntKind.i64.wrap (s.1 + 1)), q18))) (
  some (.done s.2))
abbrev r7spread.l1.enc (c12 : Int) (c13 : List Vertex) (c14 : List Edge) (c15 : List Int) (s : Int × (List Bool)) : St := ⟨81, [(2, .pv (.int .i64 c12)), (3, .ref 101 0 0 0), (7, .hd 103 0 ((s.2.map eBool).length) 1), (8, .pv (.int .i64 s.1))], [(101, .varp [.sl (c13.map Vertex.enc), .sl (c14.map Edge.enc), .sl (c15.map eInt)]), (103, .sl false 1 (s.2.map eBool))]⟩
abbrev r7spread.l1.post (c12 : Int) (c13 : List Vertex) (c14 : List Edge) (c15 : List Int) (r : AV) (outs : List AObj) (q : (List Bool)) : Prop := WK Try.prog (43, 0) [.code (sub b43 [1, 1, 1, 1, 0]), .code (sub b43 [1, 1, 1, 1, 1])] ⟨81, [(7, .hd 101 0 ((q.map eBool).length) 1)], [(101, .sl false 1 (q.map eBool))]⟩ r outs
theorem r7spread.l1.ok (c12 : Int) (c13 : List Vertex) (c14 : List Edge) (c15 : List Int) (r : AV) (outs : List AObj) (s : Int × (List Bool)) (q : (List Bool)) (h : loopN fuel (r7spread.l1 c12 c13 c14 c15) s = some q) (hd : r7spread.l1.post c12 c13 c14 c15 r outs q) :
  WK Try.prog (43, 0) [.inLoop (sub b43 [1, 1, 1, 0, 1, 0, 0]), .inBlock 0, .code (sub b43 [1, 1, 1, 1])] (r7spread.l1.enc c12 c13 c14 c15 s) r outs := by
 refine WK.loop (r7spread.l1.enc c12 c13 c14 c15) (r7spread.l1 c12 c13 c14 c15) (r7spread.l1.post c12 c13 c14 c15 r outs) ?_ fuel s q h hd
 intro s x hx hn
 unfold r7spread.l1 at hx
 refine br_ok hx (fun h16 hx => ?_) (fun h16 hx => ?_)
 ·refine gd_ok hx fun h17 hx => ?_
  refine bd_ok hx fun q18 e19 hx => ?_
  refine WK.run (an := [.lp, .reg [], .br true, .reg [(0, none, .nm 1011), (2, none, .app 1013 (s.2.map eBool))], .reg []]) (kt := [2, 3, 7, 8, 9, 10]) (ko := [(101, 101), (103, 103), (1013, 105)]) (ps := [(decide (s.1 < c12)) = true, 1 = 1, 0 + ((s.2.map eBool).length) ≤ (s.2.map eBool).length, 0 + 0 = ([].map eBool).length, ([].map eBool).drop 0 ++ (cut1 (s.2.map eBool) 0 ((s.2.map eBool).length)) = (s.2.map eBool), (s.2.map eBool).length ≤ bigLen, ∀ r ∈ (cut1 (s.2.map eBool) 0 ((s.2.map eBool).length)), r.length = 1]) (by kernel_rfl) ⟨h16, rfl, Nat.le_of_eq (Nat.zero_add _), Nat.zero_add _, by simp [cut1, List.take_of_length_le], bigOb h17, cut_len fun _ => rfl, trivial⟩ (WK.enterLoop (r7spread.l0.ok c12 s.1 c13 c14 c15 s.2 _ _ _ _ e19 ?_))
  obtain rfl := sI hx
  exact WK.run (an := [.reg [], .reg []]) (kt := [2, 3, 7, 8]) (ko := [(101, 101), (103, 103)]) (ps := []) (by kernel_rfl) trivial hn
 ·obtain rfl := sI hx
  exact WK.run (an := [.lp, .reg [], .br false]) (kt := [7]) (ko := [(103, 101)]) (ps := [(decide (s.1 < c12)) = false]) (by kernel_rfl) ⟨h16, trivial⟩ hn
noncomputable def r7spread (v1 : Graph) (v2 : Int) (v3 : Int) : Option (List Bool) :=
 gd (0 ≤ (((v1.Vertices.length : Nat) : Int) : Int)) <|
 gd ((((v1.Vertices.length : Nat) : Int) : Int) ≤ (((v1.Vertices.length : Nat) : Int) : Int)) <|
 gd ((((v1.Vertices.length : Nat) : Int) : Int) ≤ (bigLen : Int)) <|
 bd (r3Place v1 v2) fun y7 =>
 gd (0 ≤ (y7 : Int) ∧ (y7 : Int) < (((List.replicate (((v1.Vertices.length : Nat) : Int) : Int).toNat false).length : Nat) : Int)) <|
 bd ((List.replicate (((v1.Vertices.length : Nat) : Int) : Int).toNat false)[(0 + (y7 : Int).toNat)]?) fun a10 =>
 bd (loopN fuel (r7spread.l1 v3 v1.Vertices v1.Edges v1.Depots) (0, ((List.replicate (((v1.Vertices.length : Nat) : Int) : Int).toNat false).set (0 + (y7 : Int).toNat) true))) fun q20 =>
 some q20
theorem r7spread.ok (v1 : Graph) (v2 : Int) (v3 : Int) {x : (List Bool)} (hx : r7spread v1 v2 v3 = some x) :
  Spec Try.prog 43 [.aggp [.sl (v1.Vertices.map Vertex.enc), .sl (v1.Edges.map Edge.enc), .sl (v1.Depots.map eInt)], .pv (.int .i64 v2), .pv (.int .i64 v3)] [] (.pv (.sl (x.map eBool))) [] := by
 refine Spec.of (c := b43) Try.func43 rfl rfl rfl ?_
 unfold r7spread at hx
 refine gd_ok hx fun h4 hx => ?_
 refine gd_ok hx fun h5 hx => ?_
 refine gd_ok hx fun h6 hx => ?_
 refine bd_ok hx fun y7 e8 hx => ?_
 refine gd_ok hx fun h9 hx => ?_
 refine bd_ok hx fun a10 h11 hx => ?_
 refine bd_ok hx fun q20 e21 hx => ?_
 refine WK.run (an := [.reg [(0, none, .nm 1003), (1, none, .val (.pv (.sl ([].map eBool))))], .reg [(2, none, .val (.pv (.int .i64 ((v1.Vertices.length : Nat) : Int)))), (3, none, .app 1005 ((List.replicate (((v1.Vertices.length : Nat) : Int) : Int).toNat false).map eBool))], .reg [(3, none, .call [] [] (.pv (.int .i64 y7)) [] []), (5, none, .rows (eBool a10) (((List.replicate (((v1.Vertices.length : Nat) : Int) : Int).toNat false).set (0 + (y7 : Int).toNat) true).map eBool))], .reg []]) (kt := [2, 3, 7, 8]) (ko := [(1003, 101), (1005, 103)]) (k' := [.code (sub b43 [1, 1, 1, 0, 1, 0]), .inBlock 0, .code (sub b43 [1, 1, 1, 1])]) (σ' := ⟨81, [(2, .pv (.int .i64 v3)), (3, .ref 101 0 0 0), (7, .hd 103 0 (((List.replicate (((v1.Vertices.length : Nat) : Int) : Int).toNat false).map eBool).length) 1), (8, .pv (.int .i64 0))], [(101, .varp [.sl (v1.Vertices.map Vertex.enc), .sl (v1.Edges.map Edge.enc), .sl (v1.Depots.map eInt)]), (103, .sl false 1 (((List.replicate (((v1.Vertices.length : Nat) : Int) : Int).toNat false).set (0 + (y7 : Int).toNat) true).map eBool))]⟩) (ps := [AV.pv (.int .i64 ((v1.Vertices.map Vertex.enc).length : Nat)) = .pv (.int .i64 (v1.Vertices.length : Nat)), 1 = 1, 0 ≤ (((v1.Vertices.length : Nat) : Int) : Int), (((v1.Vertices.length : Nat) : Int) : Int) ≤ (((v1.Vertices.length : Nat) : Int) : Int), (((v1.Vertices.length : Nat) : Int) : Int) ≤ (bigLen : Int), List.replicate (((v1.Vertices.length : Nat) : Int) : Int).toNat [.bool false] = ((List.replicate (((v1.Vertices.length : Nat) : Int) : Int).toNat false).map eBool), Spec Try.prog 34 [.aggp [.sl (v1.Vertices.map Vertex.enc), .sl (v1.Edges.map Edge.enc), .sl (v1.Depots.map eInt)], .pv (.int .i64 v2)] [] (.pv (.int .i64 y7)) [], 0 ≤ (y7 : Int), (y7 : Int) < ((((List.replicate (((v1.Vertices.length : Nat) : Int) : Int).toNat false).map eBool).length : Nat) : Int), ((List.replicate (((v1.Vertices.length : Nat) : Int) : Int).toNat false).map eBool)[(0 + (y7 : Int).toNat)]? = some (eBool a10), 1 = 1, 0 + 1 ≤ (eBool a10).length, ((List.replicate (((v1.Vertices.length : Nat) : Int) : Int).toNat false).map eBool).set (0 + (y7 : Int).toNat) (splice (eBool a10) 0 [.bool true]) = (((List.replicate (((v1.Vertices.length : Nat) : Int) : Int).toNat false).set (0 + (y7 : Int).toNat) true).map eBool)])
  (by kernel_rfl) ⟨lenOb, rfl, h4, h5, h6, repOb eBool false, r3Place.ok v1 v2 e8, h9.1, lenLt h9.2, rowOb h11, rfl, Nat.le_of_ble_eq_true rfl, setOb (f := eBool) (x := true), trivial⟩ ?_
 refine WK.eq (σ' := r7spread.l1.enc v3 v1.Vertices v1.Edges v1.Depots (0, ((List.replicate (((v1.Vertices.length : Nat) : Int) : Int).toNat false).set (0 + (y7 : Int).toNat) true))) (by simp only [r7spread.l1.enc, List.length_map, List.length_set]) ?_
 refine WK.enterLoop (r7spread.l1.ok v3 v1.Vertices v1.Edges v1.Depots _ _ _ _ e21 ?_)
 obtain rfl := sI hx
 exact WK.fin (fn := Try.f43) Try.func43 (an := [.reg []]) (kt := [6]) (ko := [(101, 101)]) (frz := [101]) (ps := []) (qs := [(q20.map eBool).length = (q20.map eBool).length]) (by kernel_rfl) trivial ⟨rfl, trivial⟩
noncomputable abbrev b42 : Code := body Try.f42
noncomputable def r7part (v1 : Graph) (v2 : Int) : Option (List Bool) :=
 bd (r7spread v1 v2 ((v1.Vertices.length : Nat) : Int)) fun y3 =>
 some y3
theorem r7part.ok (v1 : Graph) (v2 : Int) {x : (List Bool)} (hx : r7part v1 v2 = some x) :
  Spec Try.prog 42 [.aggp [.sl (v1.Vertices.map Vertex.enc), .sl (v1.Edges.map Edge.enc), .sl (v1.Depots.map eInt)], .pv (.int .i64 v2)] [] (.pv (.sl (x.map eBool))) [] := by
 refine Spec.of (c := b42) Try.func42 rfl rfl rfl ?_
 unfold r7part at hx
 refine bd_ok hx fun y3 e4 hx => ?_
 obtain rfl := sI hx
 exact WK.fin (fn := Try.f42) Try.func42 (an := [.reg [(0, none, .nm 1003), (1, none, .val (.pv (.sl ([].map eBool))))], .reg [(4, none, .val (.pv (.int .i64 ((v1.Vertices.length : Nat) : Int)))), (5, none, .call [] [] (.pv (.sl (y3.map eBool))) [] [])]]) (kt := [4]) (ko := []) (frz := []) (ps := [AV.pv (.int .i64 ((v1.Vertices.map Vertex.enc).length : Nat)) = .pv (.int .i64 (v1.Vertices.length : Nat)), Spec Try.prog 43 [.aggp [.sl (v1.Vertices.map Vertex.enc), .sl (v1.Edges.map Edge.enc), .sl (v1.Depots.map eInt)], .pv (.int .i64 v2), .pv (.int .i64 ((v1.Vertices.length : Nat) : Int))] [] (.pv (.sl (y3.map eBool))) []]) (qs := []) (by kernel_rfl) ⟨lenOb, r7spread.ok v1 v2 ((v1.Vertices.length : Nat) : Int) e4, trivial⟩ trivial
noncomputable abbrev b12 : Code := body Try.f12
noncomputable def r7Labels.l0 (c14 : Int) (c15 : Int) (c16 : List Bool) (c17 : List (List Int)) (c18 : List Vertex) (c19 : List Edge) (c20 : List Int) (c21 : List NamedR) (s : Int × Int) : Option (Nx (Int × Int) Int) :=
 br (decide (s.2 ≥ 0)) (
  getR c16 s.2 fun a23 =>
  br a23 (
   getR c18 s.2 fun a27 =>
   some (.cont (a27.ID, (IntKind.i64.wrap (s.2 - 1))))) (
   some (.cont (s.1, (IntKind.i64.wrap (s.2 - 1)))))) (
  some (.done s.1))
abbrev r7Labels.l0.enc (f : Nat) (c14 : Int) (c15 : Int) (c16 : List Bool) (c17 : List (List Int)) (c18 : List Vertex) (c19 : List Edge) (c20 : List Int) (c21 : List NamedR) (s : Int × Int) : St := ⟨128, [(1, .ref 101 0 0 0), (4, .hd 103 0 ((c21.map (NamedR.enc f)).length) 2), (5, .pv (.int .i64 c14)), (6, .pv (.int .i64 c15)), (7, .pv (.sl (c16.map eBool))), (8, .pv (.int .i64 s.1)), (9, .pv (.int .i64 s.2))], [(3, .fam false f 1 (c17.map (List.map eInt))), (101, .varp [.sl (c18.map Vertex.enc), .sl (c19.map Edge.enc), .sl (c20.map eInt)]), (103, .sl false 2 (c21.map (NamedR.enc f)))]⟩
abbrev r7Labels.l0.post (f : Nat) (c14 : Int) (c15 : Int) (c16 : List Bool) (c17 : List (List Int)) (c18 : List Vertex) (c19 : List Edge) (c20 : List Int) (c21 : List NamedR) (r : AV) (outs : List AObj) (q : Int) : Prop := WK Try.prog (12, 0) [.code (sub b12 [1, 1, 1, 0, 1, 0, 0, 1, 0, 0, 1, 1, 1, 1, 0]), .code (sub b12 [1, 1, 1, 0, 1, 0, 0, 1, 0, 0, 1, 1, 1, 1, 1]), .inBlock 1, .code (sub b12 [1, 1, 1, 0, 1, 0, 0, 1, 1]), .inLoop (sub b12 [1, 1, 1, 0, 1, 0, 0]), .inBlock 0, .code (sub b12 [1, 1, 1, 1])] ⟨128, [(1, .ref 101 0 0 0), (4, .hd 103 0 ((c21.map (NamedR.enc f)).length) 2), (5, .pv (.int .i64 c14)), (6, .pv (.int .i64 c15)), (8, .pv (.int .i64 q))], [(3, .fam false f 1 (c17.map (List.map eInt))), (101, .varp [.sl (c18.map Vertex.enc), .sl (c19.map Edge.enc), .sl (c20.map eInt)]), (103, .sl false 2 (c21.map (NamedR.enc f)))]⟩ r outs
theorem r7Labels.l0.ok (f : Nat) (c14 : Int) (c15 : Int) (c16 : List Bool) (c17 : List (List Int)) (c18 : List Vertex) (c19 : List Edge) (c20 : List Int) (c21 : List NamedR) (r : AV) (outs : List AObj) (s : Int × Int) (q : Int) (h : loopN fuel (r7Labels.l0 c14 c15 c16 c17 c18 c19 c20 c21) s = some q) (hd : r7Labels.l0.post f c14 c15 c16 c17 c18 c19 c20 c21 r outs q) :
  WK Try.prog (12, 0) [.inLoop (sub b12 [1, 1, 1, 0, 1, 0, 0, 1, 0, 0, 1, 1, 1, 0, 1, 0, 0]), .inBlock 2, .code (sub b12 [1, 1, 1, 0, 1, 0, 0, 1, 0, 0, 1, 1, 1, 1]), .inBlock 1, .code (sub b12 [1, 1, 1, 0, 1, 0, 0, 1, 1]), .inLoop (sub b12 [1, 1, 1, 0, 1, 0, 0]), .inBlock 0, .code (sub b12 [1, 1, 1, 1])] (r7Labels.l0.enc f c14 c15 c16 c17 c18 c19 c20 c21 s) r outs := by
 refine WK.loop (r7Labels.l0.enc f c14 c15 c16 c17 c18 c19 c20 c21) (r7Labels.l0 c14 c15 c16 c17 c18 c19 c20 c21) (r7Labels.l0.post f c14 c15 c16 c17 c18 c19 c20 c21 r outs) ?_ fuel s q h hd
 intro s x hx hn
 unfold r7Labels.l0 at hx
 refine br_ok hx (fun h22 hx => ?_) (fun h22 hx => ?_)
 ·refine getR_ok hx fun a23 h24 h25 hx => ?_
  refine br_ok hx (fun h26 hx => ?_) (fun h26 hx => ?_)
  ·refine getR_ok hx fun a27 h28 h29 hx => ?_
   obtain rfl := sI hx
   exact WK.run (an := [.lp, .reg [], .br true, .reg [(2, none, .row (eBool a23))], .br true, .reg [(3, none, .row (Vertex.enc a27))], .reg []]) (kt := [1, 4, 5, 6, 7, 8, 9]) (ko := [(3, 3), (101, 101), (103, 103)]) (ps := [(decide (s.2 ≥ 0)) = true, 0 ≤ (s.2 : Int), (c16.map eBool)[(s.2 : Int).toNat]? = some (eBool a23), (eBool a23).length = 1, a23 = true, 0 ≤ (s.2 : Int), (c18.map Vertex.enc)[(s.2 : Int).toNat]? = some (Vertex.enc a27), (Vertex.enc a27).length = 2]) (by kernel_rfl) ⟨h22, h24, rowOb h25, rfl, h26, h28, rowOb h29, rfl, trivial⟩ hn
  ·obtain rfl := sI hx
   exact WK.run (an := [.lp, .reg [], .br true, .reg [(2, none, .row (eBool a23))], .br false, .reg []]) (kt := [1, 4, 5, 6, 7, 8, 9]) (ko := [(3, 3), (101, 101), (103, 103)]) (ps := [(decide (s.2 ≥ 0)) = true, 0 ≤ (s.2 : Int), (c16.map eBool)[(s.2 : Int).toNat]? = some (eBool a23), (eBool a23).length = 1, a23 = false]) (by kernel_rfl) ⟨h22, h24, rowOb h25, rfl, h26, trivial⟩ hn
 ·obtain rfl := sI hx
  exact WK.run (an := [.lp, .reg [], .br false]) (kt := [1, 4, 5, 6, 8]) (ko := [(3, 3), (101, 101), (103, 103)]) (ps := [(decide (s.2 ≥ 0)) = false]) (by kernel_rfl) ⟨h22, trivial⟩ hn
noncomputable def r7Labels.l1 (c32 : Int) (c33 : Int) (c34 : Int) (c35 : List (List Int)) (c36 : List Vertex) (c37 : List Edge) (c38 : List Int) (c39 : List NamedR) (s : Int) : Option (Nx Int Int) :=
 bd (r7spread (Graph.mk c36 c37 c38) c34 s) fun y40 =>
 getR y40 c32 fun a42 =>
 br (!a42) (
  some (.cont (IntKind.i64.wrap (s + 1)))) (
  some (.done s))
abbrev r7Labels.l1.enc (f : Nat) (c32 : Int) (c33 : Int) (c34 : Int) (c35 : List (List Int)) (c36 : List Vertex) (c37 : List Edge) (c38 : List Int) (c39 : List NamedR) (s : Int) : St := ⟨128, [(1, .ref 101 0 0 0), (4, .hd 103 0 ((c39.map (NamedR.enc f)).length) 2), (5, .pv (.int .i64 c32)), (6, .pv (.int .i64 c33)), (8, .pv (.int .i64 c34)), (10, .pv (.int .i64 s))], [(3, .fam false f 1 (c35.map (List.map eInt))), (101, .varp [.sl (c36.map Vertex.enc), .sl (c37.map Edge.enc), .sl (c38.map eInt)]), (103, .sl false 2 (c39.map (NamedR.enc f)))]⟩
abbrev r7Labels.l1.post (f : Nat) (c32 : Int) (c33 : Int) (c34 : Int) (c35 : List (List Int)) (c36 : List Vertex) (c37 : List Edge) (c38 : List Int) (c39 : List NamedR) (r : AV) (outs : List AObj) (q : Int) : Prop := WK Try.prog (12, 0) [.code (sub b12 [1, 1, 1, 0, 1, 0, 0, 1, 0, 0, 1, 1, 1, 1, 1, 1]), .inBlock 1, .code (sub b12 [1, 1, 1, 0, 1, 0, 0, 1, 1]), .inLoop (sub b12 [1, 1, 1, 0, 1, 0, 0]), .inBlock 0, .code (sub b12 [1, 1, 1, 1])] ⟨128, [(1, .ref 101 0 0 0), (4, .hd 103 0 ((c39.map (NamedR.enc f)).length) 2), (5, .pv (.int .i64 c32)), (6, .pv (.int .i64 c33)), (8, .pv (.int .i64 c34)), (10, .pv (.int .i64 q))], [(3, .fam false f 1 (c35.map (List.map eInt))), (101, .varp [.sl (c36.map Vertex.enc), .sl (c37.map Edge.enc), .sl (c38.map eInt)]), (103, .sl false 2 (c39.map (NamedR.enc f)))]⟩ r outs
theorem r7Labels.l1.ok (f : Nat) (c32 : Int) (c33 : Int) (c34 : Int) (c35 : List (List Int)) (c36 : List Vertex) (c37 : List Edge) (c38 : List Int) (c39 : List NamedR) (r : AV) (outs : List AObj) (s : Int) (q : Int) (h : loopN fuel (r7Labels.l1 c32 c33 c34 c35 c36 c37 c38 c39) s = some q) (hd : r7Labels.l1.post f c32 c33 c34 c35 c36 c37 c38 c39 r outs q) :
  WK Try.prog (12, 0) [.inLoop (sub b12 [1, 1, 1, 0, 1, 0, 0, 1, 0, 0, 1, 1, 1, 1, 1, 0, 0, 0]), .inBlock 4, .code (sub b12 [1, 1, 1, 0, 1, 0, 0, 1, 0, 0, 1, 1, 1, 1, 1, 1]), .inBlock 1, .code (sub b12 [1, 1, 1, 0, 1, 0, 0, 1, 1]), .inLoop (sub b12 [1, 1, 1, 0, 1, 0, 0]), .inBlock 0, .code (sub b12 [1, 1, 1, 1])] (r7Labels.l1.enc f c32 c33 c34 c35 c36 c37 c38 c39 s) r outs := by
 refine WK.loop (r7Labels.l1.enc f c32 c33 c34 c35 c36 c37 c38 c39) (r7Labels.l1 c32 c33 c34 c35 c36 c37 c38 c39) (r7Labels.l1.post f c32 c33 c34 c35 c36 c37 c38 c39 r outs) ?_ fuel s q h hd
 intro s x hx hn
 unfold r7Labels.l1 at hx
 refine bd_ok hx fun y40 e41 hx => ?_
 refine getR_ok hx fun a42 h43 h44 hx => ?_
 let Q45 : List Prop := [Spec Try.prog 43 [.aggp [.sl (c36.map Vertex.enc), .sl (c37.map Edge.enc), .sl (c38.map eInt)], .pv (.int .i64 c34), .pv (.int .i64 s)] [] (.pv (.sl (y40.map eBool))) [], 0 ≤ (c32 : Int), (y40.map eBool)[(c32 : Int).toNat]? = some (eBool a42), (eBool a42).length = 1]
 have k46 : All Q45 := ⟨r7spread.ok (Graph.mk c36 c37 c38) c34 s e41, h43, rowOb h44, rfl, trivial⟩
 refine br_ok hx (fun h47 hx => ?_) (fun h47 hx => ?_)
 ·obtain rfl := sI hx
  exact WK.run (an := [.lp, .reg [(3, none, .call [] [] (.pv (.sl (y40.map eBool))) [] []), (5, none, .row (eBool a42))], .br true, .reg []]) (kt := [1, 4, 5, 6, 8, 10]) (ko := [(3, 3), (101, 101), (103, 103)]) (ps := (Q45 ++ [(!a42) = true])) (by kernel_rfl) (All_append.2 ⟨k46, ⟨h47, trivial⟩⟩) hn
 ·obtain rfl := sI hx
  exact WK.run (an := [.lp, .reg [(3, none, .call [] [] (.pv (.sl (y40.map eBool))) [] []), (5, none, .row (eBool a42))], .br false]) (kt := [1, 4, 5, 6, 8, 10]) (ko := [(3, 3), (101, 101), (103, 103)]) (ps := (Q45 ++ [(!a42) = false])) (by kernel_rfl) (All_append.2 ⟨k46, ⟨h47, trivial⟩⟩) hn
noncomputable def r7Labels.l2 (c56 : Int) (c57 : List Vertex) (c58 : List Edge) (c59 : List Int) (c60 : List NamedR) (s : Int × (List (List Int))) : Option (Nx (Int × (List (List Int))) (List (List Int))) :=
 br (decide (s.1 ≥ 0)) (
  getR c58 s.1 fun a62 =>
  gd (0 ≤ (c56 : Int) ∧ (c56 : Int) < ((c60.length : Nat) : Int)) <|
  bd (c60[(0 + (c56 : Int).toNat)]?) fun a66 =>
  bd (r3Other a62 a66.ID) fun y68 =>
  br (decide (y68 ≥ 0)) (
   bd (r3Place (Graph.mk c57 c58 c59) y68) fun y73 =>
   gd (0 ≤ (y73 : Int) ∧ (y73 : Int) < ((c60.length : Nat) : Int)) <|
   bd (c60[(0 + (y73 : Int).toNat)]?) fun a76 =>
   gd (0 ≤ (1 : Int) ∧ (1 : Int) < ((a76.Label.len : Nat) : Int)) <|
   bd (s.2[a76.Label.i]?) fun a79 =>
   bd (a79[(a76.Label.off + (1 : Int).toNat)]?) fun a80 =>
   gd (0 ≤ (c56 : Int) ∧ (c56 : Int) < ((c60.length : Nat) : Int)) <|
   bd (c60[(0 + (c56 : Int).toNat)]?) fun a84 =>
   gd (0 ≤ (1 : Int) ∧ (1 : Int) < ((a84.Label.len : Nat) : Int)) <|
   bd (s.2[a84.Label.i]?) fun a87 =>
   bd (a87[(a84.Label.off + (1 : Int).toNat)]?) fun a88 =>
   br (a80 == (IntKind.i64.wrap (a88 - 1))) (
    gd (0 ≤ (c56 : Int) ∧ (c56 : Int) < ((c60.length : Nat) : Int)) <|
    bd (c60[(0 + (c56 : Int).toNat)]?) fun a93 =>
    getR c58 s.1 fun a95 =>
    gd (0 ≤ (2 : Int) ∧ (2 : Int) < ((a93.Label.len : Nat) : Int)) <|
    bd (s.2[a93.Label.i]?) fun a99 =>
    bd (a99[(a93.Label.off + (2 : Int).toNat)]?) fun a100 =>
    some (.cont ((IntKind.i64.wrap (s.1 - 1)), (s.2.set a93.Label.i (a99.set (a93.Label.off + (2 : Int).toNat) a95.ID))))) (
    some (.cont ((IntKind.i64.wrap (s.1 - 1)), s.2)))) (
   some (.cont ((IntKind.i64.wrap (s.1 - 1)), s.2)))) (
  some (.done s.2))
abbrev r7Labels.l2.enc (f : Nat) (c56 : Int) (c57 : List Vertex) (c58 : List Edge) (c59 : List Int) (c60 : List NamedR) (s : Int × (List (List Int))) : St := ⟨128, [(1, .ref 101 0 0 0), (4, .hd 103 0 ((c60.map (NamedR.enc f)).length) 2), (11, .pv (.int .i64 c56)), (12, .pv (.int .i64 s.1))], [(3, .fam false f 1 (s.2.map (List.map eInt))), (101, .varp [.sl (c57.map Vertex.enc), .sl (c58.map Edge.enc), .sl (c59.map eInt)]), (103, .sl false 2 (c60.map (NamedR.enc f)))]⟩
abbrev r7Labels.l2.post (f : Nat) (c56 : Int) (c57 : List Vertex) (c58 : List Edge) (c59 : List Int) (c60 : List NamedR) (r : AV) (outs : List AObj) (q : (List (List Int))) : Prop := WK Try.prog (12, 0) [.code (sub b12 [1, 1, 1, 1, 0, 1, 0, 0, 1, 1]), .inLoop (sub b12 [1, 1, 1, 1, 0, 1, 0, 0]), .inBlock 6, .code (sub b12 [1, 1, 1, 1, 1])] ⟨128, [(1, .ref 101 0 0 0), (4, .hd 103 0 ((c60.map (NamedR.enc f)).length) 2), (11, .pv (.int .i64 c56))], [(3, .fam false f 1 (q.map (List.map eInt))), (101, .varp [.sl (c57.map Vertex.enc), .sl (c58.map Edge.enc), .sl (c59.map eInt)]), (103, .sl false 2 (c60.map (NamedR.enc f)))]⟩ r outs
theorem r7Labels.l2.ok (f : Nat) (c56 : Int) (c57 : List Vertex) (c58 : List Edge) (c59 : List Int) (c60 : List NamedR) (r : AV) (outs : List AObj) (s : Int × (List (List Int))) (q : (List (List Int))) (h : loopN fuel (r7Labels.l2 c56 c57 c58 c59 c60) s = some q) (hd : r7Labels.l2.post f c56 c57 c58 c59 c60 r outs q) :
  WK Try.prog (12, 0) [.inLoop (sub b12 [1, 1, 1, 1, 0, 1, 0, 0, 1, 0, 0, 1, 0, 0]), .inBlock 8, .inBlock 7, .code (sub b12 [1, 1, 1, 1, 0, 1, 0, 0, 1, 1]), .inLoop (sub b12 [1, 1, 1, 1, 0, 1, 0, 0]), .inBlock 6, .code (sub b12 [1, 1, 1, 1, 1])] (r7Labels.l2.enc f c56 c57 c58 c59 c60 s) r outs := by
 refine WK.loop (r7Labels.l2.enc f c56 c57 c58 c59 c60) (r7Labels.l2 c56 c57 c58 c59 c60) (r7Labels.l2.post f c56 c57 c58 c59 c60 r outs) ?_ fuel s q h hd
 intro s x hx hn
 unfold r7Labels.l2 at hx
 refine br_ok hx (fun h61 hx => ?_) (fun h61 hx => ?_)
 ·refine getR_ok hx fun a62 h63 h64 hx => ?_
  refine gd_ok hx fun h65 hx => ?_
  refine bd_ok hx fun a66 h67 hx => ?_
  refine bd_ok hx fun y68 e69 hx => ?_
  let Q70 : List Prop := [(decide (s.1 ≥ 0)) = true, 0 ≤ (s.1 : Int), (c58.map Edge.enc)[(s.1 : Int).toNat]? = some (Edge.enc a62), (Edge.enc a62).length = 6, 0 ≤ (c56 : Int), (c56 : Int) < (((c60.map (NamedR.enc f)).length : Nat) : Int), (c60.map (NamedR.enc f))[(0 + (c56 : Int).toNat)]? = some ((NamedR.enc f) a66), Spec Try.prog 44 [.aggp [.int .i64 a62.ID, .int .i64 a62.From, .int .i64 a62.To, .bool a62.Directed, .int .i64 a62.Weight, .int .i64 a62.Cap], .pv (.int .i64 a66.ID)] [] (.pv (.int .i64 y68)) []]
  have k71 : All Q70 := ⟨h61, h63, rowOb h64, rfl, h65.1, lenLt h65.2, rowOb h67, r3Other.ok a62 a66.ID e69, trivial⟩
  refine br_ok hx (fun h72 hx => ?_) (fun h72 hx => ?_)
  ·refine bd_ok hx fun y73 e74 hx => ?_
   refine gd_ok hx fun h75 hx => ?_
   refine bd_ok hx fun a76 h77 hx => ?_
   refine gd_ok hx fun h78 hx => ?_
   refine bd_ok hx fun a79 h81 hx => ?_
   refine bd_ok hx fun a80 h82 hx => ?_
   refine gd_ok hx fun h83 hx => ?_
   refine bd_ok hx fun a84 h85 hx => ?_
   refine gd_ok hx fun h86 hx => ?_
   refine bd_ok hx fun a87 h89 hx => ?_
   refine bd_ok hx fun a88 h90 hx => ?_
   refine WK.run (an := [.lp, .reg [], .br true, .draw [0, 1, 2, 3, 4, 5, 6, 7, 8, 9, 10, 11] [(3, none, .row (Edge.enc a62)), (9, none, .row ((NamedR.enc f) a66)), (10, none, .call [] [] (.pv (.int .i64 y68)) [] [])], .draw [0, 1, 2, 3, 4, 5, 6, 7, 8, 9, 10, 11, 12, 13, 14, 15, 16, 17, 18, 19, 20, 21] [(3, some true, .no), (4, some true, .no), (5, some true, .no), (6, some true, .call [] [] (.pv (.int .i64 y73)) [] []), (7, some true, .no), (8, some true, .no), (9, some true, .row ((NamedR.enc f) a76)), (10, some true, .no), (11, some true, .frow 3 (a79.map eInt) (eInt a80)), (12, some true, .no), (13, some true, .no), (14, some true, .no), (15, some true, .no), (16, some true, .row ((NamedR.enc f) a84)), (17, some true, .no), (18, some true, .frow 3 (a87.map eInt) (eInt a88)), (19, some true, .no), (20, some true, .no), (21, none, .bit true)]]) (kt := [1, 4, 11, 12, 114]) (ko := [(3, 3), (101, 101), (103, 103)]) (k' := [.code (sub b12 [1, 1, 1, 1, 0, 1, 0, 0, 1, 0, 0, 1, 0, 0, 1, 0, 0, 1, 1]), .inBlock 9, .code (sub b12 [1, 1, 1, 1, 0, 1, 0, 0, 1, 0, 0, 1, 0, 0, 1, 1]), .inLoop (sub b12 [1, 1, 1, 1, 0, 1, 0, 0, 1, 0, 0, 1, 0, 0]), .inBlock 8, .inBlock 7, .code (sub b12 [1, 1, 1, 1, 0, 1, 0, 0, 1, 1]), .inLoop (sub b12 [1, 1, 1, 1, 0, 1, 0, 0]), .inBlock 6, .code (sub b12 [1, 1, 1, 1, 1])]) (σ' := ⟨128, [(1, .ref 101 0 0 0), (4, .hd 103 0 ((c60.map (NamedR.enc f)).length) 2), (11, .pv (.int .i64 c56)), (12, .pv (.int .i64 s.1)), (114, .pv (.bool (a80 == (IntKind.i64.wrap (a88 - 1)))))], [(3, .fam false f 1 (s.2.map (List.map eInt))), (101, .varp [.sl (c57.map Vertex.enc), .sl (c58.map Edge.enc), .sl (c59.map eInt)]), (103, .sl false 2 (c60.map (NamedR.enc f)))]⟩) (ps := (Q70 ++ [(decide (y68 ≥ 0)) = true, (decide (y68 ≥ 0)) = true, (decide (y68 ≥ 0)) = true, (decide (y68 ≥ 0)) = true, Spec Try.prog 34 [.aggp [.sl (c57.map Vertex.enc), .sl (c58.map Edge.enc), .sl (c59.map eInt)], .pv (.int .i64 y68)] [] (.pv (.int .i64 y73)) [], (decide (y68 ≥ 0)) = true, 0 ≤ (y73 : Int), (y73 : Int) < (((c60.map (NamedR.enc f)).length : Nat) : Int), (decide (y68 ≥ 0)) = true, (decide (y68 ≥ 0)) = true, (c60.map (NamedR.enc f))[(0 + (y73 : Int).toNat)]? = some ((NamedR.enc f) a76), (decide (y68 ≥ 0)) = true, 0 ≤ (1 : Int), (1 : Int) < ((a76.Label.len : Nat) : Int), (decide (y68 ≥ 0)) = true, f = f, (s.2.map (List.map eInt))[a76.Label.i]? = some (a79.map eInt), (a79.map eInt)[(a76.Label.off + (1 : Int).toNat)]? = some (eInt a80), (decide (y68 ≥ 0)) = true, (decide (y68 ≥ 0)) = true, (decide (y68 ≥ 0)) = true, 0 ≤ (c56 : Int), (c56 : Int) < (((c60.map (NamedR.enc f)).length : Nat) : Int), (decide (y68 ≥ 0)) = true, (decide (y68 ≥ 0)) = true, (c60.map (NamedR.enc f))[(0 + (c56 : Int).toNat)]? = some ((NamedR.enc f) a84), (decide (y68 ≥ 0)) = true, 0 ≤ (1 : Int), (1 : Int) < ((a84.Label.len : Nat) : Int), (decide (y68 ≥ 0)) = true, f = f, (s.2.map (List.map eInt))[a84.Label.i]? = some (a87.map eInt), (a87.map eInt)[(a84.Label.off + (1 : Int).toNat)]? = some (eInt a88), (decide (y68 ≥ 0)) = true, (decide (y68 ≥ 0)) = true, (decide (y68 ≥ 0)) = true]))
    (by kernel_rfl) (All_append.2 ⟨k71, ⟨h72, h72, h72, h72, r3Place.ok (Graph.mk c57 c58 c59) y68 e74, h72, h75.1, lenLt h75.2, h72, h72, rowOb h77, h72, h78.1, h78.2, h72, rfl, memGet h81, rowOb h82, h72, h72, h72, h83.1, lenLt h83.2, h72, h72, rowOb h85, h72, h86.1, h86.2, h72, rfl, memGet h89, rowOb h90, h72, h72, h72, trivial⟩⟩) ?_
   refine br_ok hx (fun h91 hx => ?_) (fun h91 hx => ?_)
   ·refine gd_ok hx fun h92 hx => ?_
    refine bd_ok hx fun a93 h94 hx => ?_
    refine getR_ok hx fun a95 h96 h97 hx => ?_
    refine gd_ok hx fun h98 hx => ?_
    refine bd_ok hx fun a99 h101 hx => ?_
    refine bd_ok hx fun a100 h102 hx => ?_
    obtain rfl := sI hx
    exact WK.run (an := [.br true, .draw [0, 1, 2, 3, 4, 5, 6, 7, 8, 9, 10, 11, 12] [(4, none, .row ((NamedR.enc f) a93)), (8, none, .row (Edge.enc a95)), (12, none, .frows 3 (a99.map eInt) (eInt a100) ((s.2.set a93.Label.i (a99.set (a93.Label.off + (2 : Int).toNat) a95.ID)).map (List.map eInt)))], .reg []]) (kt := [1, 4, 11, 12]) (ko := [(3, 3), (101, 101), (103, 103)]) (ps := [(a80 == (IntKind.i64.wrap (a88 - 1))) = true, 0 ≤ (c56 : Int), (c56 : Int) < (((c60.map (NamedR.enc f)).length : Nat) : Int), (c60.map (NamedR.enc f))[(0 + (c56 : Int).toNat)]? = some ((NamedR.enc f) a93), 0 ≤ (s.1 : Int), (c58.map Edge.enc)[(s.1 : Int).toNat]? = some (Edge.enc a95), (Edge.enc a95).length = 6, 0 ≤ (2 : Int), (2 : Int) < ((a93.Label.len : Nat) : Int), f = f, (s.2.map (List.map eInt))[a93.Label.i]? = some (a99.map eInt), (a99.map eInt)[(a93.Label.off + (2 : Int).toNat)]? = some (eInt a100), 1 = 1, 0 + 1 ≤ (eInt a100).length, (s.2.map (List.map eInt)).set a93.Label.i ((a99.map eInt).set (a93.Label.off + (2 : Int).toNat) (splice (eInt a100) 0 [.int .i64 a95.ID])) = ((s.2.set a93.Label.i (a99.set (a93.Label.off + (2 : Int).toNat) a95.ID)).map (List.map eInt))]) (by kernel_rfl) ⟨h91, h92.1, lenLt h92.2, rowOb h94, h96, rowOb h97, rfl, h98.1, h98.2, rfl, memGet h101, rowOb h102, rfl, Nat.le_of_ble_eq_true rfl, memSet (f := eInt) (y := a95.ID) rfl, trivial⟩ hn
   ·obtain rfl := sI hx
    exact WK.run (an := [.br false, .reg []]) (kt := [1, 4, 11, 12]) (ko := [(3, 3), (101, 101), (103, 103)]) (ps := [(a80 == (IntKind.i64.wrap (a88 - 1))) = false]) (by kernel_rfl) ⟨h91, trivial⟩ hn
  ·obtain rfl := sI hx
   exact WK.run (an := [.lp, .reg [], .br true, .draw [0, 1, 2, 3, 4, 5, 6, 7, 8, 9, 10, 11] [(3, none, .row (Edge.enc a62)), (9, none, .row ((NamedR.enc f) a66)), (10, none, .call [] [] (.pv (.int .i64 y68)) [] [])], .draw [0, 1, 2, 3, 4, 5, 6, 7, 8, 9, 10, 11, 12, 13, 14, 15, 16, 17, 18, 19, 20, 21] [(3, some false, .no), (4, some false, .no), (5, some false, .no), (6, some false, .no), (7, some false, .no), (8, some false, .no), (9, some false, .no), (10, some false, .no), (11, some false, .no), (12, some false, .no), (13, some false, .no), (14, some false, .no), (15, some false, .no), (16, some false, .no), (17, some false, .no), (18, some false, .no), (19, some false, .no), (20, some false, .no), (21, none, .bit false)], .bk, .reg []]) (kt := [1, 4, 11, 12]) (ko := [(3, 3), (101, 101), (103, 103)]) (ps := (Q70 ++ [(decide (y68 ≥ 0)) = false, (decide (y68 ≥ 0)) = false, (decide (y68 ≥ 0)) = false, (decide (y68 ≥ 0)) = false, (decide (y68 ≥ 0)) = false, (decide (y68 ≥ 0)) = false, (decide (y68 ≥ 0)) = false, (decide (y68 ≥ 0)) = false, (decide (y68 ≥ 0)) = false, (decide (y68 ≥ 0)) = false, (decide (y68 ≥ 0)) = false, (decide (y68 ≥ 0)) = false, (decide (y68 ≥ 0)) = false, (decide (y68 ≥ 0)) = false, (decide (y68 ≥ 0)) = false, (decide (y68 ≥ 0)) = false, (decide (y68 ≥ 0)) = false, (decide (y68 ≥ 0)) = false, (decide (y68 ≥ 0)) = false])) (by kernel_rfl) (All_append.2 ⟨k71, ⟨h72, h72, h72, h72, h72, h72, h72, h72, h72, h72, h72, h72, h72, h72, h72, h72, h72, h72, h72, trivial⟩⟩) hn
 ·obtain rfl := sI hx
  exact WK.run (an := [.lp, .reg [], .br false]) (kt := [1, 4, 11]) (ko := [(3, 3), (101, 101), (103, 103)]) (ps := [(decide (s.1 ≥ 0)) = false]) (by kernel_rfl) ⟨h61, trivial⟩ hn
noncomputable def r7Labels.l3 (c51 : List Vertex) (c52 : List Edge) (c53 : List Int) (c54 : List NamedR) (s : Int × (List (List Int))) : Option (Nx (Int × (List (List Int))) (List (List Int))) :=
 br (decide (s.1 < ((c54.length : Nat) : Int))) (
  bd (loopN fuel (r7Labels.l2 s.1 c51 c52 c53 c54) ((IntKind.i64.wrap (((c52.length : Nat) : Int) - 1)), s.2)) fun q56 =>
  some (.cont ((IntKind.i64.wrap (s.1 + 1)), q56))) (
  some (.done s.2))
abbrev r7Labels.l3.enc (f : Nat) (c51 : List Vertex) (c52 : List Edge) (c53 : List Int) (c54 : List NamedR) (s : Int × (List (List Int))) : St := ⟨128, [(1, .ref 101 0 0 0), (4, .hd 103 0 ((c54.map (NamedR.enc f)).length) 2), (11, .pv (.int .i64 s.1))], [(3, .fam false f 1 (s.2.map (List.map eInt))), (101, .varp [.sl (c51.map Vertex.enc), .sl (c52.map Edge.enc), .sl (c53.map eInt)]), (103, .sl false 2 (c54.map (NamedR.enc f)))]⟩
abbrev r7Labels.l3.post (f : Nat) (c51 : List Vertex) (c52 : List Edge) (c53 : List Int) (c54 : List NamedR) (r : AV) (outs : List AObj) (q : (List (List Int))) : Prop := WK Try.prog (12, 0) [.code (sub b12 [1, 1, 1, 1, 1, 0]), .code (sub b12 [1, 1, 1, 1, 1, 1])] ⟨128, [(4, .hd 101 0 ((c54.map (NamedR.enc f)).length) 2)], [(3, .fam false f 1 (q.map (List.map eInt))), (101, .sl false 2 (c54.map (NamedR.enc f)))]⟩ r outs
theorem r7Labels.l3.ok (f : Nat) (c51 : List Vertex) (c52 : List Edge) (c53 : List Int) (c54 : List NamedR) (r : AV) (outs : List AObj) (s : Int × (List (List Int))) (q : (List (List Int))) (h : loopN fuel (r7Labels.l3 c51 c52 c53 c54) s = some q) (hd : r7Labels.l3.post f c51 c52 c53 c54 r outs q) :
  WK Try.prog (12, 0) [.inLoop (sub b12 [1, 1, 1, 1, 0, 1, 0, 0]), .inBlock 6, .code (sub b12 [1, 1, 1, 1, 1])] (r7Labels.l3.enc f c51 c52 c53 c54 s) r outs := by
 refine WK.loop (r7Labels.l3.enc f c51 c52 c53 c54) (r7Labels.l3 c51 c52 c53 c54) (r7Labels.l3.post f c51 c52 c53 c54 r outs) ?_ fuel s q h hd
 intro s x hx hn
 unfold r7Labels.l3 at hx
 refine br_ok hx (fun h55 hx => ?_) (fun h55 hx => ?_)
 ·refine bd_ok hx fun q56 e57 hx => ?_
  refine WK.run (an := [.lp, .reg [(2, none, .val (.pv (.int .i64 ((c54.length : Nat) : Int))))], .br true, .reg [(2, none, .val (.pv (.int .i64 ((c52.length : Nat) : Int))))]]) (kt := [1, 4, 11, 12]) (ko := [(3, 3), (101, 101), (103, 103)]) (ps := [AV.pv (.int .i64 ((c54.map (NamedR.enc f)).length : Nat)) = .pv (.int .i64 (c54.length : Nat)), (decide (s.1 < ((c54.length : Nat) : Int))) = true, AV.pv (.int .i64 ((c52.map Edge.enc).length : Nat)) = .pv (.int .i64 (c52.length : Nat))]) (by kernel_rfl) ⟨lenOb, h55, lenOb, trivial⟩ (WK.enterLoop (r7Labels.l2.ok f s.1 c51 c52 c53 c54 _ _ _ _ e57 ?_))
  obtain rfl := sI hx
  exact WK.run (an := [.reg []]) (kt := [1, 4, 11]) (ko := [(3, 3), (101, 101), (103, 103)]) (ps := []) (by kernel_rfl) trivial hn
 ·obtain rfl := sI hx
  exact WK.run (an := [.lp, .reg [(2, none, .val (.pv (.int .i64 ((c54.length : Nat) : Int))))], .br false]) (kt := [4]) (ko := [(3, 3), (103, 101)]) (ps := [AV.pv (.int .i64 ((c54.map (NamedR.enc f)).length : Nat)) = .pv (.int .i64 (c54.length : Nat)), (decide (s.1 < ((c54.length : Nat) : Int))) = false]) (by kernel_rfl) ⟨lenOb, h55, trivial⟩ hn
noncomputable def r7Labels.l4 (c5 : List Vertex) (c6 : List Edge) (c7 : List Int) (s : Int × (List (List Int)) × (List NamedR)) : Option (Nx (Int × (List (List Int)) × (List NamedR)) ((List (List Int)) × (List NamedR))) :=
 br (decide (s.1 < ((c5.length : Nat) : Int))) (
  getR c5 s.1 fun a9 =>
  bd (r7part (Graph.mk c5 c6 c7) a9.ID) fun y12 =>
  bd (loopN fuel (r7Labels.l0 s.1 a9.ID y12 s.2.1 c5 c6 c7 s.2.2) ((-1), (IntKind.i64.wrap (((y12.length : Nat) : Int) - 1)))) fun q14 =>
  bd (loopN fuel (r7Labels.l1 s.1 a9.ID q14 s.2.1 c5 c6 c7 s.2.2) 0) fun q16 =>
  gd ((s.2.2 ++ [(NamedR.mk a9.ID (Ref.mk s.2.1.length 0 3))]).length ≤ bigLen) <|
  some (.cont ((IntKind.i64.wrap (s.1 + 1)), (s.2.1 ++ [[q14, q16, (-1)]]), (s.2.2 ++ [(NamedR.mk a9.ID (Ref.mk s.2.1.length 0 3))])))) (
  bd (loopN fuel (r7Labels.l3 c5 c6 c7 s.2.2) (0, s.2.1)) fun q19 =>
  some (.done (q19, s.2.2)))
abbrev r7Labels.l4.enc (f : Nat) (c5 : List Vertex) (c6 : List Edge) (c7 : List Int) (s : Int × (List (List Int)) × (List NamedR)) : St := ⟨128, [(1, .ref 101 0 0 0), (4, .hd 103 0 ((s.2.2.map (NamedR.enc f)).length) 2), (5, .pv (.int .i64 s.1))], [(3, .fam false f 1 (s.2.1.map (List.map eInt))), (101, .varp [.sl (c5.map Vertex.enc), .sl (c6.map Edge.enc), .sl (c7.map eInt)]), (103, .sl false 2 (s.2.2.map (NamedR.enc f)))]⟩
abbrev r7Labels.l4.post (f : Nat) (c5 : List Vertex) (c6 : List Edge) (c7 : List Int) (r : AV) (outs : List AObj) (q : ((List (List Int)) × (List NamedR))) : Prop := WK Try.prog (12, 0) [.code (sub b12 [1, 1, 1, 1, 1, 0]), .code (sub b12 [1, 1, 1, 1, 1, 1])] ⟨128, [(4, .hd 101 0 ((q.2.map (NamedR.enc f)).length) 2)], [(3, .fam false f 1 (q.1.map (List.map eInt))), (101, .sl false 2 (q.2.map (NamedR.enc f)))]⟩ r outs
theorem r7Labels.l4.ok (f : Nat) (c5 : List Vertex) (c6 : List Edge) (c7 : List Int) (r : AV) (outs : List AObj) (s : Int × (List (List Int)) × (List NamedR)) (q : ((List (List Int)) × (List NamedR))) (h : loopN fuel (r7Labels.l4 c5 c6 c7) s = some q) (hd : r7Labels.l4.post f c5 c6 c7 r outs q) :
  WK Try.prog (12, 0) [.inLoop (sub b12 [1, 1, 1, 0, 1, 0, 0]), .inBlock 0, .code (sub b12 [1, 1, 1, 1])] (r7Labels.l4.enc f c5 c6 c7 s) r outs := by
 refine WK.loop (r7Labels.l4.enc f c5 c6 c7) (r7Labels.l4 c5 c6 c7) (r7Labels.l4.post f c5 c6 c7 r outs) ?_ fuel s q h hd
 intro s x hx hn
 unfold r7Labels.l4 at hx
 refine br_ok hx (fun h8 hx => ?_) (fun h8 hx => ?_)
 ·refine getR_ok hx fun a9 h10 h11 hx => ?_
  refine bd_ok hx fun y12 e13 hx => ?_
  refine bd_ok hx fun q14 e15 hx => ?_
  refine WK.run (an := [.lp, .reg [(3, none, .val (.pv (.int .i64 ((c5.length : Nat) : Int))))], .br true, .reg [(3, none, .row (Vertex.enc a9))], .reg [(2, none, .call [] [] (.pv (.sl (y12.map eBool))) [] [])], .reg [], .reg [(1, none, .val (.pv (.int .i64 ((y12.length : Nat) : Int))))]]) (kt := [1, 4, 5, 6, 7, 8, 9]) (ko := [(3, 3), (101, 101), (103, 103)]) (ps := [AV.pv (.int .i64 ((c5.map Vertex.enc).length : Nat)) = .pv (.int .i64 (c5.length : Nat)), (decide (s.1 < ((c5.length : Nat) : Int))) = true, 0 ≤ (s.1 : Int), (c5.map Vertex.enc)[(s.1 : Int).toNat]? = some (Vertex.enc a9), (Vertex.enc a9).length = 2, Spec Try.prog 42 [.aggp [.sl (c5.map Vertex.enc), .sl (c6.map Edge.enc), .sl (c7.map eInt)], .pv (.int .i64 a9.ID)] [] (.pv (.sl (y12.map eBool))) [], AV.pv (.int .i64 ((y12.map eBool).length : Nat)) = .pv (.int .i64 (y12.length : Nat))]) (by kernel_rfl) ⟨lenOb, h8, h10, rowOb h11, rfl, r7part.ok (Graph.mk c5 c6 c7) a9.ID e13, lenOb, trivial⟩ (WK.enterLoop (r7Labels.l0.ok f s.1 a9.ID y12 s.2.1 c5 c6 c7 s.2.2 _ _ _ _ e15 ?_))
  refine bd_ok hx fun q16 e17 hx => ?_
  refine WK.run (an := [.reg []]) (kt := [1, 4, 5, 6, 8, 10]) (ko := [(3, 3), (101, 101), (103, 103)]) (ps := []) (by kernel_rfl) trivial (WK.enterLoop (r7Labels.l1.ok f s.1 a9.ID q14 s.2.1 c5 c6 c7 s.2.2 _ _ _ _ e17 ?_))
  refine gd_ok hx fun h18 hx => ?_
  obtain rfl := sI hx
  exact WK.run (an := [.reg [(4, none, .mi 3 1013 s.2.1.length ((s.2.1 ++ [[q14, q16, (-1)]]).map (List.map eInt)) (.nm 1013)), (6, none, .nm 1015), (7, none, .app 1017 ((s.2.2 ++ [(NamedR.mk a9.ID (Ref.mk s.2.1.length 0 3))]).map (NamedR.enc f)))], .reg []]) (kt := [1, 4, 5]) (ko := [(3, 3), (101, 101), (1017, 103)]) (ps := [1 = 1, 1 = 1, 1 = 1, 1 = 1, (s.2.1.map (List.map eInt)).length = s.2.1.length, (s.2.1.map (List.map eInt)) ++ [([q14, q16, (-1)].map eInt)] = ((s.2.1 ++ [[q14, q16, (-1)]]).map (List.map eInt)), 3 = ([q14, q16, (-1)].map eInt).length, 2 = 2, 2 = 2, 0 + 1 ≤ ([(NamedR.mk a9.ID (Ref.mk s.2.1.length 0 3))].map (NamedR.enc f)).length, 0 + ((s.2.2.map (NamedR.enc f)).length) = (s.2.2.map (NamedR.enc f)).length, (s.2.2.map (NamedR.enc f)).drop 0 ++ (cut1 ([(NamedR.mk a9.ID (Ref.mk s.2.1.length 0 3))].map (NamedR.enc f)) 0 1) = ((s.2.2 ++ [(NamedR.mk a9.ID (Ref.mk s.2.1.length 0 3))]).map (NamedR.enc f)), ((s.2.2 ++ [(NamedR.mk a9.ID (Ref.mk s.2.1.length 0 3))]).map (NamedR.enc f)).length ≤ bigLen, ∀ r ∈ (cut1 ([(NamedR.mk a9.ID (Ref.mk s.2.1.length 0 3))].map (NamedR.enc f)) 0 1), r.length = 2]) (by kernel_rfl) ⟨rfl, rfl, rfl, rfl, memLen, memApp rfl, rfl, rfl, rfl, Nat.le_of_eq (Nat.zero_add _), Nat.zero_add _, by simp [cut1, List.take_of_length_le], bigOb h18, one_len rfl, trivial⟩ hn
 ·refine bd_ok hx fun q19 e20 hx => ?_
  refine WK.run (an := [.lp, .reg [(3, none, .val (.pv (.int .i64 ((c5.length : Nat) : Int))))], .br false, .reg []]) (kt := [1, 4, 11]) (ko := [(3, 3), (101, 101), (103, 103)]) (ps := [AV.pv (.int .i64 ((c5.map Vertex.enc).length : Nat)) = .pv (.int .i64 (c5.length : Nat)), (decide (s.1 < ((c5.length : Nat) : Int))) = false]) (by kernel_rfl) ⟨lenOb, h8, trivial⟩ (WK.enterLoop (r7Labels.l3.ok f c5 c6 c7 s.2.2 _ _ _ _ e20 ?_))
  obtain rfl := sI hx
  exact WK.run (an := []) (kt := [4]) (ko := [(3, 3), (101, 101)]) (ps := []) (by kernel_rfl) trivial hn
noncomputable def r7Labels (v1 : Graph) : Option ((List Named) × Int) :=
 bd (r3Valid v1) fun y2 =>
 br (!y2) (
  some ([], 70)) (
  bd (loopN fuel (r7Labels.l4 v1.Vertices v1.Edges v1.Depots) (0, [], [])) fun q21 =>
  bd (mapO (fun x => bd (resRef q21.1 x.Label) fun y23 => some ((Named.mk x.ID y23) : Named)) q21.2) fun l25 =>
  some (l25, 0))
theorem r7Labels.ok (v1 : Graph) {x : (List Named) × Int} (hx : r7Labels v1 = some x) :
  Spec Try.prog 12 [.aggp [.sl (v1.Vertices.map Vertex.enc), .sl (v1.Edges.map Edge.enc), .sl (v1.Depots.map eInt)]] [] (.tup [.pv (.sl (x.1.map Named.enc)), .pv (.int .i64 x.2)]) [] := by
 refine Spec.of (c := b12) Try.func12 rfl rfl rfl ?_
 refine WK.birth 3 1 rfl (by decide) (by decide) fun f => ?_
 unfold r7Labels at hx
 refine bd_ok hx fun y2 e3 hx => ?_
 refine br_ok hx (fun h4 hx => ?_) (fun h4 hx => ?_)
 ·obtain rfl := sI hx
  exact WK.fin (fn := Try.f12) Try.func12 (an := [.reg [(0, none, .nm 1003), (1, none, .val (.pv (.sl ([].map Named.enc))))], .reg [(1, none, .call [] [] (.pv (.bool y2)) [] [])], .br true, .reg [(0, none, .val (.pv (.sl ([].map Named.enc))))]]) (kt := [2, 3]) (ko := [(3, 3)]) (frz := []) (ps := [Spec Try.prog 41 [.aggp [.sl (v1.Vertices.map Vertex.enc), .sl (v1.Edges.map Edge.enc), .sl (v1.Depots.map eInt)]] [] (.pv (.bool y2)) [], (!y2) = true]) (qs := []) (by kernel_rfl) ⟨r3Valid.ok v1 e3, h4, trivial⟩ trivial
 ·refine bd_ok hx fun q21 e22 hx => ?_
  refine WK.run (an := [.reg [(0, none, .nm 1003), (1, none, .val (.pv (.sl ([].map Named.enc))))], .reg [(1, none, .call [] [] (.pv (.bool y2)) [] [])], .br false, .new 1005 2, .reg [(0, none, .val (.hd 1005 0 0 2))], .reg []]) (kt := [1, 4, 5]) (ko := [(3, 3), (1003, 101), (1005, 103)]) (ps := [Spec Try.prog 41 [.aggp [.sl (v1.Vertices.map Vertex.enc), .sl (v1.Edges.map Edge.enc), .sl (v1.Depots.map eInt)]] [] (.pv (.bool y2)) [], (!y2) = false]) (by kernel_rfl) ⟨r3Valid.ok v1 e3, h4, trivial⟩ (WK.enterLoop (r7Labels.l4.ok f v1.Vertices v1.Edges v1.Depots _ _ _ _ e22 ?_))
  refine bd_ok hx fun l25 h26 hx => ?_
  obtain rfl := sI hx
  refine WK.run (an := [.reg []]) (kt := [2, 3]) (ko := [(3, 3), (101, 101)]) (k' := [.code (sub b12 [1, 1, 1, 1, 1, 1])]) (σ' := ⟨128, [(2, .hd 101 0 ((q21.2.map (NamedR.enc f)).length) 2), (3, .pv (.int .i64 0))], [(3, .fam false f 1 (q21.1.map (List.map eInt))), (101, .sl false 2 (q21.2.map (NamedR.enc f)))]⟩) (ps := [])
   (by kernel_rfl) trivial ?_
  refine WK.ffz 3 (f := f) (sz := 1) (mem := (q21.1.map (List.map eInt))) rfl ?_
  refine WK.tell 3 101 (.sl false 2 (l25.map Named.enc)) (f := f) (sz := 1) (mem := (q21.1.map (List.map eInt))) (o := .sl false 2 (q21.2.map (NamedR.enc f))) rfl rfl (TellO.sl _ _ _ _ (tellOb h26 (fun x y hy => by refine bd_ok hy fun y23 h24 hy => ?_; cases hy; exact tellCons (.same _) (tellCons (resOb h24) (tellNil))))) ?_
  exact WK.ret (fn := Try.f12) Try.func12 (frz := [101]) (esc := []) (ps := [(q21.2.map (NamedR.enc f)).length = (l25.map Named.enc).length]) (by kernel_rfl) ⟨by rw [List.length_map, List.length_map]; exact (mapO_get h26).1, trivial⟩
noncomputable abbrev b46 : Code := body Try.f46
noncomputable def r7ends (v1 : Graph) (v2 : Int) (v3 : Int) : Option Bool :=
 bd (r3Valid v1) fun y4 =>
 br y4 (
  bd (r3Place v1 v2) fun y7 =>
  br (decide (y7 ≥ 0)) (
   bd (r3Place v1 v3) fun y12 =>
   some (decide (y12 ≥ 0))) (
   some false)) (
  some false)
theorem r7ends.ok (v1 : Graph) (v2 : Int) (v3 : Int) {x : Bool} (hx : r7ends v1 v2 v3 = some x) :
  Spec Try.prog 46 [.aggp [.sl (v1.Vertices.map Vertex.enc), .sl (v1.Edges.map Edge.enc), .sl (v1.Depots.map eInt)], .pv (.int .i64 v2), .pv (.int .i64 v3)] [] (.pv (.bool x)) [] := by
 refine Spec.of (c := b46) Try.func46 rfl rfl rfl ?_
 unfold r7ends at hx
 refine bd_ok hx fun y4 e5 hx => ?_
 refine br_ok hx (fun h6 hx => ?_) (fun h6 hx => ?_)
 ·refine bd_ok hx fun y7 e8 hx => ?_
  let Q9 : List Prop := [Spec Try.prog 41 [.aggp [.sl (v1.Vertices.map Vertex.enc), .sl (v1.Edges.map Edge.enc), .sl (v1.Depots.map eInt)]] [] (.pv (.bool y4)) [], y4 = true, Spec Try.prog 34 [.aggp [.sl (v1.Vertices.map Vertex.enc), .sl (v1.Edges.map Edge.enc), .sl (v1.Depots.map eInt)], .pv (.int .i64 v2)] [] (.pv (.int .i64 y7)) []]
  have k10 : All Q9 := ⟨r3Valid.ok v1 e5, h6, r3Place.ok v1 v2 e8, trivial⟩
  refine br_ok hx (fun h11 hx => ?_) (fun h11 hx => ?_)
  ·refine bd_ok hx fun y12 e13 hx => ?_
   obtain rfl := sI hx
   exact WK.fin (fn := Try.f46) Try.func46 (an := [.reg [(0, none, .nm 1003)], .reg [(1, none, .call [] [] (.pv (.bool y4)) [] []), (3, some true, .no), (5, none, .call [] [] (.pv (.int .i64 y7)) [] []), (9, some true, .no), (11, none, .call [] [] (.pv (.int .i64 y12)) [] [])]]) (kt := [6]) (ko := []) (frz := []) (ps := (Q9 ++ [(decide (y7 ≥ 0)) = true, Spec Try.prog 34 [.aggp [.sl (v1.Vertices.map Vertex.enc), .sl (v1.Edges.map Edge.enc), .sl (v1.Depots.map eInt)], .pv (.int .i64 v3)] [] (.pv (.int .i64 y12)) []])) (qs := []) (by kernel_rfl) (All_append.2 ⟨k10, ⟨h11, r3Place.ok v1 v3 e13, trivial⟩⟩) trivial
  ·obtain rfl := sI hx
   exact WK.fin (fn := Try.f46) Try.func46 (an := [.reg [(0, none, .nm 1003)], .reg [(1, none, .call [] [] (.pv (.bool y4)) [] []), (3, some true, .no), (5, none, .call [] [] (.pv (.int .i64 y7)) [] []), (9, some false, .no)]]) (kt := [6]) (ko := []) (frz := []) (ps := (Q9 ++ [(decide (y7 ≥ 0)) = false])) (qs := []) (by kernel_rfl) (All_append.2 ⟨k10, ⟨h11, trivial⟩⟩) trivial
 ·obtain rfl := sI hx
  exact WK.fin (fn := Try.f46) Try.func46 (an := [.reg [(0, none, .nm 1003)], .reg [(1, none, .call [] [] (.pv (.bool y4)) [] []), (3, some false, .no)]]) (kt := [6]) (ko := []) (frz := []) (ps := [Spec Try.prog 41 [.aggp [.sl (v1.Vertices.map Vertex.enc), .sl (v1.Edges.map Edge.enc), .sl (v1.Depots.map eInt)]] [] (.pv (.bool y4)) [], y4 = false]) (qs := []) (by kernel_rfl) ⟨r3Valid.ok v1 e5, h6, trivial⟩ trivial
noncomputable abbrev b16 : Code := body Try.f16
noncomputable def r7Connected (v1 : Graph) (v2 : Int) (v3 : Int) : Option (Bool × Int) :=
 bd (r7ends v1 v2 v3) fun y4 =>
 br (!y4) (
  some (false, 70)) (
  bd (r7part v1 v2) fun y7 =>
  bd (r3Place v1 v3) fun y9 =>
  getR y7 y9 fun a11 =>
  some (a11, 0))
theorem r7Connected.ok (v1 : Graph) (v2 : Int) (v3 : Int) {x : Bool × Int} (hx : r7Connected v1 v2 v3 = some x) :
  Spec Try.prog 16 [.aggp [.sl (v1.Vertices.map Vertex.enc), .sl (v1.Edges.map Edge.enc), .sl (v1.Depots.map eInt)], .pv (.int .i64 v2), .pv (.int .i64 v3)] [] (.tup [.pv (.bool x.1), .pv (.int .i64 x.2)]) [] := by
 refine Spec.of (c := b16) Try.func16 rfl rfl rfl ?_
 unfold r7Connected at hx
 refine bd_ok hx fun y4 e5 hx => ?_
 refine br_ok hx (fun h6 hx => ?_) (fun h6 hx => ?_)
 ·obtain rfl := sI hx
  exact WK.fin (fn := Try.f16) Try.func16 (an := [.reg [(0, none, .nm 1003)], .reg [(3, none, .call [] [] (.pv (.bool y4)) [] [])], .br true, .reg []]) (kt := [6, 7]) (ko := []) (frz := []) (ps := [Spec Try.prog 46 [.aggp [.sl (v1.Vertices.map Vertex.enc), .sl (v1.Edges.map Edge.enc), .sl (v1.Depots.map eInt)], .pv (.int .i64 v2), .pv (.int .i64 v3)] [] (.pv (.bool y4)) [], (!y4) = true]) (qs := []) (by kernel_rfl) ⟨r7ends.ok v1 v2 v3 e5, h6, trivial⟩ trivial
 ·refine bd_ok hx fun y7 e8 hx => ?_
  refine bd_ok hx fun y9 e10 hx => ?_
  refine getR_ok hx fun a11 h12 h13 hx => ?_
  obtain rfl := sI hx
  exact WK.fin (fn := Try.f16) Try.func16 (an := [.reg [(0, none, .nm 1003)], .reg [(3, none, .call [] [] (.pv (.bool y4)) [] [])], .br false, .draw [0, 1, 2, 3, 4, 5, 6, 7, 8, 9] [(2, none, .call [] [] (.pv (.sl (y7.map eBool))) [] []), (5, none, .call [] [] (.pv (.int .i64 y9)) [] []), (6, none, .row (eBool a11))]]) (kt := [6, 7]) (ko := []) (frz := []) (ps := [Spec Try.prog 46 [.aggp [.sl (v1.Vertices.map Vertex.enc), .sl (v1.Edges.map Edge.enc), .sl (v1.Depots.map eInt)], .pv (.int .i64 v2), .pv (.int .i64 v3)] [] (.pv (.bool y4)) [], (!y4) = false, Spec Try.prog 42 [.aggp [.sl (v1.Vertices.map Vertex.enc), .sl (v1.Edges.map Edge.enc), .sl (v1.Depots.map eInt)], .pv (.int .i64 v2)] [] (.pv (.sl (y7.map eBool))) [], Spec Try.prog 34 [.aggp [.sl (v1.Vertices.map Vertex.enc), .sl (v1.Edges.map Edge.enc), .sl (v1.Depots.map eInt)], .pv (.int .i64 v3)] [] (.pv (.int .i64 y9)) [], 0 ≤ (y9 : Int), (y7.map eBool)[(y9 : Int).toNat]? = some (eBool a11), (eBool a11).length = 1]) (qs := []) (by kernel_rfl) ⟨r7ends.ok v1 v2 v3 e5, h6, r7part.ok v1 v2 e8, r3Place.ok v1 v3 e10, h12, rowOb h13, rfl, trivial⟩ trivial
noncomputable abbrev b50 : Code := body Try.f50
noncomputable def r3Find.l0 (c3 : Int) (c4 : List Vertex) (c5 : List Edge) (c6 : List Int) (s : Int) : Option (Nx Int (Int ⊕ Unit)) :=
 br (decide (s < ((c5.length : Nat) : Int))) (
  getR c5 s fun a8 =>
  br (a8.ID == c3) (
   some (.done (.inl s))) (
   some (.cont (IntKind.i64.wrap (s + 1))))) (
  some (.done (.inr ())))
abbrev r3Find.l0.enc (c3 : Int) (c4 : List Vertex) (c5 : List Edge) (c6 : List Int) (s : Int) : St := ⟨22, [(1, .pv (.int .i64 c3)), (2, .ref 101 0 0 0), (5, .pv (.int .i64 s))], [(101, .varp [.sl (c4.map Vertex.enc), .sl (c5.map Edge.enc), .sl (c6.map eInt)])]⟩
abbrev r3Find.l0.post (c3 : Int) (c4 : List Vertex) (c5 : List Edge) (c6 : List Int) (r : AV) (outs : List AObj) (q : Int ⊕ Unit) : Prop := match q with | .inl q => WK Try.prog (50, 0) [.code (sub b50 [1, 0, 1, 0, 0, 1, 0, 0, 1, 0, 1]), .inBlock 1, .code (sub b50 [1, 0, 1, 0, 0, 1, 1]), .inLoop (sub b50 [1, 0, 1, 0, 0]), .inBlock 0, .code (sub b50 [1, 1])] ⟨22, [(4, .pv (.int .i64 q))], []⟩ r outs | .inr q => WK Try.prog (50, 0) [.code (sub b50 [1, 1, 0]), .code (sub b50 [1, 1, 1])] ⟨22, [], []⟩ r outs
theorem r3Find.l0.ok (c3 : Int) (c4 : List Vertex) (c5 : List Edge) (c6 : List Int) (r : AV) (outs : List AObj) (s : Int) (q : Int ⊕ Unit) (h : loopN fuel (r3Find.l0 c3 c4 c5 c6) s = some q) (hd : r3Find.l0.post c3 c4 c5 c6 r outs q) :
  WK Try.prog (50, 0) [.inLoop (sub b50 [1, 0, 1, 0, 0]), .inBlock 0, .code (sub b50 [1, 1])] (r3Find.l0.enc c3 c4 c5 c6 s) r outs := by
 refine WK.loop (r3Find.l0.enc c3 c4 c5 c6) (r3Find.l0 c3 c4 c5 c6) (r3Find.l0.post c3 c4 c5 c6 r outs) ?_ fuel s q h hd
 intro s x hx hn
 unfold r3Find.l0 at hx
 refine br_ok hx (fun h7 hx => ?_) (fun h7 hx => ?_)
 ·refine getR_ok hx fun a8 h9 h10 hx => ?_
  refine br_ok hx (fun h11 hx => ?_) (fun h11 hx => ?_)
  ·obtain rfl := sI hx
   exact WK.run (an := [.lp, .reg [(3, none, .val (.pv (.int .i64 ((c5.length : Nat) : Int))))], .br true, .reg [(3, none, .row (Edge.enc a8))], .br true, .reg []]) (kt := [4]) (ko := []) (ps := [AV.pv (.int .i64 ((c5.map Edge.enc).length : Nat)) = .pv (.int .i64 (c5.length : Nat)), (decide (s < ((c5.length : Nat) : Int))) = true, 0 ≤ (s : Int), (c5.map Edge.enc)[(s : Int).toNat]? = some (Edge.enc a8), (Edge.enc a8).length = 6, (a8.ID == c3) = true]) (by kernel_rfl) ⟨lenOb, h7, h9, rowOb h10, rfl, h11, trivial⟩ hn
  ·obtain rfl := sI hx
   exact WK.run (an := [.lp, .reg [(3, none, .val (.pv (.int .i64 ((c5.length : Nat) : Int))))], .br true, .reg [(3, none, .row (Edge.enc a8))], .br false, .reg []]) (kt := [1, 2, 5]) (ko := [(101, 101)]) (ps := [AV.pv (.int .i64 ((c5.map Edge.enc).length : Nat)) = .pv (.int .i64 (c5.length : Nat)), (decide (s < ((c5.length : Nat) : Int))) = true, 0 ≤ (s : Int), (c5.map Edge.enc)[(s : Int).toNat]? = some (Edge.enc a8), (Edge.enc a8).length = 6, (a8.ID == c3) = false]) (by kernel_rfl) ⟨lenOb, h7, h9, rowOb h10, rfl, h11, trivial⟩ hn
 ·obtain rfl := sI hx
  exact WK.run (an := [.lp, .reg [(3, none, .val (.pv (.int .i64 ((c5.length : Nat) : Int))))], .br false]) (kt := []) (ko := []) (ps := [AV.pv (.int .i64 ((c5.map Edge.enc).length : Nat)) = .pv (.int .i64 (c5.length : Nat)), (decide (s < ((c5.length : Nat) : Int))) = false]) (by kernel_rfl) ⟨lenOb, h7, trivial⟩ hn
noncomputable def r3Find (v1 : Graph) (v2 : Int) : Option Int :=
 bd (loopN fuel (r3Find.l0 v2 v1.Vertices v1.Edges v1.Depots) 0) fun q12 =>
 match q12 with
 | .inl q12 =>
  some q12
 | .inr q12 =>
  some (-1)
theorem r3Find.ok (v1 : Graph) (v2 : Int) {x : Int} (hx : r3Find v1 v2 = some x) :
  Spec Try.prog 50 [.aggp [.sl (v1.Vertices.map Vertex.enc), .sl (v1.Edges.map Edge.enc), .sl (v1.Depots.map eInt)], .pv (.int .i64 v2)] [] (.pv (.int .i64 x)) [] := by
 refine Spec.of (c := b50) Try.func50 rfl rfl rfl ?_
 unfold r3Find at hx
 refine bd_ok hx fun q12 e13 hx => ?_
 refine WK.run (an := [.reg [(0, none, .nm 1003)], .reg []]) (kt := [1, 2, 5]) (ko := [(1003, 101)]) (ps := []) (by kernel_rfl) trivial (WK.enterLoop (r3Find.l0.ok v2 v1.Vertices v1.Edges v1.Depots _ _ _ _ e13 ?_))
 rcases q12 with (q12 | q12)
 ·obtain rfl := sI hx
  exact WK.fin (fn := Try.f50) Try.func50 (an := []) (kt := [4]) (ko := []) (frz := []) (ps := []) (qs := []) (by kernel_rfl) trivial trivial
 ·obtain rfl := sI hx
  exact WK.fin (fn := Try.f50) Try.func50 (an := [.reg []]) (kt := [4]) (ko := []) (frz := []) (ps := []) (qs := []) (by kernel_rfl) trivial trivial
noncomputable abbrev b49 : Code := body Try.f49
noncomputable def r7way.l0 (c4 : List Named) (c5 : List Vertex) (c6 : List Edge) (c7 : List Int) (s : Int × (List Int) × (List Int)) : Option (Nx (Int × (List Int) × (List Int)) ((List Int) × (List Int))) :=
 bd (r3Place (Graph.mk c5 c6 c7) s.1) fun y8 =>
 getR c4 y8 fun a10 =>
 getR a10.Label 2 fun a13 =>
 br (decide (a13 < 0)) (
  some (.done (s.2.1, s.2.2))) (
  bd (r3Find (Graph.mk c5 c6 c7) a13) fun y19 =>
  getR c6 y19 fun a21 =>
  bd (r3Other a21 s.1) fun y24 =>
  gd ((s.2.1 ++ [a13]).length ≤ bigLen) <|
  gd ((s.2.2 ++ [y24]).length ≤ bigLen) <|
  some (.cont (y24, (s.2.1 ++ [a13]), (s.2.2 ++ [y24]))))
abbrev r7way.l0.enc (c4 : List Named) (c5 : List Vertex) (c6 : List Edge) (c7 : List Int) (s : Int × (List Int) × (List Int)) : St := ⟨43, [(1, .pv (.sl (c4.map Named.enc))), (2, .pv (.int .i64 s.1)), (3, .ref 101 0 0 0), (8, .hd 103 0 ((s.2.1.map eInt).length) 1), (9, .hd 105 0 ((s.2.2.map eInt).length) 1)], [(101, .varp [.sl (c5.map Vertex.enc), .sl (c6.map Edge.enc), .sl (c7.map eInt)]), (103, .sl false 1 (s.2.1.map eInt)), (105, .sl false 1 (s.2.2.map eInt))]⟩
abbrev r7way.l0.post (c4 : List Named) (c5 : List Vertex) (c6 : List Edge) (c7 : List Int) (r : AV) (outs : List AObj) (q : ((List Int) × (List Int))) : Prop := WK Try.prog (49, 0) [.code (sub b49 [1, 1, 1, 0, 0, 0, 1, 0, 1, 0, 1]), .code (sub b49 [1, 1, 1, 0, 0, 0, 1, 1]), .inBlock 1, .inLoop (sub b49 [1, 1, 1, 0, 0]), .inBlock 0] ⟨43, [(6, .hd 101 0 ((q.1.map eInt).length) 1), (7, .hd 103 0 ((q.2.map eInt).length) 1)], [(101, .sl false 1 (q.1.map eInt)), (103, .sl false 1 (q.2.map eInt))]⟩ r outs
theorem r7way.l0.ok (c4 : List Named) (c5 : List Vertex) (c6 : List Edge) (c7 : List Int) (r : AV) (outs : List AObj) (s : Int × (List Int) × (List Int)) (q : ((List Int) × (List Int))) (h : loopN fuel (r7way.l0 c4 c5 c6 c7) s = some q) (hd : r7way.l0.post c4 c5 c6 c7 r outs q) :
  WK Try.prog (49, 0) [.inLoop (sub b49 [1, 1, 1, 0, 0]), .inBlock 0] (r7way.l0.enc c4 c5 c6 c7 s) r outs := by
 refine WK.loop (r7way.l0.enc c4 c5 c6 c7) (r7way.l0 c4 c5 c6 c7) (r7way.l0.post c4 c5 c6 c7 r outs) ?_ fuel s q h hd
 intro s x hx hn
 unfold r7way.l0 at hx
 refine bd_ok hx fun y8 e9 hx => ?_
 refine getR_ok hx fun a10 h11 h12 hx => ?_
 refine getR_ok hx fun a13 h14 h15 hx => ?_
 let Q16 : List Prop := [Spec Try.prog 34 [.aggp [.sl (c5.map Vertex.enc), .sl (c6.map Edge.enc), .sl (c7.map eInt)], .pv (.int .i64 s.1)] [] (.pv (.int .i64 y8)) [], 0 ≤ (y8 : Int), (c4.map Named.enc)[(y8 : Int).toNat]? = some (Named.enc a10), (Named.enc a10).length = 2, 0 ≤ (2 : Int), (a10.Label.map eInt)[(2 : Int).toNat]? = some (eInt a13), (eInt a13).length = 1]
 have k17 : All Q16 := ⟨r3Place.ok (Graph.mk c5 c6 c7) s.1 e9, h11, rowOb h12, rfl, h14, rowOb h15, rfl, trivial⟩
 refine br_ok hx (fun h18 hx => ?_) (fun h18 hx => ?_)
 ·obtain rfl := sI hx
  exact WK.run (an := [.lp, .reg [(3, none, .call [] [] (.pv (.int .i64 y8)) [] []), (4, none, .row (Named.enc a10)), (7, none, .row (eInt a13))], .reg [], .br true, .reg []]) (kt := [6, 7]) (ko := [(103, 101), (105, 103)]) (ps := (Q16 ++ [(decide (a13 < 0)) = true])) (by kernel_rfl) (All_append.2 ⟨k17, ⟨h18, trivial⟩⟩) hn
 ·refine bd_ok hx fun y19 e20 hx => ?_
  refine getR_ok hx fun a21 h22 h23 hx => ?_
  refine bd_ok hx fun y24 e25 hx => ?_
  refine gd_ok hx fun h26 hx => ?_
  refine gd_ok hx fun h27 hx => ?_
  obtain rfl := sI hx
  exact WK.run (an := [.lp, .reg [(3, none, .call [] [] (.pv (.int .i64 y8)) [] []), (4, none, .row (Named.enc a10)), (7, none, .row (eInt a13))], .reg [], .br false, .draw [0, 1, 2, 3, 4, 5, 6, 7, 8, 9] [(4, none, .call [] [] (.pv (.int .i64 y19)) [] []), (5, none, .row (Edge.enc a21)), (8, none, .call [] [] (.pv (.int .i64 y24)) [] [])], .reg [(2, none, .nm 1017), (3, none, .app 1019 ((s.2.1 ++ [a13]).map eInt))], .reg [(2, none, .nm 1021), (3, none, .app 1023 ((s.2.2 ++ [y24]).map eInt))]]) (kt := [1, 2, 3, 8, 9]) (ko := [(101, 101), (1019, 103), (1023, 105)]) (ps := (Q16 ++ [(decide (a13 < 0)) = false, Spec Try.prog 50 [.aggp [.sl (c5.map Vertex.enc), .sl (c6.map Edge.enc), .sl (c7.map eInt)], .pv (.int .i64 a13)] [] (.pv (.int .i64 y19)) [], 0 ≤ (y19 : Int), (c6.map Edge.enc)[(y19 : Int).toNat]? = some (Edge.enc a21), (Edge.enc a21).length = 6, Spec Try.prog 44 [.aggp [.int .i64 a21.ID, .int .i64 a21.From, .int .i64 a21.To, .bool a21.Directed, .int .i64 a21.Weight, .int .i64 a21.Cap], .pv (.int .i64 s.1)] [] (.pv (.int .i64 y24)) [], 1 = 1, 1 = 1, 0 + 1 ≤ ([a13].map eInt).length, 0 + ((s.2.1.map eInt).length) = (s.2.1.map eInt).length, (s.2.1.map eInt).drop 0 ++ (cut1 ([a13].map eInt) 0 1) = ((s.2.1 ++ [a13]).map eInt), ((s.2.1 ++ [a13]).map eInt).length ≤ bigLen, ∀ r ∈ (cut1 ([a13].map eInt) 0 1), r.length = 1, 1 = 1, 1 = 1, 0 + 1 ≤ ([y24].map eInt).length, 0 + ((s.2.2.map eInt).length) = (s.2.2.map eInt).length, (s.2.2.map eInt).drop 0 ++ (cut1 ([y24].map eInt) 0 1) = ((s.2.2 ++ [y24]).map eInt), ((s.2.2 ++ [y24]).map eInt).length ≤ bigLen, ∀ r ∈ (cut1 ([y24].map eInt) 0 1), r.length = 1])) (by kernel_rfl) (All_append.2 ⟨k17, ⟨h18, r3Find.ok (Graph.mk c5 c6 c7) a13 e20, h22, rowOb h23, rfl, r3Other.ok a21 s.1 e25, rfl, rfl, Nat.le_of_eq (Nat.zero_add _), Nat.zero_add _, by simp [cut1, List.take_of_length_le], bigOb h26, one_len rfl, rfl, rfl, Nat.le_of_eq (Nat.zero_add _), Nat.zero_add _, by simp [cut1, List.take_of_length_le], bigOb h27, one_len rfl, trivial⟩⟩) hn
noncomputable def r7way (v1 : Graph) (v2 : List Named) (v3 : Int) : Option ((List Int) × (List Int)) :=
 bd (loopN fuel (r7way.l0 v2 v1.Vertices v1.Edges v1.Depots) (v3, [], [v3])) fun q28 =>
 some (q28.1, q28.2)
theorem r7way.ok (v1 : Graph) (v2 : List Named) (v3 : Int) {x : (List Int) × (List Int)} (hx : r7way v1 v2 v3 = some x) :
  Spec Try.prog 49 [.aggp [.sl (v1.Vertices.map Vertex.enc), .sl (v1.Edges.map Edge.enc), .sl (v1.Depots.map eInt)], .pv (.sl (v2.map Named.enc)), .pv (.int .i64 v3)] [] (.tup [.pv (.sl (x.1.map eInt)), .pv (.sl (x.2.map eInt))]) [] := by
 refine Spec.of (c := b49) Try.func49 rfl rfl rfl ?_
 unfold r7way at hx
 refine bd_ok hx fun q28 e29 hx => ?_
 refine WK.run (an := [.reg [(0, none, .nm 1003), (1, none, .val (.pv (.sl ([].map eInt)))), (2, none, .val (.pv (.sl ([].map eInt))))], .new 1005 1, .reg [(0, none, .val (.hd 1005 0 0 1))], .reg [(1, none, .nm 1007)]]) (kt := [1, 2, 3, 8, 9]) (ko := [(1003, 101), (1005, 103), (1007, 105)]) (ps := [1 = 1, 1 = 1]) (by kernel_rfl) ⟨rfl, rfl, trivial⟩ (WK.enterLoop (r7way.l0.ok v2 v1.Vertices v1.Edges v1.Depots _ _ _ _ e29 ?_))
 obtain rfl := sI hx
 exact WK.fin (fn := Try.f49) Try.func49 (an := []) (kt := [6, 7]) (ko := [(101, 101), (103, 103)]) (frz := [101, 103]) (ps := []) (qs := [(q28.1.map eInt).length = (q28.1.map eInt).length, (q28.2.map eInt).length = (q28.2.map eInt).length]) (by kernel_rfl) trivial ⟨rfl, rfl, trivial⟩
noncomputable abbrev b18 : Code := body Try.f18
noncomputable def r7Path.l0 (c41 : List Int) (s : Int × (List Int)) : Option (Nx (Int × (List Int)) (List Int)) :=
 br (decide (s.1 ≥ 0)) (
  getR c41 s.1 fun a43 =>
  gd ((s.2 ++ [a43]).length ≤ bigLen) <|
  some (.cont ((IntKind.i64.wrap (s.1 - 1)), (s.2 ++ [a43])))) (
  some (.done s.2))
abbrev r7Path.l0.enc (c41 : List Int) (s : Int × (List Int)) : St := ⟨96, [(14, .pv (.sl (c41.map eInt))), (18, .hd 101 0 ((s.2.map eInt).length) 1), (19, .pv (.int .i64 s.1))], [(101, .sl false 1 (s.2.map eInt))]⟩
abbrev r7Path.l0.post (c41 : List Int) (r : AV) (outs : List AObj) (q : (List Int)) : Prop := WK Try.prog (18, 0) [.code (sub b18 [1, 1, 1, 1, 1, 1, 0, 1, 0, 0, 1, 0, 0, 1, 0, 0, 1, 0, 0, 1, 0, 1, 1, 0]), .code (sub b18 [1, 1, 1, 1, 1, 1, 0, 1, 0, 0, 1, 0, 0, 1, 0, 0, 1, 0, 0, 1, 0, 1, 1, 1]), .inBlock 3, .code (sub b18 [1, 1, 1, 1, 1, 1, 0, 1, 0, 0, 1, 0, 0, 1, 0, 0, 1, 1]), .inLoop (sub b18 [1, 1, 1, 1, 1, 1, 0, 1, 0, 0, 1, 0, 0, 1, 0, 0]), .inBlock 2, .inBlock 1, .code (sub b18 [1, 1, 1, 1, 1, 1, 0, 1, 0, 0, 1, 1]), .inLoop (sub b18 [1, 1, 1, 1, 1, 1, 0, 1, 0, 0]), .inBlock 0, .code (sub b18 [1, 1, 1, 1, 1, 1, 1])] ⟨96, [(18, .hd 101 0 ((q.map eInt).length) 1)], [(101, .sl false 1 (q.map eInt))]⟩ r outs
theorem r7Path.l0.ok (c41 : List Int) (r : AV) (outs : List AObj) (s : Int × (List Int)) (q : (List Int)) (h : loopN fuel (r7Path.l0 c41) s = some q) (hd : r7Path.l0.post c41 r outs q) :
  WK Try.prog (18, 0) [.inLoop (sub b18 [1, 1, 1, 1, 1, 1, 0, 1, 0, 0, 1, 0, 0, 1, 0, 0, 1, 0, 0, 1, 0, 1, 0, 1, 0, 0]), .inBlock 4, .code (sub b18 [1, 1, 1, 1, 1, 1, 0, 1, 0, 0, 1, 0, 0, 1, 0, 0, 1, 0, 0, 1, 0, 1, 1]), .inBlock 3, .code (sub b18 [1, 1, 1, 1, 1, 1, 0, 1, 0, 0, 1, 0, 0, 1, 0, 0, 1, 1]), .inLoop (sub b18 [1, 1, 1, 1, 1, 1, 0, 1, 0, 0, 1, 0, 0, 1, 0, 0]), .inBlock 2, .inBlock 1, .code (sub b18 [1, 1, 1, 1, 1, 1, 0, 1, 0, 0, 1, 1]), .inLoop (sub b18 [1, 1, 1, 1, 1, 1, 0, 1, 0, 0]), .inBlock 0, .code (sub b18 [1, 1, 1, 1, 1, 1, 1])] (r7Path.l0.enc c41 s) r outs := by
 refine WK.loop (r7Path.l0.enc c41) (r7Path.l0 c41) (r7Path.l0.post c41 r outs) ?_ fuel s q h hd
 intro s x hx hn
 unfold r7Path.l0 at hx
 refine br_ok hx (fun h42 hx => ?_) (fun h42 hx => ?_)
 ·refine getR_ok hx fun a43 h44 h45 hx => ?_
  refine gd_ok hx fun h46 hx => ?_
  obtain rfl := sI hx
  exact WK.run (an := [.lp, .reg [], .br true, .reg [(3, none, .row (eInt a43)), (5, none, .nm 1013), (6, none, .app 1015 ((s.2 ++ [a43]).map eInt))], .reg []]) (kt := [14, 18, 19]) (ko := [(1015, 101)]) (ps := [(decide (s.1 ≥ 0)) = true, 0 ≤ (s.1 : Int), (c41.map eInt)[(s.1 : Int).toNat]? = some (eInt a43), (eInt a43).length = 1, 1 = 1, 1 = 1, 0 + 1 ≤ ([a43].map eInt).length, 0 + ((s.2.map eInt).length) = (s.2.map eInt).length, (s.2.map eInt).drop 0 ++ (cut1 ([a43].map eInt) 0 1) = ((s.2 ++ [a43]).map eInt), ((s.2 ++ [a43]).map eInt).length ≤ bigLen, ∀ r ∈ (cut1 ([a43].map eInt) 0 1), r.length = 1]) (by kernel_rfl) ⟨h42, h44, rowOb h45, rfl, rfl, rfl, Nat.le_of_eq (Nat.zero_add _), Nat.zero_add _, by simp [cut1, List.take_of_length_le], bigOb h46, one_len rfl, trivial⟩ hn
 ·obtain rfl := sI hx
  exact WK.run (an := [.lp, .reg [], .br false]) (kt := [18]) (ko := [(101, 101)]) (ps := [(decide (s.1 ≥ 0)) = false]) (by kernel_rfl) ⟨h42, trivial⟩ hn
noncomputable def r7Path.l1 (c23 : List Int) (c24 : List Int) (c25 : List Int) (c26 : List Int) (c27 : Int) (s : Int) : Option (Nx Int ((List Int) ⊕ Unit)) :=
 br (decide (s < ((c26.length : Nat) : Int))) (
  getR c24 c27 fun a29 =>
  getR c26 s fun a32 =>
  br (a29 == a32) (
   gd (0 ≤ (c27 : Int)) <|
   gd ((c27 : Int) ≤ (((c23.map eInt).length : Nat) : Int)) <|
   gd ((c23.take (c27 : Int).toNat).length ≤ bigLen) <|
   bd (loopN fuel (r7Path.l0 c25) ((IntKind.i64.wrap (s - 1)), (c23.take (c27 : Int).toNat))) fun q41 =>
   some (.done (.inl q41))) (
   some (.cont (IntKind.i64.wrap (s + 1))))) (
  some (.done (.inr ())))
abbrev r7Path.l1.enc (c23 : List Int) (c24 : List Int) (c25 : List Int) (c26 : List Int) (c27 : Int) (s : Int) : St := ⟨96, [(12, .pv (.sl (c23.map eInt))), (13, .pv (.sl (c24.map eInt))), (14, .pv (.sl (c25.map eInt))), (15, .pv (.sl (c26.map eInt))), (16, .pv (.int .i64 c27)), (17, .pv (.int .i64 s))], []⟩
abbrev r7Path.l1.post (c23 : List Int) (c24 : List Int) (c25 : List Int) (c26 : List Int) (c27 : Int) (r : AV) (outs : List AObj) (q : (List Int) ⊕ Unit) : Prop := match q with | .inl q => WK Try.prog (18, 0) [.code (sub b18 [1, 1, 1, 1, 1, 1, 0, 1, 0, 0, 1, 0, 0, 1, 0, 0, 1, 0, 0, 1, 0, 1, 1, 1]), .inBlock 3, .code (sub b18 [1, 1, 1, 1, 1, 1, 0, 1, 0, 0, 1, 0, 0, 1, 0, 0, 1, 1]), .inLoop (sub b18 [1, 1, 1, 1, 1, 1, 0, 1, 0, 0, 1, 0, 0, 1, 0, 0]), .inBlock 2, .inBlock 1, .code (sub b18 [1, 1, 1, 1, 1, 1, 0, 1, 0, 0, 1, 1]), .inLoop (sub b18 [1, 1, 1, 1, 1, 1, 0, 1, 0, 0]), .inBlock 0, .code (sub b18 [1, 1, 1, 1, 1, 1, 1])] ⟨96, [(6, .hd 101 0 ((q.map eInt).length) 1), (7, .pv (.int .i64 0))], [(101, .sl false 1 (q.map eInt))]⟩ r outs | .inr q => WK Try.prog (18, 0) [.code (sub b18 [1, 1, 1, 1, 1, 1, 0, 1, 0, 0, 1, 1]), .inLoop (sub b18 [1, 1, 1, 1, 1, 1, 0, 1, 0, 0]), .inBlock 0, .code (sub b18 [1, 1, 1, 1, 1, 1, 1])] ⟨96, [(12, .pv (.sl (c23.map eInt))), (13, .pv (.sl (c24.map eInt))), (14, .pv (.sl (c25.map eInt))), (15, .pv (.sl (c26.map eInt))), (16, .pv (.int .i64 c27))], []⟩ r outs
theorem r7Path.l1.ok (c23 : List Int) (c24 : List Int) (c25 : List Int) (c26 : List Int) (c27 : Int) (r : AV) (outs : List AObj) (s : Int) (q : (List Int) ⊕ Unit) (h : loopN fuel (r7Path.l1 c23 c24 c25 c26 c27) s = some q) (hd : r7Path.l1.post c23 c24 c25 c26 c27 r outs q) :
  WK Try.prog (18, 0) [.inLoop (sub b18 [1, 1, 1, 1, 1, 1, 0, 1, 0, 0, 1, 0, 0, 1, 0, 0]), .inBlock 2, .inBlock 1, .code (sub b18 [1, 1, 1, 1, 1, 1, 0, 1, 0, 0, 1, 1]), .inLoop (sub b18 [1, 1, 1, 1, 1, 1, 0, 1, 0, 0]), .inBlock 0, .code (sub b18 [1, 1, 1, 1, 1, 1, 1])] (r7Path.l1.enc c23 c24 c25 c26 c27 s) r outs := by
 refine WK.loop (r7Path.l1.enc c23 c24 c25 c26 c27) (r7Path.l1 c23 c24 c25 c26 c27) (r7Path.l1.post c23 c24 c25 c26 c27 r outs) ?_ fuel s q h hd
 intro s x hx hn
 unfold r7Path.l1 at hx
 refine br_ok hx (fun h28 hx => ?_) (fun h28 hx => ?_)
 ·refine getR_ok hx fun a29 h30 h31 hx => ?_
  refine getR_ok hx fun a32 h33 h34 hx => ?_
  let Q35 : List Prop := [AV.pv (.int .i64 ((c26.map eInt).length : Nat)) = .pv (.int .i64 (c26.length : Nat)), (decide (s < ((c26.length : Nat) : Int))) = true, 0 ≤ (c27 : Int), (c24.map eInt)[(c27 : Int).toNat]? = some (eInt a29), (eInt a29).length = 1, 0 ≤ (s : Int), (c26.map eInt)[(s : Int).toNat]? = some (eInt a32), (eInt a32).length = 1]
  have k36 : All Q35 := ⟨lenOb, h28, h30, rowOb h31, rfl, h33, rowOb h34, rfl, trivial⟩
  refine br_ok hx (fun h37 hx => ?_) (fun h37 hx => ?_)
  ·refine gd_ok hx fun h38 hx => ?_
   refine gd_ok hx fun h39 hx => ?_
   refine gd_ok hx fun h40 hx => ?_
   refine bd_ok hx fun q41 e42 hx => ?_
   refine WK.run (an := [.lp, .reg [(2, none, .val (.pv (.int .i64 ((c26.length : Nat) : Int))))], .br true, .draw [0, 1, 2, 3, 4, 5, 6, 7, 8] [(2, none, .row (eInt a29)), (6, none, .row (eInt a32))], .br true, .reg [(0, none, .nm 1017), (3, none, .sls ((c23.take (c27 : Int).toNat).map eInt)), (4, none, .app 1019 ((c23.take (c27 : Int).toNat).map eInt))], .reg []]) (kt := [14, 18, 19]) (ko := [(1019, 101)]) (ps := (Q35 ++ [(a29 == a32) = true, 1 = 1, 0 ≤ (c27 : Int), (c27 : Int) ≤ (((c23.map eInt).length : Nat) : Int), cut1 (c23.map eInt) 0 ((c27 : Int).toNat - 0) = (c23.take (c27 : Int).toNat).map eInt, ∀ r ∈ (c23.take (c27 : Int).toNat).map eInt, r.length = 1, 0 + 0 = ([].map eInt).length, ([].map eInt).drop 0 ++ ((c23.take (c27 : Int).toNat).map eInt) = ((c23.take (c27 : Int).toNat).map eInt), ((c23.take (c27 : Int).toNat).map eInt).length ≤ bigLen, ∀ r ∈ ((c23.take (c27 : Int).toNat).map eInt), r.length = 1])) (by kernel_rfl) (All_append.2 ⟨k36, ⟨h37, rfl, h38, h39, cut_hi, map_len fun _ => rfl, Nat.zero_add _, by simp [cut1, List.take_of_length_le], bigOb h40, map_len fun _ => rfl, trivial⟩⟩) (WK.enterLoop (r7Path.l0.ok c25 _ _ _ _ e42 ?_))
   obtain rfl := sI hx
   exact WK.run (an := [.reg []]) (kt := [6, 7]) (ko := [(101, 101)]) (ps := []) (by kernel_rfl) trivial hn
  ·obtain rfl := sI hx
   exact WK.run (an := [.lp, .reg [(2, none, .val (.pv (.int .i64 ((c26.length : Nat) : Int))))], .br true, .draw [0, 1, 2, 3, 4, 5, 6, 7, 8] [(2, none, .row (eInt a29)), (6, none, .row (eInt a32))], .br false, .reg []]) (kt := [12, 13, 14, 15, 16, 17]) (ko := []) (ps := (Q35 ++ [(a29 == a32) = false])) (by kernel_rfl) (All_append.2 ⟨k36, ⟨h37, trivial⟩⟩) hn
 ·obtain rfl := sI hx
  exact WK.run (an := [.lp, .reg [(2, none, .val (.pv (.int .i64 ((c26.length : Nat) : Int))))], .br false]) (kt := [12, 13, 14, 15, 16]) (ko := []) (ps := [AV.pv (.int .i64 ((c26.map eInt).length : Nat)) = .pv (.int .i64 (c26.length : Nat)), (decide (s < ((c26.length : Nat) : Int))) = false]) (by kernel_rfl) ⟨lenOb, h28, trivial⟩ hn
noncomputable def r7Path.l2 (c18 : List Int) (c19 : List Int) (c20 : List Int) (c21 : List Int) (s : Int) : Option (Nx Int ((List Int) ⊕ Unit)) :=
 br (decide (s < ((c19.length : Nat) : Int))) (
  bd (loopN fuel (r7Path.l1 c18 c19 c20 c21 s) 0) fun q23 =>
  match q23 with
  | .inl q23 =>
   some (.done (.inl q23))
  | .inr q23 =>
   some (.cont (IntKind.i64.wrap (s + 1)))) (
  some (.done (.inr ())))
abbrev r7Path.l2.enc (c18 : List Int) (c19 : List Int) (c20 : List Int) (c21 : List Int) (s : Int) : St := ⟨96, [(12, .pv (.sl (c18.map eInt))), (13, .pv (.sl (c19.map eInt))), (14, .pv (.sl (c20.map eInt))), (15, .pv (.sl (c21.map eInt))), (16, .pv (.int .i64 s))], []⟩
abbrev r7Path.l2.post (c18 : List Int) (c19 : List Int) (c20 : List Int) (c21 : List Int) (r : AV) (outs : List AObj) (q : (List Int) ⊕ Unit) : Prop := match q with | .inl q => WK Try.prog (18, 0) [.code (sub b18 [1, 1, 1, 1, 1, 1, 0, 1, 0, 0, 1, 0, 0, 1, 0, 0, 1, 0, 0, 1, 0, 1, 1, 1]), .inBlock 3, .code (sub b18 [1, 1, 1, 1, 1, 1, 0, 1, 0, 0, 1, 0, 0, 1, 0, 0, 1, 1]), .inLoop (sub b18 [1, 1, 1, 1, 1, 1, 0, 1, 0, 0, 1, 0, 0, 1, 0, 0]), .inBlock 2, .inBlock 1, .code (sub b18 [1, 1, 1, 1, 1, 1, 0, 1, 0, 0, 1, 1]), .inLoop (sub b18 [1, 1, 1, 1, 1, 1, 0, 1, 0, 0]), .inBlock 0, .code (sub b18 [1, 1, 1, 1, 1, 1, 1])] ⟨96, [(6, .hd 101 0 ((q.map eInt).length) 1), (7, .pv (.int .i64 0))], [(101, .sl false 1 (q.map eInt))]⟩ r outs | .inr q => WK Try.prog (18, 0) [.code (sub b18 [1, 1, 1, 1, 1, 1, 1, 0]), .code (sub b18 [1, 1, 1, 1, 1, 1, 1, 1])] ⟨96, [], []⟩ r outs
theorem r7Path.l2.ok (c18 : List Int) (c19 : List Int) (c20 : List Int) (c21 : List Int) (r : AV) (outs : List AObj) (s : Int) (q : (List Int) ⊕ Unit) (h : loopN fuel (r7Path.l2 c18 c19 c20 c21) s = some q) (hd : r7Path.l2.post c18 c19 c20 c21 r outs q) :
  WK Try.prog (18, 0) [.inLoop (sub b18 [1, 1, 1, 1, 1, 1, 0, 1, 0, 0]), .inBlock 0, .code (sub b18 [1, 1, 1, 1, 1, 1, 1])] (r7Path.l2.enc c18 c19 c20 c21 s) r outs := by
 refine WK.loop (r7Path.l2.enc c18 c19 c20 c21) (r7Path.l2 c18 c19 c20 c21) (r7Path.l2.post c18 c19 c20 c21 r outs) ?_ fuel s q h hd
 intro s x hx hn
 unfold r7Path.l2 at hx
 refine br_ok hx (fun h22 hx => ?_) (fun h22 hx => ?_)
 ·refine bd_ok hx fun q23 e24 hx => ?_
  refine WK.run (an := [.lp, .reg [(2, none, .val (.pv (.int .i64 ((c19.length : Nat) : Int))))], .br true, .reg []]) (kt := [12, 13, 14, 15, 16, 17]) (ko := []) (ps := [AV.pv (.int .i64 ((c19.map eInt).length : Nat)) = .pv (.int .i64 (c19.length : Nat)), (decide (s < ((c19.length : Nat) : Int))) = true]) (by kernel_rfl) ⟨lenOb, h22, trivial⟩ (WK.enterLoop (r7Path.l1.ok c18 c19 c20 c21 s _ _ _ _ e24 ?_))
  rcases q23 with (q23 | q23)
  ·obtain rfl := sI hx
   exact WK.run (an := []) (kt := [6, 7]) (ko := [(101, 101)]) (ps := []) (by kernel_rfl) trivial hn
  ·obtain rfl := sI hx
   exact WK.run (an := [.reg []]) (kt := [12, 13, 14, 15, 16]) (ko := []) (ps := []) (by kernel_rfl) trivial hn
 ·obtain rfl := sI hx
  exact WK.run (an := [.lp, .reg [(2, none, .val (.pv (.int .i64 ((c19.length : Nat) : Int))))], .br false]) (kt := []) (ko := []) (ps := [AV.pv (.int .i64 ((c19.map eInt).length : Nat)) = .pv (.int .i64 (c19.length : Nat)), (decide (s < ((c19.length : Nat) : Int))) = false]) (by kernel_rfl) ⟨lenOb, h22, trivial⟩ hn
noncomputable def r7Path (v1 : Graph) (v2 : Int) (v3 : Int) : Option ((List Int) × Int) :=
 bd (r7Connected v1 v2 v3) fun y4 =>
 bd (r7Labels v1) fun y6 =>
 br (y4.2 != 0) (
  some ([], 70)) (
  br (y6.2 != 0) (
   some ([], 70)) (
   br (!y4.1) (
    some ([], 70)) (
    bd (r7way v1 y6.1 v2) fun y14 =>
    bd (r7way v1 y6.1 v3) fun y16 =>
    bd (loopN fuel (r7Path.l2 y14.1 y14.2 y16.1 y16.2) 0) fun q25 =>
    match q25 with
    | .inl q25 =>
     some (q25, 0)
    | .inr q25 =>
     some ([], 70))))
theorem r7Path.ok (v1 : Graph) (v2 : Int) (v3 : Int) {x : (List Int) × Int} (hx : r7Path v1 v2 v3 = some x) :
  Spec Try.prog 18 [.aggp [.sl (v1.Vertices.map Vertex.enc), .sl (v1.Edges.map Edge.enc), .sl (v1.Depots.map eInt)], .pv (.int .i64 v2), .pv (.int .i64 v3)] [] (.tup [.pv (.sl (x.1.map eInt)), .pv (.int .i64 x.2)]) [] := by
 refine Spec.of (c := b18) Try.func18 rfl rfl rfl ?_
 unfold r7Path at hx
 refine bd_ok hx fun y4 e5 hx => ?_
 refine bd_ok hx fun y6 e7 hx => ?_
 let Q8 : List Prop := [Spec Try.prog 16 [.aggp [.sl (v1.Vertices.map Vertex.enc), .sl (v1.Edges.map Edge.enc), .sl (v1.Depots.map eInt)], .pv (.int .i64 v2), .pv (.int .i64 v3)] [] (.tup [.pv (.bool y4.1), .pv (.int .i64 y4.2)]) [], Spec Try.prog 12 [.aggp [.sl (v1.Vertices.map Vertex.enc), .sl (v1.Edges.map Edge.enc), .sl (v1.Depots.map eInt)]] [] (.tup [.pv (.sl (y6.1.map Named.enc)), .pv (.int .i64 y6.2)]) []]
 have k9 : All Q8 := ⟨r7Connected.ok v1 v2 v3 e5, r7Labels.ok v1 e7, trivial⟩
 refine br_ok hx (fun h10 hx => ?_) (fun h10 hx => ?_)
 ·obtain rfl := sI hx
  exact WK.fin (fn := Try.f18) Try.func18 (an := [.reg [(0, none, .nm 1003), (1, none, .val (.pv (.sl ([].map eInt))))], .reg [(3, none, .call [] [] (.tup [.pv (.bool y4.1), .pv (.int .i64 y4.2)]) [] [])], .reg [(1, none, .call [] [] (.tup [.pv (.sl (y6.1.map Named.enc)), .pv (.int .i64 y6.2)]) [] [])], .reg [(3, some true, .no)], .bk, .reg [(0, none, .val (.pv (.sl ([].map eInt))))]]) (kt := [6, 7]) (ko := []) (frz := []) (ps := (Q8 ++ [(y4.2 != 0) = true])) (qs := []) (by kernel_rfl) (All_append.2 ⟨k9, ⟨h10, trivial⟩⟩) trivial
 ·refine br_ok hx (fun h11 hx => ?_) (fun h11 hx => ?_)
  ·obtain rfl := sI hx
   exact WK.fin (fn := Try.f18) Try.func18 (an := [.reg [(0, none, .nm 1003), (1, none, .val (.pv (.sl ([].map eInt))))], .reg [(3, none, .call [] [] (.tup [.pv (.bool y4.1), .pv (.int .i64 y4.2)]) [] [])], .reg [(1, none, .call [] [] (.tup [.pv (.sl (y6.1.map Named.enc)), .pv (.int .i64 y6.2)]) [] [])], .reg [(3, some false, .no), (7, some true, .no)], .bk, .reg [(0, none, .val (.pv (.sl ([].map eInt))))]]) (kt := [6, 7]) (ko := []) (frz := []) (ps := (Q8 ++ [(y4.2 != 0) = false, (y6.2 != 0) = true])) (qs := []) (by kernel_rfl) (All_append.2 ⟨k9, ⟨h10, h11, trivial⟩⟩) trivial
  ·let A12 : List An := [.reg [(0, none, .nm 1003), (1, none, .val (.pv (.sl ([].map eInt))))], .reg [(3, none, .call [] [] (.tup [.pv (.bool y4.1), .pv (.int .i64 y4.2)]) [] [])], .reg [(1, none, .call [] [] (.tup [.pv (.sl (y6.1.map Named.enc)), .pv (.int .i64 y6.2)]) [] [])], .reg [(3, some false, .no), (7, some false, .no)]]
   refine br_ok hx (fun h13 hx => ?_) (fun h13 hx => ?_)
   ·obtain rfl := sI hx
    exact WK.fin (fn := Try.f18) Try.func18 (an := (A12 ++ [.br true, .reg [(0, none, .val (.pv (.sl ([].map eInt))))]])) (kt := [6, 7]) (ko := []) (frz := []) (ps := (Q8 ++ [(y4.2 != 0) = false, (y6.2 != 0) = false, (!y4.1) = true])) (qs := []) (by kernel_rfl) (All_append.2 ⟨k9, ⟨h10, h11, h13, trivial⟩⟩) trivial
   ·refine bd_ok hx fun y14 e15 hx => ?_
    refine bd_ok hx fun y16 e17 hx => ?_
    refine bd_ok hx fun q25 e26 hx => ?_
    refine WK.run (an := (A12 ++ [.br false, .reg [(3, none, .call [] [] (.tup [.pv (.sl (y14.1.map eInt)), .pv (.sl (y14.2.map eInt))]) [] [])], .reg [(3, none, .call [] [] (.tup [.pv (.sl (y16.1.map eInt)), .pv (.sl (y16.2.map eInt))]) [] [])], .reg []])) (kt := [12, 13, 14, 15, 16]) (ko := []) (ps := (Q8 ++ [(y4.2 != 0) = false, (y6.2 != 0) = false, (!y4.1) = false, Spec Try.prog 49 [.aggp [.sl (v1.Vertices.map Vertex.enc), .sl (v1.Edges.map Edge.enc), .sl (v1.Depots.map eInt)], .pv (.sl (y6.1.map Named.enc)), .pv (.int .i64 v2)] [] (.tup [.pv (.sl (y14.1.map eInt)), .pv (.sl (y14.2.map eInt))]) [], Spec Try.prog 49 [.aggp [.sl (v1.Vertices.map Vertex.enc), .sl (v1.Edges.map Edge.enc), .sl (v1.Depots.map eInt)], .pv (.sl (y6.1.map Named.enc)), .pv (.int .i64 v3)] [] (.tup [.pv (.sl (y16.1.map eInt)), .pv (.sl (y16.2.map eInt))]) []])) (by kernel_rfl) (All_append.2 ⟨k9, ⟨h10, h11, h13, r7way.ok v1 y6.1 v2 e15, r7way.ok v1 y6.1 v3 e17, trivial⟩⟩) (WK.enterLoop (r7Path.l2.ok y14.1 y14.2 y16.1 y16.2 _ _ _ _ e26 ?_))
    rcases q25 with (q25 | q25)
    ·obtain rfl := sI hx
     exact WK.fin (fn := Try.f18) Try.func18 (an := []) (kt := [6, 7]) (ko := [(101, 101)]) (frz := [101]) (ps := []) (qs := [(q25.map eInt).length = (q25.map eInt).length]) (by kernel_rfl) trivial ⟨rfl, trivial⟩
    ·obtain rfl := sI hx
     exact WK.fin (fn := Try.f18) Try.func18 (an := [.reg [(0, none, .val (.pv (.sl ([].map eInt))))]]) (kt := [6, 7]) (ko := []) (frz := []) (ps := []) (qs := []) (by kernel_rfl) trivial trivial
end Go.Fw.Gen
