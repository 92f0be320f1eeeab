/- Plain functions, and the proofs that the program computes them; printed by a program of our own. -/
import Derived.Test.YtpkjgdngkhnhpaaFwP
import Derived.Test.YtpkjgdngkhnhpaaProg
set_option linter.unusedVariables false
namespace Go.Fw.Gen
open Go.Proofs Go.Fw
structure Vertex where
 ID : Int
 Side : Int
abbrev Vertex.enc (v : Vertex) : List PV := [.int .i64 v.ID, .int .i64 v.Side]
structure Edge where
 ID : Int
 From : Int
 To : Int
 Directed : Bool
 Weight : Int
 Cap : Int
abbrev Edge.enc (v : Edge) : List PV := [.int .i64 v.ID, .int .i64 v.From, .int .i64 v.To, .bool v.Directed, .int .i64 v.Weight, .int .i64 v.Cap]
structure Graph where
 Vertices : List Vertex
 Edges : List Edge
 Depots : List Int
abbrev Graph.enc (v : Graph) : List PV := [.sl (v.Vertices.map Vertex.enc), .sl (v.Edges.map Edge.enc), .sl (v.Depots.map eInt)]
structure Named where
 ID : Int
 Label : List Int
abbrev Named.enc (v : Named) : List PV := [.int .i64 v.ID, .sl (v.Label.map eInt)]
structure View where
 Vertex : Vertex
 Depots : List Int
 Edges : List Edge
 Labels : List Named
abbrev View.enc (v : View) : List PV := [.int .i64 v.Vertex.ID, .int .i64 v.Vertex.Side, .sl (v.Depots.map eInt), .sl (v.Edges.map Edge.enc), .sl (v.Labels.map Named.enc)]
structure A3_Int where
 x0 : Int
 x1 : Int
 x2 : Int
abbrev A3_Int.enc (v : A3_Int) : List PV := [.int .i64 v.x0, .int .i64 v.x1, .int .i64 v.x2]
structure NamedR where
 ID : Int
 Label : Ref
abbrev NamedR.enc (f : Nat) (v : NamedR) : List PV := [.int .i64 v.ID, .fh f v.Label.i v.Label.off v.Label.len 1]
structure A5_Int where
 x0 : Int
 x1 : Int
 x2 : Int
 x3 : Int
 x4 : Int
abbrev A5_Int.enc (v : A5_Int) : List PV := [.int .i64 v.x0, .int .i64 v.x1, .int .i64 v.x2, .int .i64 v.x3, .int .i64 v.x4]
structure A2_Int where
 x0 : Int
 x1 : Int
abbrev A2_Int.enc (v : A2_Int) : List PV := [.int .i64 v.x0, .int .i64 v.x1]
noncomputable abbrev b37 : Code := body Try.f37
noncomputable def w7example : Option Graph :=
 some (Graph.mk [(Vertex.mk 0 0), (Vertex.mk 1 0), (Vertex.mk 2 0), (Vertex.mk 3 0), (Vertex.mk 5 0)] [(Edge.mk 0 2 1 false 0 0), (Edge.mk 4 1 3 false 0 0), (Edge.mk 6 3 2 false 0 0), (Edge.mk 7 5 5 false 0 0)] [])
theorem w7example.ok {x : Graph} (hx : w7example = some x) :
  Spec Try.prog 37 [] [] (.aggp [.sl (x.Vertices.map Vertex.enc), .sl (x.Edges.map Edge.enc), .sl (x.Depots.map eInt)]) [] := by
 refine Spec.of (c := b37) Try.func37 rfl rfl rfl ?_
 unfold w7example at hx
 obtain rfl := sI hx
 exact WK.fin (fn := Try.f37) Try.func37 (an := [.reg [(0, none, .nmv 1003 (.aggp [.sl ([].map Vertex.enc), .sl ([].map Edge.enc), .sl ([].map eInt)]))], .reg [(5, none, .nm 1005), (10, none, .nm 1007), (11, none, .val (.agg [.hd 1005 0 5 2, .hd 1007 0 4 6, .pv (.sl ([].map eInt))]))]]) (kt := [0]) (ko := [(1003, 101), (1005, 103), (1007, 105)]) (frz := [103, 105]) (ps := [2 = 2, 2 = 2, 2 = 2, 2 = 2, 2 = 2, 2 = 2, 6 = 6, 6 = 6, 6 = 6, 6 = 6, 6 = 6, AV.hd 1005 0 5 2 = .hd 1005 0 5 2, AV.hd 1007 0 4 6 = .hd 1007 0 4 6, 3 = 3]) (qs := [([(Vertex.mk 0 0), (Vertex.mk 1 0), (Vertex.mk 2 0), (Vertex.mk 3 0), (Vertex.mk 5 0)].map Vertex.enc).length = ([(Vertex.mk 0 0), (Vertex.mk 1 0), (Vertex.mk 2 0), (Vertex.mk 3 0), (Vertex.mk 5 0)].map Vertex.enc).length, ([(Edge.mk 0 2 1 false 0 0), (Edge.mk 4 1 3 false 0 0), (Edge.mk 6 3 2 false 0 0), (Edge.mk 7 5 5 false 0 0)].map Edge.enc).length = ([(Edge.mk 0 2 1 false 0 0), (Edge.mk 4 1 3 false 0 0), (Edge.mk 6 3 2 false 0 0), (Edge.mk 7 5 5 false 0 0)].map Edge.enc).length]) (by kernel_rfl) ⟨rfl, rfl, rfl, rfl, rfl, rfl, rfl, rfl, rfl, rfl, rfl, rfl, rfl, rfl, trivial⟩ ⟨rfl, rfl, trivial⟩
noncomputable abbrev b63 : Code := body Try.f63
noncomputable def graph_vertexID (v1 : Vertex) : Option Int :=
 some v1.ID
theorem graph_vertexID.ok (v1 : Vertex) {x : Int} (hx : graph_vertexID v1 = some x) :
  Spec Try.prog 63 [.aggp [.int .i64 v1.ID, .int .i64 v1.Side]] [] (.pv (.int .i64 x)) [] := by
 refine Spec.of (c := b63) Try.func63 rfl rfl rfl ?_
 unfold graph_vertexID at hx
 obtain rfl := sI hx
 exact WK.fin (fn := Try.f63) Try.func63 (an := [.reg [(0, none, .nm 1003)], .reg []]) (kt := [2]) (ko := []) (frz := []) (ps := []) (qs := []) (by kernel_rfl) trivial trivial
noncomputable abbrev b62 : Code := body Try.f62
noncomputable def graph_ascendV.l0 (c2 : List Vertex) (s : Int) : Option (Nx Int (Unit ⊕ Unit)) :=
 br (decide (s < ((c2.length : Nat) : Int))) (
  getR c2 (IntKind.i64.wrap (s - 1)) fun a4 =>
  bd (graph_vertexID a4) fun y7 =>
  getR c2 s fun a9 =>
  bd (graph_vertexID a9) fun y12 =>
  br (decide (y7 ≥ y12)) (
   some (.done (.inl ()))) (
   some (.cont (IntKind.i64.wrap (s + 1))))) (
  some (.done (.inr ())))
abbrev graph_ascendV.l0.enc (c2 : List Vertex) (s : Int) : St := ⟨26, [(0, .pv (.sl (c2.map Vertex.enc))), (1, .clo 63 []), (5, .pv (.int .i64 s))], []⟩
abbrev graph_ascendV.l0.post (c2 : List Vertex) (r : AV) (outs : List AObj) (q : Unit ⊕ Unit) : Prop := match q with | .inl q => WK Try.prog (62, 0) [.code (sub b62 [1, 0, 1, 0, 0, 1, 0, 0, 1, 0, 1]), .inBlock 1, .code (sub b62 [1, 0, 1, 0, 0, 1, 1]), .inLoop (sub b62 [1, 0, 1, 0, 0]), .inBlock 0, .code (sub b62 [1, 1])] ⟨26, [(4, .pv (.bool false))], []⟩ r outs | .inr q => WK Try.prog (62, 0) [.code (sub b62 [1, 1, 0]), .code (sub b62 [1, 1, 1])] ⟨26, [], []⟩ r outs
theorem graph_ascendV.l0.ok (c2 : List Vertex) (r : AV) (outs : List AObj) (s : Int) (q : Unit ⊕ Unit) (h : loopN fuel (graph_ascendV.l0 c2) s = some q) (hd : graph_ascendV.l0.post c2 r outs q) :
  WK Try.prog (62, 0) [.inLoop (sub b62 [1, 0, 1, 0, 0]), .inBlock 0, .code (sub b62 [1, 1])] (graph_ascendV.l0.enc c2 s) r outs := by
 refine WK.loop (graph_ascendV.l0.enc c2) (graph_ascendV.l0 c2) (graph_ascendV.l0.post c2 r outs) ?_ fuel s q h hd
 intro s x hx hn
 unfold graph_ascendV.l0 at hx
 refine br_ok hx (fun h3 hx => ?_) (fun h3 hx => ?_)
 ·refine getR_ok hx fun a4 h5 h6 hx => ?_
  refine bd_ok hx fun y7 e8 hx => ?_
  refine getR_ok hx fun a9 h10 h11 hx => ?_
  refine bd_ok hx fun y12 e13 hx => ?_
  refine WK.run (an := [.lp, .reg [(2, none, .val (.pv (.int .i64 ((c2.length : Nat) : Int))))], .br true, .draw [0, 1, 2, 3, 4, 5, 6, 7, 8, 9, 10, 11, 12, 13] [(4, none, .row (Vertex.enc a4)), (6, none, .call [] [] (.pv (.int .i64 y7)) [] []), (10, none, .row (Vertex.enc a9)), (12, none, .call [] [] (.pv (.int .i64 y12)) [] [])]]) (kt := [0, 1, 5, 25]) (ko := []) (k' := [.code (sub b62 [1, 0, 1, 0, 0, 1, 0, 0, 1]), .inBlock 1, .code (sub b62 [1, 0, 1, 0, 0, 1, 1]), .inLoop (sub b62 [1, 0, 1, 0, 0]), .inBlock 0, .code (sub b62 [1, 1])]) (σ' := ⟨26, [(0, .pv (.sl (c2.map Vertex.enc))), (1, .clo 63 []), (5, .pv (.int .i64 s)), (25, .pv (.bool (decide (y7 ≥ y12))))], []⟩) (ps := [AV.pv (.int .i64 ((c2.map Vertex.enc).length : Nat)) = .pv (.int .i64 (c2.length : Nat)), (decide (s < ((c2.length : Nat) : Int))) = true, 0 ≤ ((IntKind.i64.wrap (s - 1)) : Int), (c2.map Vertex.enc)[((IntKind.i64.wrap (s - 1)) : Int).toNat]? = some (Vertex.enc a4), (Vertex.enc a4).length = 2, Spec Try.prog 63 [.aggp [.int .i64 a4.ID, .int .i64 a4.Side]] [] (.pv (.int .i64 y7)) [], 0 ≤ (s : Int), (c2.map Vertex.enc)[(s : Int).toNat]? = some (Vertex.enc a9), (Vertex.enc a9).length = 2, Spec Try.prog 63 [.aggp [.int .i64 a9.ID, .int .i64 a9.Side]] [] (.pv (.int .i64 y12)) []])
   (by kernel_rfl) ⟨lenOb, h3, h5, rowOb h6, rfl, graph_vertexID.ok a4 e8, h10, rowOb h11, rfl, graph_vertexID.ok a9 e13, trivial⟩ ?_
  refine br_ok hx (fun h14 hx => ?_) (fun h14 hx => ?_)
  ·obtain rfl := sI hx
   exact WK.run (an := [.br true, .reg []]) (kt := [4]) (ko := []) (ps := [(decide (y7 ≥ y12)) = true]) (by kernel_rfl) ⟨h14, trivial⟩ hn
  ·obtain rfl := sI hx
   exact WK.run (an := [.br false, .reg []]) (kt := [0, 1, 5]) (ko := []) (ps := [(decide (y7 ≥ y12)) = false]) (by kernel_rfl) ⟨h14, trivial⟩ hn
 ·obtain rfl := sI hx
  exact WK.run (an := [.lp, .reg [(2, none, .val (.pv (.int .i64 ((c2.length : Nat) : Int))))], .br false]) (kt := []) (ko := []) (ps := [AV.pv (.int .i64 ((c2.map Vertex.enc).length : Nat)) = .pv (.int .i64 (c2.length : Nat)), (decide (s < ((c2.length : Nat) : Int))) = false]) (by kernel_rfl) ⟨lenOb, h3, trivial⟩ hn
noncomputable def graph_ascendV (v1 : List Vertex) : Option Bool :=
 bd (loopN fuel (graph_ascendV.l0 v1) 1) fun q15 =>
 match q15 with
 | .inl q15 =>
  some false
 | .inr q15 =>
  some true
theorem graph_ascendV.ok (v1 : List Vertex) {x : Bool} (hx : graph_ascendV v1 = some x) :
  Spec Try.prog 62 [.pv (.sl (v1.map Vertex.enc)), .clo 63 []] [] (.pv (.bool x)) [] := by
 refine Spec.of (c := b62) Try.func62 rfl rfl rfl ?_
 unfold graph_ascendV at hx
 refine bd_ok hx fun q15 e16 hx => ?_
 refine WK.run (an := [.reg [], .reg []]) (kt := [0, 1, 5]) (ko := []) (ps := []) (by kernel_rfl) trivial (WK.enterLoop (graph_ascendV.l0.ok v1 _ _ _ _ e16 ?_))
 rcases q15 with (q15 | q15)
 ·obtain rfl := sI hx
  exact WK.fin (fn := Try.f62) Try.func62 (an := []) (kt := [4]) (ko := []) (frz := []) (ps := []) (qs := []) (by kernel_rfl) trivial trivial
 ·obtain rfl := sI hx
  exact WK.fin (fn := Try.f62) Try.func62 (an := [.reg []]) (kt := [4]) (ko := []) (frz := []) (ps := []) (qs := []) (by kernel_rfl) trivial trivial
noncomputable abbrev b65 : Code := body Try.f65
noncomputable def graph_edgeID (v1 : Edge) : Option Int :=
 some v1.ID
theorem graph_edgeID.ok (v1 : Edge) {x : Int} (hx : graph_edgeID v1 = some x) :
  Spec Try.prog 65 [.aggp [.int .i64 v1.ID, .int .i64 v1.From, .int .i64 v1.To, .bool v1.Directed, .int .i64 v1.Weight, .int .i64 v1.Cap]] [] (.pv (.int .i64 x)) [] := by
 refine Spec.of (c := b65) Try.func65 rfl rfl rfl ?_
 unfold graph_edgeID at hx
 obtain rfl := sI hx
 exact WK.fin (fn := Try.f65) Try.func65 (an := [.reg [(0, none, .nm 1003)], .reg []]) (kt := [2]) (ko := []) (frz := []) (ps := []) (qs := []) (by kernel_rfl) trivial trivial
noncomputable abbrev b64 : Code := body Try.f64
noncomputable def graph_ascendE.l0 (c2 : List Edge) (s : Int) : Option (Nx Int (Unit ⊕ Unit)) :=
 br (decide (s < ((c2.length : Nat) : Int))) (
  getR c2 (IntKind.i64.wrap (s - 1)) fun a4 =>
  bd (graph_edgeID a4) fun y7 =>
  getR c2 s fun a9 =>
  bd (graph_edgeID a9) fun y12 =>
  br (decide (y7 ≥ y12)) (
   some (.done (.inl ()))) (
   some (.cont (IntKind.i64.wrap (s + 1))))) (
  some (.done (.inr ())))
abbrev graph_ascendE.l0.enc (c2 : List Edge) (s : Int) : St := ⟨26, [(0, .pv (.sl (c2.map Edge.enc))), (1, .clo 65 []), (5, .pv (.int .i64 s))], []⟩
abbrev graph_ascendE.l0.post (c2 : List Edge) (r : AV) (outs : List AObj) (q : Unit ⊕ Unit) : Prop := match q with | .inl q => WK Try.prog (64, 0) [.code (sub b64 [1, 0, 1, 0, 0, 1, 0, 0, 1, 0, 1]), .inBlock 1, .code (sub b64 [1, 0, 1, 0, 0, 1, 1]), .inLoop (sub b64 [1, 0, 1, 0, 0]), .inBlock 0, .code (sub b64 [1, 1])] ⟨26, [(4, .pv (.bool false))], []⟩ r outs | .inr q => WK Try.prog (64, 0) [.code (sub b64 [1, 1, 0]), .code (sub b64 [1, 1, 1])] ⟨26, [], []⟩ r outs
theorem graph_ascendE.l0.ok (c2 : List Edge) (r : AV) (outs : List AObj) (s : Int) (q : Unit ⊕ Unit) (h : loopN fuel (graph_ascendE.l0 c2) s = some q) (hd : graph_ascendE.l0.post c2 r outs q) :
  WK Try.prog (64, 0) [.inLoop (sub b64 [1, 0, 1, 0, 0]), .inBlock 0, .code (sub b64 [1, 1])] (graph_ascendE.l0.enc c2 s) r outs := by
 refine WK.loop (graph_ascendE.l0.enc c2) (graph_ascendE.l0 c2) (graph_ascendE.l0.post c2 r outs) ?_ fuel s q h hd
 intro s x hx hn
 unfold graph_ascendE.l0 at hx
 refine br_ok hx (fun h3 hx => ?_) (fun h3 hx => ?_)
 ·refine getR_ok hx fun a4 h5 h6 hx => ?_
  refine bd_ok hx fun y7 e8 hx => ?_
  refine getR_ok hx fun a9 h10 h11 hx => ?_
  refine bd_ok hx fun y12 e13 hx => ?_
  refine WK.run (an := [.lp, .reg [(2, none, .val (.pv (.int .i64 ((c2.length : Nat) : Int))))], .br true, .draw [0, 1, 2, 3, 4, 5, 6, 7, 8, 9, 10, 11, 12, 13] [(4, none, .row (Edge.enc a4)), (6, none, .call [] [] (.pv (.int .i64 y7)) [] []), (10, none, .row (Edge.enc a9)), (12, none, .call [] [] (.pv (.int .i64 y12)) [] [])]]) (kt := [0, 1, 5, 25]) (ko := []) (k' := [.code (sub b64 [1, 0, 1, 0, 0, 1, 0, 0, 1]), .inBlock 1, .code (sub b64 [1, 0, 1, 0, 0, 1, 1]), .inLoop (sub b64 [1, 0, 1, 0, 0]), .inBlock 0, .code (sub b64 [1, 1])]) (σ' := ⟨26, [(0, .pv (.sl (c2.map Edge.enc))), (1, .clo 65 []), (5, .pv (.int .i64 s)), (25, .pv (.bool (decide (y7 ≥ y12))))], []⟩) (ps := [AV.pv (.int .i64 ((c2.map Edge.enc).length : Nat)) = .pv (.int .i64 (c2.length : Nat)), (decide (s < ((c2.length : Nat) : Int))) = true, 0 ≤ ((IntKind.i64.wrap (s - 1)) : Int), (c2.map Edge.enc)[((IntKind.i64.wrap (s - 1)) : Int).toNat]? = some (Edge.enc a4), (Edge.enc a4).length = 6, Spec Try.prog 65 [.aggp [.int .i64 a4.ID, .int .i64 a4.From, .int .i64 a4.To, .bool a4.Directed, .int .i64 a4.Weight, .int .i64 a4.Cap]] [] (.pv (.int .i64 y7)) [], 0 ≤ (s : Int), (c2.map Edge.enc)[(s : Int).toNat]? = some (Edge.enc a9), (Edge.enc a9).length = 6, Spec Try.prog 65 [.aggp [.int .i64 a9.ID, .int .i64 a9.From, .int .i64 a9.To, .bool a9.Directed, .int .i64 a9.Weight, .int .i64 a9.Cap]] [] (.pv (.int .i64 y12)) []])
   (by kernel_rfl) ⟨lenOb, h3, h5, rowOb h6, rfl, graph_edgeID.ok a4 e8, h10, rowOb h11, rfl, graph_edgeID.ok a9 e13, trivial⟩ ?_
  refine br_ok hx (fun h14 hx => ?_) (fun h14 hx => ?_)
  ·obtain rfl := sI hx
   exact WK.run (an := [.br true, .reg []]) (kt := [4]) (ko := []) (ps := [(decide (y7 ≥ y12)) = true]) (by kernel_rfl) ⟨h14, trivial⟩ hn
  ·obtain rfl := sI hx
   exact WK.run (an := [.br false, .reg []]) (kt := [0, 1, 5]) (ko := []) (ps := [(decide (y7 ≥ y12)) = false]) (by kernel_rfl) ⟨h14, trivial⟩ hn
 ·obtain rfl := sI hx
  exact WK.run (an := [.lp, .reg [(2, none, .val (.pv (.int .i64 ((c2.length : Nat) : Int))))], .br false]) (kt := []) (ko := []) (ps := [AV.pv (.int .i64 ((c2.map Edge.enc).length : Nat)) = .pv (.int .i64 (c2.length : Nat)), (decide (s < ((c2.length : Nat) : Int))) = false]) (by kernel_rfl) ⟨lenOb, h3, trivial⟩ hn
noncomputable def graph_ascendE (v1 : List Edge) : Option Bool :=
 bd (loopN fuel (graph_ascendE.l0 v1) 1) fun q15 =>
 match q15 with
 | .inl q15 =>
  some false
 | .inr q15 =>
  some true
theorem graph_ascendE.ok (v1 : List Edge) {x : Bool} (hx : graph_ascendE v1 = some x) :
  Spec Try.prog 64 [.pv (.sl (v1.map Edge.enc)), .clo 65 []] [] (.pv (.bool x)) [] := by
 refine Spec.of (c := b64) Try.func64 rfl rfl rfl ?_
 unfold graph_ascendE at hx
 refine bd_ok hx fun q15 e16 hx => ?_
 refine WK.run (an := [.reg [], .reg []]) (kt := [0, 1, 5]) (ko := []) (ps := []) (by kernel_rfl) trivial (WK.enterLoop (graph_ascendE.l0.ok v1 _ _ _ _ e16 ?_))
 rcases q15 with (q15 | q15)
 ·obtain rfl := sI hx
  exact WK.fin (fn := Try.f64) Try.func64 (an := []) (kt := [4]) (ko := []) (frz := []) (ps := []) (qs := []) (by kernel_rfl) trivial trivial
 ·obtain rfl := sI hx
  exact WK.fin (fn := Try.f64) Try.func64 (an := [.reg []]) (kt := [4]) (ko := []) (frz := []) (ps := []) (qs := []) (by kernel_rfl) trivial trivial
noncomputable abbrev b86 : Code := body Try.f86
noncomputable def graph_isIn (v1 : Int) (v2 : Int) (v3 : Int) : Option Bool :=
 br (decide (v2 ≤ v1)) (
  some (decide (v1 ≤ v3))) (
  some false)
theorem graph_isIn.ok (v1 : Int) (v2 : Int) (v3 : Int) {x : Bool} (hx : graph_isIn v1 v2 v3 = some x) :
  Spec Try.prog 86 [.pv (.int .i64 v1), .pv (.int .i64 v2), .pv (.int .i64 v3)] [] (.pv (.bool x)) [] := by
 refine Spec.of (c := b86) Try.func86 rfl rfl rfl ?_
 unfold graph_isIn at hx
 refine br_ok hx (fun h4 hx => ?_) (fun h4 hx => ?_)
 ·obtain rfl := sI hx
  exact WK.fin (fn := Try.f86) Try.func86 (an := [.reg [], .reg [(4, some true, .no)]]) (kt := [6]) (ko := []) (frz := []) (ps := [(decide (v2 ≤ v1)) = true]) (qs := []) (by kernel_rfl) ⟨h4, trivial⟩ trivial
 ·obtain rfl := sI hx
  exact WK.fin (fn := Try.f86) Try.func86 (an := [.reg [], .reg [(4, some false, .no)]]) (kt := [6]) (ko := []) (frz := []) (ps := [(decide (v2 ≤ v1)) = false]) (qs := []) (by kernel_rfl) ⟨h4, trivial⟩ trivial
noncomputable abbrev b71 : Code := body Try.f71
noncomputable def graph_isVertex (v1 : Vertex) : Option Bool :=
 bd (graph_isIn v1.ID 0 23) fun y2 =>
 br y2 (
  bd (graph_isIn v1.Side 0 3) fun y5 =>
  some y5) (
  some false)
theorem graph_isVertex.ok (v1 : Vertex) {x : Bool} (hx : graph_isVertex v1 = some x) :
  Spec Try.prog 71 [.aggp [.int .i64 v1.ID, .int .i64 v1.Side]] [] (.pv (.bool x)) [] := by
 refine Spec.of (c := b71) Try.func71 rfl rfl rfl ?_
 unfold graph_isVertex at hx
 refine bd_ok hx fun y2 e3 hx => ?_
 refine br_ok hx (fun h4 hx => ?_) (fun h4 hx => ?_)
 ·refine bd_ok hx fun y5 e6 hx => ?_
  obtain rfl := sI hx
  exact WK.fin (fn := Try.f71) Try.func71 (an := [.reg [(0, none, .nm 1003)], .reg [(2, none, .call [] [] (.pv (.bool y2)) [] []), (4, some true, .no), (6, none, .call [] [] (.pv (.bool y5)) [] [])]]) (kt := [2]) (ko := []) (frz := []) (ps := [Spec Try.prog 86 [.pv (.int .i64 v1.ID), .pv (.int .i64 0), .pv (.int .i64 23)] [] (.pv (.bool y2)) [], y2 = true, Spec Try.prog 86 [.pv (.int .i64 v1.Side), .pv (.int .i64 0), .pv (.int .i64 3)] [] (.pv (.bool y5)) []]) (qs := []) (by kernel_rfl) ⟨graph_isIn.ok v1.ID 0 23 e3, h4, graph_isIn.ok v1.Side 0 3 e6, trivial⟩ trivial
 ·obtain rfl := sI hx
  exact WK.fin (fn := Try.f71) Try.func71 (an := [.reg [(0, none, .nm 1003)], .reg [(2, none, .call [] [] (.pv (.bool y2)) [] []), (4, some false, .no)]]) (kt := [2]) (ko := []) (frz := []) (ps := [Spec Try.prog 86 [.pv (.int .i64 v1.ID), .pv (.int .i64 0), .pv (.int .i64 23)] [] (.pv (.bool y2)) [], y2 = false]) (qs := []) (by kernel_rfl) ⟨graph_isIn.ok v1.ID 0 23 e3, h4, trivial⟩ trivial
noncomputable abbrev b70 : Code := body Try.f70
noncomputable def graph_Valid_2 (v1 : Vertex) : Option Bool :=
 bd (graph_isVertex v1) fun y2 =>
 some (!y2)
theorem graph_Valid_2.ok (v1 : Vertex) {x : Bool} (hx : graph_Valid_2 v1 = some x) :
  Spec Try.prog 70 [.aggp [.int .i64 v1.ID, .int .i64 v1.Side]] [] (.pv (.bool x)) [] := by
 refine Spec.of (c := b70) Try.func70 rfl rfl rfl ?_
 unfold graph_Valid_2 at hx
 refine bd_ok hx fun y2 e3 hx => ?_
 obtain rfl := sI hx
 exact WK.fin (fn := Try.f70) Try.func70 (an := [.reg [(0, none, .nm 1003)], .reg [(1, none, .call [] [] (.pv (.bool y2)) [] [])]]) (kt := [2]) (ko := []) (frz := []) (ps := [Spec Try.prog 71 [.aggp [.int .i64 v1.ID, .int .i64 v1.Side]] [] (.pv (.bool y2)) []]) (qs := []) (by kernel_rfl) ⟨graph_isVertex.ok v1 e3, trivial⟩ trivial
noncomputable abbrev b88 : Code := body Try.f88
noncomputable def sIndexFuncVV.l0 (c2 : List Vertex) (c3 : Int) (s : Int) : Option (Nx Int (Int ⊕ Unit)) :=
 br (decide (s < c3)) (
  getR c2 s fun a5 =>
  bd (graph_Valid_2 a5) fun y8 =>
  br y8 (
   some (.done (.inl s))) (
   some (.cont (IntKind.i64.wrap (s + 1))))) (
  some (.done (.inr ())))
abbrev sIndexFuncVV.l0.enc (c2 : List Vertex) (c3 : Int) (s : Int) : St := ⟨19, [(0, .pv (.sl (c2.map Vertex.enc))), (1, .clo 70 []), (7, .pv (.int .i64 c3)), (8, .pv (.int .i64 s))], []⟩
abbrev sIndexFuncVV.l0.post (c2 : List Vertex) (c3 : Int) (r : AV) (outs : List AObj) (q : Int ⊕ Unit) : Prop := match q with | .inl q => WK Try.prog (88, 0) [.code (sub b88 [1, 0, 1, 0, 0, 1, 1, 0, 0, 1, 1, 0, 1]), .inBlock 1, .code (sub b88 [1, 0, 1, 0, 0, 1, 1, 1]), .inLoop (sub b88 [1, 0, 1, 0, 0]), .inBlock 0, .code (sub b88 [1, 1])] ⟨19, [(4, .pv (.int .i64 q))], []⟩ r outs | .inr q => WK Try.prog (88, 0) [.code (sub b88 [1, 1, 0]), .code (sub b88 [1, 1, 1])] ⟨19, [], []⟩ r outs
theorem sIndexFuncVV.l0.ok (c2 : List Vertex) (c3 : Int) (r : AV) (outs : List AObj) (s : Int) (q : Int ⊕ Unit) (h : loopN fuel (sIndexFuncVV.l0 c2 c3) s = some q) (hd : sIndexFuncVV.l0.post c2 c3 r outs q) :
  WK Try.prog (88, 0) [.inLoop (sub b88 [1, 0, 1, 0, 0]), .inBlock 0, .code (sub b88 [1, 1])] (sIndexFuncVV.l0.enc c2 c3 s) r outs := by
 refine WK.loop (sIndexFuncVV.l0.enc c2 c3) (sIndexFuncVV.l0 c2 c3) (sIndexFuncVV.l0.post c2 c3 r outs) ?_ fuel s q h hd
 intro s x hx hn
 unfold sIndexFuncVV.l0 at hx
 refine br_ok hx (fun h4 hx => ?_) (fun h4 hx => ?_)
 ·refine getR_ok hx fun a5 h6 h7 hx => ?_
  refine bd_ok hx fun y8 e9 hx => ?_
  refine br_ok hx (fun h10 hx => ?_) (fun h10 hx => ?_)
  ·obtain rfl := sI hx
   exact WK.run (an := [.lp, .reg [], .br true, .reg [], .reg [(3, none, .row (Vertex.enc a5)), (5, none, .call [] [] (.pv (.bool y8)) [] [])], .br true, .reg []]) (kt := [4]) (ko := []) (ps := [(decide (s < c3)) = true, 0 ≤ (s : Int), (c2.map Vertex.enc)[(s : Int).toNat]? = some (Vertex.enc a5), (Vertex.enc a5).length = 2, Spec Try.prog 70 [.aggp [.int .i64 a5.ID, .int .i64 a5.Side]] [] (.pv (.bool y8)) [], y8 = true]) (by kernel_rfl) ⟨h4, h6, rowOb h7, rfl, graph_Valid_2.ok a5 e9, h10, trivial⟩ hn
  ·obtain rfl := sI hx
   exact WK.run (an := [.lp, .reg [], .br true, .reg [], .reg [(3, none, .row (Vertex.enc a5)), (5, none, .call [] [] (.pv (.bool y8)) [] [])], .br false, .reg []]) (kt := [0, 1, 7, 8]) (ko := []) (ps := [(decide (s < c3)) = true, 0 ≤ (s : Int), (c2.map Vertex.enc)[(s : Int).toNat]? = some (Vertex.enc a5), (Vertex.enc a5).length = 2, Spec Try.prog 70 [.aggp [.int .i64 a5.ID, .int .i64 a5.Side]] [] (.pv (.bool y8)) [], y8 = false]) (by kernel_rfl) ⟨h4, h6, rowOb h7, rfl, graph_Valid_2.ok a5 e9, h10, trivial⟩ hn
 ·obtain rfl := sI hx
  exact WK.run (an := [.lp, .reg [], .br false]) (kt := []) (ko := []) (ps := [(decide (s < c3)) = false]) (by kernel_rfl) ⟨h4, trivial⟩ hn
noncomputable def sIndexFuncVV (v1 : List Vertex) : Option Int :=
 bd (loopN fuel (sIndexFuncVV.l0 v1 ((v1.length : Nat) : Int)) 0) fun q11 =>
 match q11 with
 | .inl q11 =>
  some q11
 | .inr q11 =>
  some (-1)
theorem sIndexFuncVV.ok (v1 : List Vertex) {x : Int} (hx : sIndexFuncVV v1 = some x) :
  Spec Try.prog 88 [.pv (.sl (v1.map Vertex.enc)), .clo 70 []] [] (.pv (.int .i64 x)) [] := by
 refine Spec.of (c := b88) Try.func88 rfl rfl rfl ?_
 unfold sIndexFuncVV at hx
 refine bd_ok hx fun q11 e12 hx => ?_
 refine WK.run (an := [.reg [], .reg [(1, none, .val (.pv (.int .i64 ((v1.length : Nat) : Int))))]]) (kt := [0, 1, 7, 8]) (ko := []) (ps := [AV.pv (.int .i64 ((v1.map Vertex.enc).length : Nat)) = .pv (.int .i64 (v1.length : Nat))]) (by kernel_rfl) ⟨lenOb, trivial⟩ (WK.enterLoop (sIndexFuncVV.l0.ok v1 ((v1.length : Nat) : Int) _ _ _ _ e12 ?_))
 rcases q11 with (q11 | q11)
 ·obtain rfl := sI hx
  exact WK.fin (fn := Try.f88) Try.func88 (an := []) (kt := [4]) (ko := []) (frz := []) (ps := []) (qs := []) (by kernel_rfl) trivial trivial
 ·obtain rfl := sI hx
  exact WK.fin (fn := Try.f88) Try.func88 (an := [.reg []]) (kt := [4]) (ko := []) (frz := []) (ps := []) (qs := []) (by kernel_rfl) trivial trivial
noncomputable abbrev b69 : Code := body Try.f69
noncomputable def sContainsFuncVV (v1 : List Vertex) : Option Bool :=
 bd (sIndexFuncVV v1) fun y2 =>
 some (decide (y2 ≥ 0))
theorem sContainsFuncVV.ok (v1 : List Vertex) {x : Bool} (hx : sContainsFuncVV v1 = some x) :
  Spec Try.prog 69 [.pv (.sl (v1.map Vertex.enc)), .clo 70 []] [] (.pv (.bool x)) [] := by
 refine Spec.of (c := b69) Try.func69 rfl rfl rfl ?_
 unfold sContainsFuncVV at hx
 refine bd_ok hx fun y2 e3 hx => ?_
 obtain rfl := sI hx
 exact WK.fin (fn := Try.f69) Try.func69 (an := [.reg [], .reg [(2, none, .call [] [] (.pv (.int .i64 y2)) [] [])]]) (kt := [4]) (ko := []) (frz := []) (ps := [Spec Try.prog 88 [.pv (.sl (v1.map Vertex.enc)), .clo 70 []] [] (.pv (.int .i64 y2)) []]) (qs := []) (by kernel_rfl) ⟨sIndexFuncVV.ok v1 e3, trivial⟩ trivial
noncomputable abbrev b67 : Code := body Try.f67
noncomputable def graph_isEdge (v1 : Edge) : Option Bool :=
 bd (graph_isIn v1.ID 0 39) fun y2 =>
 br y2 (
  bd (graph_isIn v1.From 0 23) fun y5 =>
  br y5 (
   bd (graph_isIn v1.To 0 23) fun y10 =>
   br y10 (
    bd (graph_isIn v1.Weight (-1000) 1000) fun y13 =>
    br y13 (
     bd (graph_isIn v1.Cap 0 1000) fun y18 =>
     some y18) (
     some false)) (
    some false)) (
   some false)) (
  some false)
theorem graph_isEdge.ok (v1 : Edge) {x : Bool} (hx : graph_isEdge v1 = some x) :
  Spec Try.prog 67 [.aggp [.int .i64 v1.ID, .int .i64 v1.From, .int .i64 v1.To, .bool v1.Directed, .int .i64 v1.Weight, .int .i64 v1.Cap]] [] (.pv (.bool x)) [] := by
 refine Spec.of (c := b67) Try.func67 rfl rfl rfl ?_
 unfold graph_isEdge at hx
 refine bd_ok hx fun y2 e3 hx => ?_
 refine br_ok hx (fun h4 hx => ?_) (fun h4 hx => ?_)
 ·refine bd_ok hx fun y5 e6 hx => ?_
  let Q7 : List Prop := [Spec Try.prog 86 [.pv (.int .i64 v1.ID), .pv (.int .i64 0), .pv (.int .i64 39)] [] (.pv (.bool y2)) [], y2 = true, Spec Try.prog 86 [.pv (.int .i64 v1.From), .pv (.int .i64 0), .pv (.int .i64 23)] [] (.pv (.bool y5)) []]
  have k8 : All Q7 := ⟨graph_isIn.ok v1.ID 0 39 e3, h4, graph_isIn.ok v1.From 0 23 e6, trivial⟩
  refine br_ok hx (fun h9 hx => ?_) (fun h9 hx => ?_)
  ·refine bd_ok hx fun y10 e11 hx => ?_
   refine br_ok hx (fun h12 hx => ?_) (fun h12 hx => ?_)
   ·refine bd_ok hx fun y13 e14 hx => ?_
    let Q15 : List Prop := (Q7 ++ [y5 = true, Spec Try.prog 86 [.pv (.int .i64 v1.To), .pv (.int .i64 0), .pv (.int .i64 23)] [] (.pv (.bool y10)) [], y10 = true, Spec Try.prog 86 [.pv (.int .i64 v1.Weight), .pv (.int .i64 (-1000)), .pv (.int .i64 1000)] [] (.pv (.bool y13)) []])
    have k16 : All Q15 := (All_append.2 ⟨k8, ⟨h9, graph_isIn.ok v1.To 0 23 e11, h12, graph_isIn.ok v1.Weight (-1000) 1000 e14, trivial⟩⟩)
    refine br_ok hx (fun h17 hx => ?_) (fun h17 hx => ?_)
    ·refine bd_ok hx fun y18 e19 hx => ?_
     obtain rfl := sI hx
     exact WK.fin (fn := Try.f67) Try.func67 (an := [.reg [(0, none, .nm 1003)], .reg [(2, none, .call [] [] (.pv (.bool y2)) [] []), (4, some true, .no), (6, none, .call [] [] (.pv (.bool y5)) [] []), (9, some true, .no), (11, none, .call [] [] (.pv (.bool y10)) [] []), (14, some true, .no), (16, none, .call [] [] (.pv (.bool y13)) [] []), (19, some true, .no), (21, none, .call [] [] (.pv (.bool y18)) [] [])]]) (kt := [2]) (ko := []) (frz := []) (ps := (Q15 ++ [y13 = true, Spec Try.prog 86 [.pv (.int .i64 v1.Cap), .pv (.int .i64 0), .pv (.int .i64 1000)] [] (.pv (.bool y18)) []])) (qs := []) (by kernel_rfl) (All_append.2 ⟨k16, ⟨h17, graph_isIn.ok v1.Cap 0 1000 e19, trivial⟩⟩) trivial
    ·obtain rfl := sI hx
     exact WK.fin (fn := Try.f67) Try.func67 (an := [.reg [(0, none, .nm 1003)], .reg [(2, none, .call [] [] (.pv (.bool y2)) [] []), (4, some true, .no), (6, none, .call [] [] (.pv (.bool y5)) [] []), (9, some true, .no), (11, none, .call [] [] (.pv (.bool y10)) [] []), (14, some true, .no), (16, none, .call [] [] (.pv (.bool y13)) [] []), (19, some false, .no)]]) (kt := [2]) (ko := []) (frz := []) (ps := (Q15 ++ [y13 = false])) (qs := []) (by kernel_rfl) (All_append.2 ⟨k16, ⟨h17, trivial⟩⟩) trivial
   ·obtain rfl := sI hx
    exact WK.fin (fn := Try.f67) Try.func67 (an := [.reg [(0, none, .nm 1003)], .reg [(2, none, .call [] [] (.pv (.bool y2)) [] []), (4, some true, .no), (6, none, .call [] [] (.pv (.bool y5)) [] []), (9, some true, .no), (11, none, .call [] [] (.pv (.bool y10)) [] []), (14, some false, .no)]]) (kt := [2]) (ko := []) (frz := []) (ps := (Q7 ++ [y5 = true, Spec Try.prog 86 [.pv (.int .i64 v1.To), .pv (.int .i64 0), .pv (.int .i64 23)] [] (.pv (.bool y10)) [], y10 = false])) (qs := []) (by kernel_rfl) (All_append.2 ⟨k8, ⟨h9, graph_isIn.ok v1.To 0 23 e11, h12, trivial⟩⟩) trivial
  ·obtain rfl := sI hx
   exact WK.fin (fn := Try.f67) Try.func67 (an := [.reg [(0, none, .nm 1003)], .reg [(2, none, .call [] [] (.pv (.bool y2)) [] []), (4, some true, .no), (6, none, .call [] [] (.pv (.bool y5)) [] []), (9, some false, .no)]]) (kt := [2]) (ko := []) (frz := []) (ps := (Q7 ++ [y5 = false])) (qs := []) (by kernel_rfl) (All_append.2 ⟨k8, ⟨h9, trivial⟩⟩) trivial
 ·obtain rfl := sI hx
  exact WK.fin (fn := Try.f67) Try.func67 (an := [.reg [(0, none, .nm 1003)], .reg [(2, none, .call [] [] (.pv (.bool y2)) [] []), (4, some false, .no)]]) (kt := [2]) (ko := []) (frz := []) (ps := [Spec Try.prog 86 [.pv (.int .i64 v1.ID), .pv (.int .i64 0), .pv (.int .i64 39)] [] (.pv (.bool y2)) [], y2 = false]) (qs := []) (by kernel_rfl) ⟨graph_isIn.ok v1.ID 0 39 e3, h4, trivial⟩ trivial
noncomputable abbrev b104 : Code := body Try.f104
noncomputable def cmp_isNaN_int (v1 : Int) : Option Bool :=
 some (v1 != v1)
theorem cmp_isNaN_int.ok (v1 : Int) {x : Bool} (hx : cmp_isNaN_int v1 = some x) :
  Spec Try.prog 104 [.pv (.int .i64 v1)] [] (.pv (.bool x)) [] := by
 refine Spec.of (c := b104) Try.func104 rfl rfl rfl ?_
 unfold cmp_isNaN_int at hx
 obtain rfl := sI hx
 exact WK.fin (fn := Try.f104) Try.func104 (an := [.reg [], .reg []]) (kt := [2]) (ko := []) (frz := []) (ps := []) (qs := []) (by kernel_rfl) trivial trivial
noncomputable abbrev b101 : Code := body Try.f101
noncomputable def cmp_Compare_int (v1 : Int) (v2 : Int) : Option Int :=
 bd (cmp_isNaN_int v1) fun y3 =>
 bd (cmp_isNaN_int v2) fun y5 =>
 br y3 (
  br y5 (
   some 0) (
   some (-1))) (
  br y5 (
   some 1) (
   br (decide (v1 < v2)) (
    some (-1)) (
    br (decide (v1 > v2)) (
     some 1) (
     some 0))))
theorem cmp_Compare_int.ok (v1 : Int) (v2 : Int) {x : Int} (hx : cmp_Compare_int v1 v2 = some x) :
  Spec Try.prog 101 [.pv (.int .i64 v1), .pv (.int .i64 v2)] [] (.pv (.int .i64 x)) [] := by
 refine Spec.of (c := b101) Try.func101 rfl rfl rfl ?_
 unfold cmp_Compare_int at hx
 refine bd_ok hx fun y3 e4 hx => ?_
 refine bd_ok hx fun y5 e6 hx => ?_
 refine br_ok hx (fun h7 hx => ?_) (fun h7 hx => ?_)
 ·refine br_ok hx (fun h8 hx => ?_) (fun h8 hx => ?_)
  ·obtain rfl := sI hx
   exact WK.fin (fn := Try.f101) Try.func101 (an := [.reg [], .reg [(1, none, .call [] [] (.pv (.bool y3)) [] [])], .reg [(1, none, .call [] [] (.pv (.bool y5)) [] [])], .reg [], .br true, .reg [], .br true, .reg []]) (kt := [4]) (ko := []) (frz := []) (ps := [Spec Try.prog 104 [.pv (.int .i64 v1)] [] (.pv (.bool y3)) [], Spec Try.prog 104 [.pv (.int .i64 v2)] [] (.pv (.bool y5)) [], y3 = true, y5 = true]) (qs := []) (by kernel_rfl) ⟨cmp_isNaN_int.ok v1 e4, cmp_isNaN_int.ok v2 e6, h7, h8, trivial⟩ trivial
  ·obtain rfl := sI hx
   exact WK.fin (fn := Try.f101) Try.func101 (an := [.reg [], .reg [(1, none, .call [] [] (.pv (.bool y3)) [] [])], .reg [(1, none, .call [] [] (.pv (.bool y5)) [] [])], .reg [], .br true, .reg [], .br false, .reg []]) (kt := [4]) (ko := []) (frz := []) (ps := [Spec Try.prog 104 [.pv (.int .i64 v1)] [] (.pv (.bool y3)) [], Spec Try.prog 104 [.pv (.int .i64 v2)] [] (.pv (.bool y5)) [], y3 = true, y5 = false]) (qs := []) (by kernel_rfl) ⟨cmp_isNaN_int.ok v1 e4, cmp_isNaN_int.ok v2 e6, h7, h8, trivial⟩ trivial
 ·refine br_ok hx (fun h9 hx => ?_) (fun h9 hx => ?_)
  ·obtain rfl := sI hx
   exact WK.fin (fn := Try.f101) Try.func101 (an := [.reg [], .reg [(1, none, .call [] [] (.pv (.bool y3)) [] [])], .reg [(1, none, .call [] [] (.pv (.bool y5)) [] [])], .reg [], .br false, .reg [], .br true, .reg []]) (kt := [4]) (ko := []) (frz := []) (ps := [Spec Try.prog 104 [.pv (.int .i64 v1)] [] (.pv (.bool y3)) [], Spec Try.prog 104 [.pv (.int .i64 v2)] [] (.pv (.bool y5)) [], y3 = false, y5 = true]) (qs := []) (by kernel_rfl) ⟨cmp_isNaN_int.ok v1 e4, cmp_isNaN_int.ok v2 e6, h7, h9, trivial⟩ trivial
  ·refine br_ok hx (fun h10 hx => ?_) (fun h10 hx => ?_)
   ·obtain rfl := sI hx
    exact WK.fin (fn := Try.f101) Try.func101 (an := [.reg [], .reg [(1, none, .call [] [] (.pv (.bool y3)) [] [])], .reg [(1, none, .call [] [] (.pv (.bool y5)) [] [])], .reg [], .br false, .reg [], .br false, .reg [], .br true, .reg []]) (kt := [4]) (ko := []) (frz := []) (ps := [Spec Try.prog 104 [.pv (.int .i64 v1)] [] (.pv (.bool y3)) [], Spec Try.prog 104 [.pv (.int .i64 v2)] [] (.pv (.bool y5)) [], y3 = false, y5 = false, (decide (v1 < v2)) = true]) (qs := []) (by kernel_rfl) ⟨cmp_isNaN_int.ok v1 e4, cmp_isNaN_int.ok v2 e6, h7, h9, h10, trivial⟩ trivial
   ·refine br_ok hx (fun h11 hx => ?_) (fun h11 hx => ?_)
    ·obtain rfl := sI hx
     exact WK.fin (fn := Try.f101) Try.func101 (an := [.reg [], .reg [(1, none, .call [] [] (.pv (.bool y3)) [] [])], .reg [(1, none, .call [] [] (.pv (.bool y5)) [] [])], .reg [], .br false, .reg [], .br false, .reg [], .br false, .reg [], .br true, .reg []]) (kt := [4]) (ko := []) (frz := []) (ps := [Spec Try.prog 104 [.pv (.int .i64 v1)] [] (.pv (.bool y3)) [], Spec Try.prog 104 [.pv (.int .i64 v2)] [] (.pv (.bool y5)) [], y3 = false, y5 = false, (decide (v1 < v2)) = false, (decide (v1 > v2)) = true]) (qs := []) (by kernel_rfl) ⟨cmp_isNaN_int.ok v1 e4, cmp_isNaN_int.ok v2 e6, h7, h9, h10, h11, trivial⟩ trivial
    ·obtain rfl := sI hx
     exact WK.fin (fn := Try.f101) Try.func101 (an := [.reg [], .reg [(1, none, .call [] [] (.pv (.bool y3)) [] [])], .reg [(1, none, .call [] [] (.pv (.bool y5)) [] [])], .reg [], .br false, .reg [], .br false, .reg [], .br false, .reg [], .br false, .reg []]) (kt := [4]) (ko := []) (frz := []) (ps := [Spec Try.prog 104 [.pv (.int .i64 v1)] [] (.pv (.bool y3)) [], Spec Try.prog 104 [.pv (.int .i64 v2)] [] (.pv (.bool y5)) [], y3 = false, y5 = false, (decide (v1 < v2)) = false, (decide (v1 > v2)) = false]) (qs := []) (by kernel_rfl) ⟨cmp_isNaN_int.ok v1 e4, cmp_isNaN_int.ok v2 e6, h7, h9, h10, h11, trivial⟩ trivial
noncomputable abbrev b100 : Code := body Try.f100
noncomputable def graph_change_vertex_1 (v1 : Vertex) (v2 : Int) : Option Int :=
 bd (cmp_Compare_int v1.ID v2) fun y3 =>
 some y3
theorem graph_change_vertex_1.ok (v1 : Vertex) (v2 : Int) {x : Int} (hx : graph_change_vertex_1 v1 v2 = some x) :
  Spec Try.prog 100 [.aggp [.int .i64 v1.ID, .int .i64 v1.Side], .pv (.int .i64 v2)] [] (.pv (.int .i64 x)) [] := by
 refine Spec.of (c := b100) Try.func100 rfl rfl rfl ?_
 unfold graph_change_vertex_1 at hx
 refine bd_ok hx fun y3 e4 hx => ?_
 obtain rfl := sI hx
 exact WK.fin (fn := Try.f100) Try.func100 (an := [.reg [(0, none, .nm 1003)], .reg [(3, none, .call [] [] (.pv (.int .i64 y3)) [] [])]]) (kt := [4]) (ko := []) (frz := []) (ps := [Spec Try.prog 101 [.pv (.int .i64 v1.ID), .pv (.int .i64 v2)] [] (.pv (.int .i64 y3)) []]) (qs := []) (by kernel_rfl) ⟨cmp_Compare_int.ok v1.ID v2 e4, trivial⟩ trivial
noncomputable abbrev b99 : Code := body Try.f99
noncomputable def sBinarySearchFuncVV_int.l0 (c3 : List Vertex) (c4 : Int) (c5 : Int) (s : Int × Int) : Option (Nx (Int × Int) Int) :=
 br (decide (s.1 < s.2)) (
  getR c3 (IntKind.i64.wrap ((IntKind.u64.wrap (IntKind.i64.wrap (s.1 + s.2))).fdiv (2 ^ (min (1 : Int).toNat IntKind.u64.bits)))) fun a7 =>
  bd (graph_change_vertex_1 a7 c4) fun y10 =>
  br (decide (y10 < 0)) (
   some (.cont ((IntKind.i64.wrap ((IntKind.i64.wrap ((IntKind.u64.wrap (IntKind.i64.wrap (s.1 + s.2))).fdiv (2 ^ (min (1 : Int).toNat IntKind.u64.bits)))) + 1)), s.2))) (
   some (.cont (s.1, (IntKind.i64.wrap ((IntKind.u64.wrap (IntKind.i64.wrap (s.1 + s.2))).fdiv (2 ^ (min (1 : Int).toNat IntKind.u64.bits)))))))) (
  some (.done s.1))
abbrev sBinarySearchFuncVV_int.l0.enc (c3 : List Vertex) (c4 : Int) (c5 : Int) (s : Int × Int) : St := ⟨49, [(0, .pv (.sl (c3.map Vertex.enc))), (1, .pv (.int .i64 c4)), (2, .clo 100 []), (8, .pv (.int .i64 c5)), (9, .pv (.int .i64 s.1)), (10, .pv (.int .i64 s.2))], []⟩
abbrev sBinarySearchFuncVV_int.l0.post (c3 : List Vertex) (c4 : Int) (c5 : Int) (r : AV) (outs : List AObj) (q : Int) : Prop := WK Try.prog (99, 0) [.code (sub b99 [1, 1, 1, 1, 0]), .code (sub b99 [1, 1, 1, 1, 1])] ⟨49, [(0, .pv (.sl (c3.map Vertex.enc))), (1, .pv (.int .i64 c4)), (2, .clo 100 []), (8, .pv (.int .i64 c5)), (9, .pv (.int .i64 q))], []⟩ r outs
theorem sBinarySearchFuncVV_int.l0.ok (c3 : List Vertex) (c4 : Int) (c5 : Int) (r : AV) (outs : List AObj) (s : Int × Int) (q : Int) (h : loopN fuel (sBinarySearchFuncVV_int.l0 c3 c4 c5) s = some q) (hd : sBinarySearchFuncVV_int.l0.post c3 c4 c5 r outs q) :
  WK Try.prog (99, 0) [.inLoop (sub b99 [1, 1, 1, 0, 0, 0]), .inBlock 0, .code (sub b99 [1, 1, 1, 1])] (sBinarySearchFuncVV_int.l0.enc c3 c4 c5 s) r outs := by
 refine WK.loop (sBinarySearchFuncVV_int.l0.enc c3 c4 c5) (sBinarySearchFuncVV_int.l0 c3 c4 c5) (sBinarySearchFuncVV_int.l0.post c3 c4 c5 r outs) ?_ fuel s q h hd
 intro s x hx hn
 unfold sBinarySearchFuncVV_int.l0 at hx
 refine br_ok hx (fun h6 hx => ?_) (fun h6 hx => ?_)
 ·refine getR_ok hx fun a7 h8 h9 hx => ?_
  refine bd_ok hx fun y10 e11 hx => ?_
  let Q12 : List Prop := [(decide (s.1 < s.2)) = true, 0 ≤ (1 : Int), 0 ≤ ((IntKind.i64.wrap ((IntKind.u64.wrap (IntKind.i64.wrap (s.1 + s.2))).fdiv (2 ^ (min (1 : Int).toNat IntKind.u64.bits)))) : Int), (c3.map Vertex.enc)[((IntKind.i64.wrap ((IntKind.u64.wrap (IntKind.i64.wrap (s.1 + s.2))).fdiv (2 ^ (min (1 : Int).toNat IntKind.u64.bits)))) : Int).toNat]? = some (Vertex.enc a7), (Vertex.enc a7).length = 2, Spec Try.prog 100 [.aggp [.int .i64 a7.ID, .int .i64 a7.Side], .pv (.int .i64 c4)] [] (.pv (.int .i64 y10)) []]
  have k13 : All Q12 := ⟨h6, by decide, h8, rowOb h9, rfl, graph_change_vertex_1.ok a7 c4 e11, trivial⟩
  refine br_ok hx (fun h14 hx => ?_) (fun h14 hx => ?_)
  ·obtain rfl := sI hx
   exact WK.run (an := [.lp, .reg [], .br true, .reg [], .reg [(3, none, .row (Vertex.enc a7)), (6, none, .call [] [] (.pv (.int .i64 y10)) [] [])], .br true, .reg []]) (kt := [0, 1, 2, 8, 9, 10]) (ko := []) (ps := (Q12 ++ [(decide (y10 < 0)) = true])) (by kernel_rfl) (All_append.2 ⟨k13, ⟨h14, trivial⟩⟩) hn
  ·obtain rfl := sI hx
   exact WK.run (an := [.lp, .reg [], .br true, .reg [], .reg [(3, none, .row (Vertex.enc a7)), (6, none, .call [] [] (.pv (.int .i64 y10)) [] [])], .br false, .reg []]) (kt := [0, 1, 2, 8, 9, 10]) (ko := []) (ps := (Q12 ++ [(decide (y10 < 0)) = false])) (by kernel_rfl) (All_append.2 ⟨k13, ⟨h14, trivial⟩⟩) hn
 ·obtain rfl := sI hx
  exact WK.run (an := [.lp, .reg [], .br false]) (kt := [0, 1, 2, 8, 9]) (ko := []) (ps := [(decide (s.1 < s.2)) = false]) (by kernel_rfl) ⟨h6, trivial⟩ hn
noncomputable def sBinarySearchFuncVV_int (v1 : List Vertex) (v2 : Int) : Option (Int × Bool) :=
 bd (loopN fuel (sBinarySearchFuncVV_int.l0 v1 v2 ((v1.length : Nat) : Int)) (0, ((v1.length : Nat) : Int))) fun q15 =>
 br (decide (q15 < ((v1.length : Nat) : Int))) (
  getR v1 q15 fun a18 =>
  bd (graph_change_vertex_1 a18 v2) fun y21 =>
  some (q15, (y21 == 0))) (
  some (q15, false))
theorem sBinarySearchFuncVV_int.ok (v1 : List Vertex) (v2 : Int) {x : Int × Bool} (hx : sBinarySearchFuncVV_int v1 v2 = some x) :
  Spec Try.prog 99 [.pv (.sl (v1.map Vertex.enc)), .pv (.int .i64 v2), .clo 100 []] [] (.tup [.pv (.int .i64 x.1), .pv (.bool x.2)]) [] := by
 refine Spec.of (c := b99) Try.func99 rfl rfl rfl ?_
 unfold sBinarySearchFuncVV_int at hx
 refine bd_ok hx fun q15 e16 hx => ?_
 refine WK.run (an := [.reg [], .reg [(1, none, .val (.pv (.int .i64 ((v1.length : Nat) : Int))))], .reg []]) (kt := [0, 1, 2, 8, 9, 10]) (ko := []) (ps := [AV.pv (.int .i64 ((v1.map Vertex.enc).length : Nat)) = .pv (.int .i64 (v1.length : Nat))]) (by kernel_rfl) ⟨lenOb, trivial⟩ (WK.enterLoop (sBinarySearchFuncVV_int.l0.ok v1 v2 ((v1.length : Nat) : Int) _ _ _ _ e16 ?_))
 refine br_ok hx (fun h17 hx => ?_) (fun h17 hx => ?_)
 ·refine getR_ok hx fun a18 h19 h20 hx => ?_
  refine bd_ok hx fun y21 e22 hx => ?_
  obtain rfl := sI hx
  exact WK.fin (fn := Try.f99) Try.func99 (an := [.reg [(5, some true, .no), (8, none, .row (Vertex.enc a18)), (11, none, .call [] [] (.pv (.int .i64 y21)) [] [])]]) (kt := [6, 7]) (ko := []) (frz := []) (ps := [(decide (q15 < ((v1.length : Nat) : Int))) = true, 0 ≤ (q15 : Int), (v1.map Vertex.enc)[(q15 : Int).toNat]? = some (Vertex.enc a18), (Vertex.enc a18).length = 2, Spec Try.prog 100 [.aggp [.int .i64 a18.ID, .int .i64 a18.Side], .pv (.int .i64 v2)] [] (.pv (.int .i64 y21)) []]) (qs := []) (by kernel_rfl) ⟨h17, h19, rowOb h20, rfl, graph_change_vertex_1.ok a18 v2 e22, trivial⟩ trivial
 ·obtain rfl := sI hx
  exact WK.fin (fn := Try.f99) Try.func99 (an := [.reg [(5, some false, .no)]]) (kt := [6, 7]) (ko := []) (frz := []) (ps := [(decide (q15 < ((v1.length : Nat) : Int))) = false]) (qs := []) (by kernel_rfl) ⟨h17, trivial⟩ trivial
noncomputable abbrev b87 : Code := body Try.f87
noncomputable def graph_change_vertex (v1 : Int) (v2 : List Vertex) (v3 : List Edge) (v4 : List Int) : Option (Int × Bool) :=
 bd (sBinarySearchFuncVV_int v2 v1) fun y5 =>
 some (y5.1, y5.2)
theorem graph_change_vertex.ok (v1 : Int) (v2 : List Vertex) (v3 : List Edge) (v4 : List Int) {x : Int × Bool} (hx : graph_change_vertex v1 v2 v3 v4 = some x) :
  Spec Try.prog 87 [.ref 0 0 0 0, .pv (.int .i64 v1)] [.varp [.sl (v2.map Vertex.enc), .sl (v3.map Edge.enc), .sl (v4.map eInt)]] (.tup [.pv (.int .i64 x.1), .pv (.bool x.2)]) [.varp [.sl (v2.map Vertex.enc), .sl (v3.map Edge.enc), .sl (v4.map eInt)]] := by
 refine Spec.of (c := b87) Try.func87 rfl rfl rfl ?_
 unfold graph_change_vertex at hx
 refine bd_ok hx fun y5 e6 hx => ?_
 obtain rfl := sI hx
 exact WK.fin (fn := Try.f87) Try.func87 (an := [.reg [], .reg [(6, none, .call [] [] (.tup [.pv (.int .i64 y5.1), .pv (.bool y5.2)]) [] [])]]) (kt := [4, 5]) (ko := [(0, 0)]) (frz := []) (ps := [Spec Try.prog 99 [.pv (.sl (v2.map Vertex.enc)), .pv (.int .i64 v1), .clo 100 []] [] (.tup [.pv (.int .i64 y5.1), .pv (.bool y5.2)]) []]) (qs := []) (by kernel_rfl) ⟨sBinarySearchFuncVV_int.ok v2 v1 e6, trivial⟩ trivial
noncomputable abbrev b68 : Code := body Try.f68
noncomputable def graph_change_has (v1 : Int) (v2 : List Vertex) (v3 : List Edge) (v4 : List Int) : Option Bool :=
 bd (graph_change_vertex v1 v2 v3 v4) fun y5 =>
 some y5.2
theorem graph_change_has.ok (v1 : Int) (v2 : List Vertex) (v3 : List Edge) (v4 : List Int) {x : Bool} (hx : graph_change_has v1 v2 v3 v4 = some x) :
  Spec Try.prog 68 [.ref 0 0 0 0, .pv (.int .i64 v1)] [.varp [.sl (v2.map Vertex.enc), .sl (v3.map Edge.enc), .sl (v4.map eInt)]] (.pv (.bool x)) [.varp [.sl (v2.map Vertex.enc), .sl (v3.map Edge.enc), .sl (v4.map eInt)]] := by
 refine Spec.of (c := b68) Try.func68 rfl rfl rfl ?_
 unfold graph_change_has at hx
 refine bd_ok hx fun y5 e6 hx => ?_
 obtain rfl := sI hx
 exact WK.fin (fn := Try.f68) Try.func68 (an := [.reg [], .reg [(2, none, .call [] [0] (.tup [.pv (.int .i64 y5.1), .pv (.bool y5.2)]) [.varp [.sl (v2.map Vertex.enc), .sl (v3.map Edge.enc), .sl (v4.map eInt)]] [])], .reg []]) (kt := [4]) (ko := [(0, 0)]) (frz := []) (ps := [Spec Try.prog 87 [.ref 0 0 0 0, .pv (.int .i64 v1)] [.varp [.sl (v2.map Vertex.enc), .sl (v3.map Edge.enc), .sl (v4.map eInt)]] (.tup [.pv (.int .i64 y5.1), .pv (.bool y5.2)]) [.varp [.sl (v2.map Vertex.enc), .sl (v3.map Edge.enc), .sl (v4.map eInt)]]]) (qs := []) (by kernel_rfl) ⟨graph_change_vertex.ok v1 v2 v3 v4 e6, trivial⟩ trivial
noncomputable abbrev b66 : Code := body Try.f66
noncomputable def graph_Valid_1 (v1 : Edge) (v2 : List Vertex) (v3 : List Edge) (v4 : List Int) : Option Bool :=
 bd (graph_isEdge v1) fun y5 =>
 br (!y5) (
  some true) (
  bd (graph_change_has v1.From v2 v3 v4) fun y8 =>
  br (!y8) (
   some true) (
   bd (graph_change_has v1.To v2 v3 v4) fun y13 =>
   some (!y13)))
theorem graph_Valid_1.ok (v1 : Edge) (v2 : List Vertex) (v3 : List Edge) (v4 : List Int) {x : Bool} (hx : graph_Valid_1 v1 v2 v3 v4 = some x) :
  Spec Try.prog 66 [.aggp [.int .i64 v1.ID, .int .i64 v1.From, .int .i64 v1.To, .bool v1.Directed, .int .i64 v1.Weight, .int .i64 v1.Cap], .ref 0 0 0 0] [.var [.ref 2 0 0 0], .varp [.sl (v2.map Vertex.enc), .sl (v3.map Edge.enc), .sl (v4.map eInt)]] (.pv (.bool x)) [.var [.ref 2 0 0 0], .varp [.sl (v2.map Vertex.enc), .sl (v3.map Edge.enc), .sl (v4.map eInt)]] := by
 refine Spec.of (c := b66) Try.func66 rfl rfl rfl ?_
 unfold graph_Valid_1 at hx
 refine bd_ok hx fun y5 e6 hx => ?_
 refine br_ok hx (fun h7 hx => ?_) (fun h7 hx => ?_)
 ·obtain rfl := sI hx
  exact WK.fin (fn := Try.f66) Try.func66 (an := [.reg [(0, none, .nm 1003)], .reg [(1, none, .call [] [] (.pv (.bool y5)) [] []), (4, some true, .no)]]) (kt := [3]) (ko := [(0, 0), (2, 2)]) (frz := []) (ps := [Spec Try.prog 67 [.aggp [.int .i64 v1.ID, .int .i64 v1.From, .int .i64 v1.To, .bool v1.Directed, .int .i64 v1.Weight, .int .i64 v1.Cap]] [] (.pv (.bool y5)) [], (!y5) = true]) (qs := []) (by kernel_rfl) ⟨graph_isEdge.ok v1 e6, h7, trivial⟩ trivial
 ·refine bd_ok hx fun y8 e9 hx => ?_
  let Q10 : List Prop := [Spec Try.prog 67 [.aggp [.int .i64 v1.ID, .int .i64 v1.From, .int .i64 v1.To, .bool v1.Directed, .int .i64 v1.Weight, .int .i64 v1.Cap]] [] (.pv (.bool y5)) [], (!y5) = false, Spec Try.prog 68 [.ref 0 0 0 0, .pv (.int .i64 v1.From)] [.varp [.sl (v2.map Vertex.enc), .sl (v3.map Edge.enc), .sl (v4.map eInt)]] (.pv (.bool y8)) [.varp [.sl (v2.map Vertex.enc), .sl (v3.map Edge.enc), .sl (v4.map eInt)]]]
  have k11 : All Q10 := ⟨graph_isEdge.ok v1 e6, h7, graph_change_has.ok v1.From v2 v3 v4 e9, trivial⟩
  refine br_ok hx (fun h12 hx => ?_) (fun h12 hx => ?_)
  ·obtain rfl := sI hx
   exact WK.fin (fn := Try.f66) Try.func66 (an := [.reg [(0, none, .nm 1003)], .reg [(1, none, .call [] [] (.pv (.bool y5)) [] []), (4, some false, .no), (7, none, .call [] [2] (.pv (.bool y8)) [.varp [.sl (v2.map Vertex.enc), .sl (v3.map Edge.enc), .sl (v4.map eInt)]] []), (11, some true, .no)]]) (kt := [3]) (ko := [(0, 0), (2, 2)]) (frz := []) (ps := (Q10 ++ [(!y8) = true])) (qs := []) (by kernel_rfl) (All_append.2 ⟨k11, ⟨h12, trivial⟩⟩) trivial
  ·refine bd_ok hx fun y13 e14 hx => ?_
   obtain rfl := sI hx
   exact WK.fin (fn := Try.f66) Try.func66 (an := [.reg [(0, none, .nm 1003)], .reg [(1, none, .call [] [] (.pv (.bool y5)) [] []), (4, some false, .no), (7, none, .call [] [2] (.pv (.bool y8)) [.varp [.sl (v2.map Vertex.enc), .sl (v3.map Edge.enc), .sl (v4.map eInt)]] []), (11, some false, .no), (14, none, .call [] [2] (.pv (.bool y13)) [.varp [.sl (v2.map Vertex.enc), .sl (v3.map Edge.enc), .sl (v4.map eInt)]] [])]]) (kt := [3]) (ko := [(0, 0), (2, 2)]) (frz := []) (ps := (Q10 ++ [(!y8) = false, Spec Try.prog 68 [.ref 0 0 0 0, .pv (.int .i64 v1.To)] [.varp [.sl (v2.map Vertex.enc), .sl (v3.map Edge.enc), .sl (v4.map eInt)]] (.pv (.bool y13)) [.varp [.sl (v2.map Vertex.enc), .sl (v3.map Edge.enc), .sl (v4.map eInt)]]])) (qs := []) (by kernel_rfl) (All_append.2 ⟨k11, ⟨h12, graph_change_has.ok v1.To v2 v3 v4 e14, trivial⟩⟩) trivial
noncomputable abbrev b79 : Code := body Try.f79
noncomputable def sIndexFuncEE.l0 (c5 : List Edge) (c6 : Int) (c7 : List Vertex) (c8 : List Edge) (c9 : List Int) (s : Int) : Option (Nx Int (Int ⊕ Unit)) :=
 br (decide (s < c6)) (
  getR c5 s fun a11 =>
  bd (graph_Valid_1 a11 c7 c8 c9) fun y14 =>
  br y14 (
   some (.done (.inl s))) (
   some (.cont (IntKind.i64.wrap (s + 1))))) (
  some (.done (.inr ())))
abbrev sIndexFuncEE.l0.enc (c5 : List Edge) (c6 : Int) (c7 : List Vertex) (c8 : List Edge) (c9 : List Int) (s : Int) : St := ⟨19, [(0, .pv (.sl (c5.map Edge.enc))), (1, .clo 66 [.ref 0 0 0 0]), (7, .pv (.int .i64 c6)), (8, .pv (.int .i64 s))], [(0, .var [.ref 2 0 0 0]), (2, .varp [.sl (c7.map Vertex.enc), .sl (c8.map Edge.enc), .sl (c9.map eInt)])]⟩
abbrev sIndexFuncEE.l0.post (c5 : List Edge) (c6 : Int) (c7 : List Vertex) (c8 : List Edge) (c9 : List Int) (r : AV) (outs : List AObj) (q : Int ⊕ Unit) : Prop := match q with | .inl q => WK Try.prog (79, 2) [.code (sub b79 [1, 0, 1, 0, 0, 1, 1, 0, 0, 1, 1, 0, 1]), .inBlock 1, .code (sub b79 [1, 0, 1, 0, 0, 1, 1, 1]), .inLoop (sub b79 [1, 0, 1, 0, 0]), .inBlock 0, .code (sub b79 [1, 1])] ⟨19, [(4, .pv (.int .i64 q))], [(0, .var [.ref 2 0 0 0]), (2, .varp [.sl (c7.map Vertex.enc), .sl (c8.map Edge.enc), .sl (c9.map eInt)])]⟩ r outs | .inr q => WK Try.prog (79, 2) [.code (sub b79 [1, 1, 0]), .code (sub b79 [1, 1, 1])] ⟨19, [], [(0, .var [.ref 2 0 0 0]), (2, .varp [.sl (c7.map Vertex.enc), .sl (c8.map Edge.enc), .sl (c9.map eInt)])]⟩ r outs
theorem sIndexFuncEE.l0.ok (c5 : List Edge) (c6 : Int) (c7 : List Vertex) (c8 : List Edge) (c9 : List Int) (r : AV) (outs : List AObj) (s : Int) (q : Int ⊕ Unit) (h : loopN fuel (sIndexFuncEE.l0 c5 c6 c7 c8 c9) s = some q) (hd : sIndexFuncEE.l0.post c5 c6 c7 c8 c9 r outs q) :
  WK Try.prog (79, 2) [.inLoop (sub b79 [1, 0, 1, 0, 0]), .inBlock 0, .code (sub b79 [1, 1])] (sIndexFuncEE.l0.enc c5 c6 c7 c8 c9 s) r outs := by
 refine WK.loop (sIndexFuncEE.l0.enc c5 c6 c7 c8 c9) (sIndexFuncEE.l0 c5 c6 c7 c8 c9) (sIndexFuncEE.l0.post c5 c6 c7 c8 c9 r outs) ?_ fuel s q h hd
 intro s x hx hn
 unfold sIndexFuncEE.l0 at hx
 refine br_ok hx (fun h10 hx => ?_) (fun h10 hx => ?_)
 ·refine getR_ok hx fun a11 h12 h13 hx => ?_
  refine bd_ok hx fun y14 e15 hx => ?_
  let Q16 : List Prop := [(decide (s < c6)) = true, 0 ≤ (s : Int), (c5.map Edge.enc)[(s : Int).toNat]? = some (Edge.enc a11), (Edge.enc a11).length = 6, Spec Try.prog 66 [.aggp [.int .i64 a11.ID, .int .i64 a11.From, .int .i64 a11.To, .bool a11.Directed, .int .i64 a11.Weight, .int .i64 a11.Cap], .ref 0 0 0 0] [.var [.ref 2 0 0 0], .varp [.sl (c7.map Vertex.enc), .sl (c8.map Edge.enc), .sl (c9.map eInt)]] (.pv (.bool y14)) [.var [.ref 2 0 0 0], .varp [.sl (c7.map Vertex.enc), .sl (c8.map Edge.enc), .sl (c9.map eInt)]]]
  have k17 : All Q16 := ⟨h10, h12, rowOb h13, rfl, graph_Valid_1.ok a11 c7 c8 c9 e15, trivial⟩
  refine br_ok hx (fun h18 hx => ?_) (fun h18 hx => ?_)
  ·obtain rfl := sI hx
   exact WK.run (an := [.lp, .reg [], .br true, .reg [], .reg [(3, none, .row (Edge.enc a11)), (5, none, .call [] [0, 2] (.pv (.bool y14)) [.var [.ref 2 0 0 0], .varp [.sl (c7.map Vertex.enc), .sl (c8.map Edge.enc), .sl (c9.map eInt)]] [])], .br true, .reg []]) (kt := [4]) (ko := [(0, 0), (2, 2)]) (ps := (Q16 ++ [y14 = true])) (by kernel_rfl) (All_append.2 ⟨k17, ⟨h18, trivial⟩⟩) hn
  ·obtain rfl := sI hx
   exact WK.run (an := [.lp, .reg [], .br true, .reg [], .reg [(3, none, .row (Edge.enc a11)), (5, none, .call [] [0, 2] (.pv (.bool y14)) [.var [.ref 2 0 0 0], .varp [.sl (c7.map Vertex.enc), .sl (c8.map Edge.enc), .sl (c9.map eInt)]] [])], .br false, .reg []]) (kt := [0, 1, 7, 8]) (ko := [(0, 0), (2, 2)]) (ps := (Q16 ++ [y14 = false])) (by kernel_rfl) (All_append.2 ⟨k17, ⟨h18, trivial⟩⟩) hn
 ·obtain rfl := sI hx
  exact WK.run (an := [.lp, .reg [], .br false]) (kt := []) (ko := [(0, 0), (2, 2)]) (ps := [(decide (s < c6)) = false]) (by kernel_rfl) ⟨h10, trivial⟩ hn
noncomputable def sIndexFuncEE (v1 : List Edge) (v2 : List Vertex) (v3 : List Edge) (v4 : List Int) : Option Int :=
 bd (loopN fuel (sIndexFuncEE.l0 v1 ((v1.length : Nat) : Int) v2 v3 v4) 0) fun q19 =>
 match q19 with
 | .inl q19 =>
  some q19
 | .inr q19 =>
  some (-1)
theorem sIndexFuncEE.ok (v1 : List Edge) (v2 : List Vertex) (v3 : List Edge) (v4 : List Int) {x : Int} (hx : sIndexFuncEE v1 v2 v3 v4 = some x) :
  Spec Try.prog 79 [.pv (.sl (v1.map Edge.enc)), .clo 66 [.ref 0 0 0 0]] [.var [.ref 2 0 0 0], .varp [.sl (v2.map Vertex.enc), .sl (v3.map Edge.enc), .sl (v4.map eInt)]] (.pv (.int .i64 x)) [.var [.ref 2 0 0 0], .varp [.sl (v2.map Vertex.enc), .sl (v3.map Edge.enc), .sl (v4.map eInt)]] := by
 refine Spec.of (c := b79) Try.func79 rfl rfl rfl ?_
 unfold sIndexFuncEE at hx
 refine bd_ok hx fun q19 e20 hx => ?_
 refine WK.run (an := [.reg [], .reg [(1, none, .val (.pv (.int .i64 ((v1.length : Nat) : Int))))]]) (kt := [0, 1, 7, 8]) (ko := [(0, 0), (2, 2)]) (ps := [AV.pv (.int .i64 ((v1.map Edge.enc).length : Nat)) = .pv (.int .i64 (v1.length : Nat))]) (by kernel_rfl) ⟨lenOb, trivial⟩ (WK.enterLoop (sIndexFuncEE.l0.ok v1 ((v1.length : Nat) : Int) v2 v3 v4 _ _ _ _ e20 ?_))
 rcases q19 with (q19 | q19)
 ·obtain rfl := sI hx
  exact WK.fin (fn := Try.f79) Try.func79 (an := []) (kt := [4]) (ko := [(0, 0), (2, 2)]) (frz := []) (ps := []) (qs := []) (by kernel_rfl) trivial trivial
 ·obtain rfl := sI hx
  exact WK.fin (fn := Try.f79) Try.func79 (an := [.reg []]) (kt := [4]) (ko := [(0, 0), (2, 2)]) (frz := []) (ps := []) (qs := []) (by kernel_rfl) trivial trivial
noncomputable abbrev b53 : Code := body Try.f53
noncomputable def sContainsFuncEE (v1 : List Edge) (v2 : List Vertex) (v3 : List Edge) (v4 : List Int) : Option Bool :=
 bd (sIndexFuncEE v1 v2 v3 v4) fun y5 =>
 some (decide (y5 ≥ 0))
theorem sContainsFuncEE.ok (v1 : List Edge) (v2 : List Vertex) (v3 : List Edge) (v4 : List Int) {x : Bool} (hx : sContainsFuncEE v1 v2 v3 v4 = some x) :
  Spec Try.prog 53 [.pv (.sl (v1.map Edge.enc)), .clo 66 [.ref 0 0 0 0]] [.var [.ref 2 0 0 0], .varp [.sl (v2.map Vertex.enc), .sl (v3.map Edge.enc), .sl (v4.map eInt)]] (.pv (.bool x)) [.var [.ref 2 0 0 0], .varp [.sl (v2.map Vertex.enc), .sl (v3.map Edge.enc), .sl (v4.map eInt)]] := by
 refine Spec.of (c := b53) Try.func53 rfl rfl rfl ?_
 unfold sContainsFuncEE at hx
 refine bd_ok hx fun y5 e6 hx => ?_
 obtain rfl := sI hx
 exact WK.fin (fn := Try.f53) Try.func53 (an := [.reg [], .reg [(2, none, .call [] [0, 2] (.pv (.int .i64 y5)) [.var [.ref 2 0 0 0], .varp [.sl (v2.map Vertex.enc), .sl (v3.map Edge.enc), .sl (v4.map eInt)]] [])]]) (kt := [4]) (ko := [(0, 0), (2, 2)]) (frz := []) (ps := [Spec Try.prog 79 [.pv (.sl (v1.map Edge.enc)), .clo 66 [.ref 0 0 0 0]] [.var [.ref 2 0 0 0], .varp [.sl (v2.map Vertex.enc), .sl (v3.map Edge.enc), .sl (v4.map eInt)]] (.pv (.int .i64 y5)) [.var [.ref 2 0 0 0], .varp [.sl (v2.map Vertex.enc), .sl (v3.map Edge.enc), .sl (v4.map eInt)]]]) (qs := []) (by kernel_rfl) ⟨sIndexFuncEE.ok v1 v2 v3 v4 e6, trivial⟩ trivial
noncomputable abbrev b90 : Code := body Try.f90
noncomputable def graph_itself (v1 : Int) : Option Int :=
 some v1
theorem graph_itself.ok (v1 : Int) {x : Int} (hx : graph_itself v1 = some x) :
  Spec Try.prog 90 [.pv (.int .i64 v1)] [] (.pv (.int .i64 x)) [] := by
 refine Spec.of (c := b90) Try.func90 rfl rfl rfl ?_
 unfold graph_itself at hx
 obtain rfl := sI hx
 exact WK.fin (fn := Try.f90) Try.func90 (an := [.reg [], .reg []]) (kt := [2]) (ko := []) (frz := []) (ps := []) (qs := []) (by kernel_rfl) trivial trivial
noncomputable abbrev b89 : Code := body Try.f89
noncomputable def graph_ascend_int.l0 (c2 : List Int) (s : Int) : Option (Nx Int (Unit ⊕ Unit)) :=
 br (decide (s < ((c2.length : Nat) : Int))) (
  getR c2 (IntKind.i64.wrap (s - 1)) fun a4 =>
  bd (graph_itself a4) fun y7 =>
  getR c2 s fun a9 =>
  bd (graph_itself a9) fun y12 =>
  br (decide (y7 ≥ y12)) (
   some (.done (.inl ()))) (
   some (.cont (IntKind.i64.wrap (s + 1))))) (
  some (.done (.inr ())))
abbrev graph_ascend_int.l0.enc (c2 : List Int) (s : Int) : St := ⟨26, [(0, .pv (.sl (c2.map eInt))), (1, .clo 90 []), (5, .pv (.int .i64 s))], []⟩
abbrev graph_ascend_int.l0.post (c2 : List Int) (r : AV) (outs : List AObj) (q : Unit ⊕ Unit) : Prop := match q with | .inl q => WK Try.prog (89, 0) [.code (sub b89 [1, 0, 1, 0, 0, 1, 0, 0, 1, 0, 1]), .inBlock 1, .code (sub b89 [1, 0, 1, 0, 0, 1, 1]), .inLoop (sub b89 [1, 0, 1, 0, 0]), .inBlock 0, .code (sub b89 [1, 1])] ⟨26, [(4, .pv (.bool false))], []⟩ r outs | .inr q => WK Try.prog (89, 0) [.code (sub b89 [1, 1, 0]), .code (sub b89 [1, 1, 1])] ⟨26, [], []⟩ r outs
theorem graph_ascend_int.l0.ok (c2 : List Int) (r : AV) (outs : List AObj) (s : Int) (q : Unit ⊕ Unit) (h : loopN fuel (graph_ascend_int.l0 c2) s = some q) (hd : graph_ascend_int.l0.post c2 r outs q) :
  WK Try.prog (89, 0) [.inLoop (sub b89 [1, 0, 1, 0, 0]), .inBlock 0, .code (sub b89 [1, 1])] (graph_ascend_int.l0.enc c2 s) r outs := by
 refine WK.loop (graph_ascend_int.l0.enc c2) (graph_ascend_int.l0 c2) (graph_ascend_int.l0.post c2 r outs) ?_ fuel s q h hd
 intro s x hx hn
 unfold graph_ascend_int.l0 at hx
 refine br_ok hx (fun h3 hx => ?_) (fun h3 hx => ?_)
 ·refine getR_ok hx fun a4 h5 h6 hx => ?_
  refine bd_ok hx fun y7 e8 hx => ?_
  refine getR_ok hx fun a9 h10 h11 hx => ?_
  refine bd_ok hx fun y12 e13 hx => ?_
  let A14 : List An := [.lp, .reg [(2, none, .val (.pv (.int .i64 ((c2.length : Nat) : Int))))], .br true, .draw [0, 1, 2, 3, 4, 5, 6, 7, 8, 9, 10, 11, 12, 13] [(4, none, .row (eInt a4)), (6, none, .call [] [] (.pv (.int .i64 y7)) [] []), (10, none, .row (eInt a9)), (12, none, .call [] [] (.pv (.int .i64 y12)) [] [])]]
  let Q15 : List Prop := [AV.pv (.int .i64 ((c2.map eInt).length : Nat)) = .pv (.int .i64 (c2.length : Nat)), (decide (s < ((c2.length : Nat) : Int))) = true, 0 ≤ ((IntKind.i64.wrap (s - 1)) : Int), (c2.map eInt)[((IntKind.i64.wrap (s - 1)) : Int).toNat]? = some (eInt a4), (eInt a4).length = 1, Spec Try.prog 90 [.pv (.int .i64 a4)] [] (.pv (.int .i64 y7)) [], 0 ≤ (s : Int), (c2.map eInt)[(s : Int).toNat]? = some (eInt a9), (eInt a9).length = 1, Spec Try.prog 90 [.pv (.int .i64 a9)] [] (.pv (.int .i64 y12)) []]
  have k16 : All Q15 := ⟨lenOb, h3, h5, rowOb h6, rfl, graph_itself.ok a4 e8, h10, rowOb h11, rfl, graph_itself.ok a9 e13, trivial⟩
  refine br_ok hx (fun h17 hx => ?_) (fun h17 hx => ?_)
  ·obtain rfl := sI hx
   exact WK.run (an := (A14 ++ [.br true, .reg []])) (kt := [4]) (ko := []) (ps := (Q15 ++ [(decide (y7 ≥ y12)) = true])) (by kernel_rfl) (All_append.2 ⟨k16, ⟨h17, trivial⟩⟩) hn
  ·obtain rfl := sI hx
   exact WK.run (an := (A14 ++ [.br false, .reg []])) (kt := [0, 1, 5]) (ko := []) (ps := (Q15 ++ [(decide (y7 ≥ y12)) = false])) (by kernel_rfl) (All_append.2 ⟨k16, ⟨h17, trivial⟩⟩) hn
 ·obtain rfl := sI hx
  exact WK.run (an := [.lp, .reg [(2, none, .val (.pv (.int .i64 ((c2.length : Nat) : Int))))], .br false]) (kt := []) (ko := []) (ps := [AV.pv (.int .i64 ((c2.map eInt).length : Nat)) = .pv (.int .i64 (c2.length : Nat)), (decide (s < ((c2.length : Nat) : Int))) = false]) (by kernel_rfl) ⟨lenOb, h3, trivial⟩ hn
noncomputable def graph_ascend_int (v1 : List Int) : Option Bool :=
 bd (loopN fuel (graph_ascend_int.l0 v1) 1) fun q18 =>
 match q18 with
 | .inl q18 =>
  some false
 | .inr q18 =>
  some true
theorem graph_ascend_int.ok (v1 : List Int) {x : Bool} (hx : graph_ascend_int v1 = some x) :
  Spec Try.prog 89 [.pv (.sl (v1.map eInt)), .clo 90 []] [] (.pv (.bool x)) [] := by
 refine Spec.of (c := b89) Try.func89 rfl rfl rfl ?_
 unfold graph_ascend_int at hx
 refine bd_ok hx fun q18 e19 hx => ?_
 refine WK.run (an := [.reg [], .reg []]) (kt := [0, 1, 5]) (ko := []) (ps := []) (by kernel_rfl) trivial (WK.enterLoop (graph_ascend_int.l0.ok v1 _ _ _ _ e19 ?_))
 rcases q18 with (q18 | q18)
 ·obtain rfl := sI hx
  exact WK.fin (fn := Try.f89) Try.func89 (an := []) (kt := [4]) (ko := []) (frz := []) (ps := []) (qs := []) (by kernel_rfl) trivial trivial
 ·obtain rfl := sI hx
  exact WK.fin (fn := Try.f89) Try.func89 (an := [.reg []]) (kt := [4]) (ko := []) (frz := []) (ps := []) (qs := []) (by kernel_rfl) trivial trivial
noncomputable abbrev b91 : Code := body Try.f91
noncomputable def graph_change_areDepots_1 (v1 : Int) (v2 : List Vertex) (v3 : List Edge) (v4 : List Int) : Option Bool :=
 bd (graph_change_has v1 v2 v3 v4) fun y5 =>
 some (!y5)
theorem graph_change_areDepots_1.ok (v1 : Int) (v2 : List Vertex) (v3 : List Edge) (v4 : List Int) {x : Bool} (hx : graph_change_areDepots_1 v1 v2 v3 v4 = some x) :
  Spec Try.prog 91 [.pv (.int .i64 v1), .ref 0 0 0 0] [.var [.ref 2 0 0 0], .varp [.sl (v2.map Vertex.enc), .sl (v3.map Edge.enc), .sl (v4.map eInt)]] (.pv (.bool x)) [.var [.ref 2 0 0 0], .varp [.sl (v2.map Vertex.enc), .sl (v3.map Edge.enc), .sl (v4.map eInt)]] := by
 refine Spec.of (c := b91) Try.func91 rfl rfl rfl ?_
 unfold graph_change_areDepots_1 at hx
 refine bd_ok hx fun y5 e6 hx => ?_
 obtain rfl := sI hx
 exact WK.fin (fn := Try.f91) Try.func91 (an := [.reg [], .reg [(2, none, .call [] [2] (.pv (.bool y5)) [.varp [.sl (v2.map Vertex.enc), .sl (v3.map Edge.enc), .sl (v4.map eInt)]] [])]]) (kt := [3]) (ko := [(0, 0), (2, 2)]) (frz := []) (ps := [Spec Try.prog 68 [.ref 0 0 0 0, .pv (.int .i64 v1)] [.varp [.sl (v2.map Vertex.enc), .sl (v3.map Edge.enc), .sl (v4.map eInt)]] (.pv (.bool y5)) [.varp [.sl (v2.map Vertex.enc), .sl (v3.map Edge.enc), .sl (v4.map eInt)]]]) (qs := []) (by kernel_rfl) ⟨graph_change_has.ok v1 v2 v3 v4 e6, trivial⟩ trivial
noncomputable abbrev b93 : Code := body Try.f93
noncomputable def sIndexFunc_int_int.l0 (c5 : List Int) (c6 : Int) (c7 : List Vertex) (c8 : List Edge) (c9 : List Int) (s : Int) : Option (Nx Int (Int ⊕ Unit)) :=
 br (decide (s < c6)) (
  getR c5 s fun a11 =>
  bd (graph_change_areDepots_1 a11 c7 c8 c9) fun y14 =>
  br y14 (
   some (.done (.inl s))) (
   some (.cont (IntKind.i64.wrap (s + 1))))) (
  some (.done (.inr ())))
abbrev sIndexFunc_int_int.l0.enc (c5 : List Int) (c6 : Int) (c7 : List Vertex) (c8 : List Edge) (c9 : List Int) (s : Int) : St := ⟨19, [(0, .pv (.sl (c5.map eInt))), (1, .clo 91 [.ref 0 0 0 0]), (7, .pv (.int .i64 c6)), (8, .pv (.int .i64 s))], [(0, .var [.ref 2 0 0 0]), (2, .varp [.sl (c7.map Vertex.enc), .sl (c8.map Edge.enc), .sl (c9.map eInt)])]⟩
abbrev sIndexFunc_int_int.l0.post (c5 : List Int) (c6 : Int) (c7 : List Vertex) (c8 : List Edge) (c9 : List Int) (r : AV) (outs : List AObj) (q : Int ⊕ Unit) : Prop := match q with | .inl q => WK Try.prog (93, 2) [.code (sub b93 [1, 0, 1, 0, 0, 1, 1, 0, 0, 1, 1, 0, 1]), .inBlock 1, .code (sub b93 [1, 0, 1, 0, 0, 1, 1, 1]), .inLoop (sub b93 [1, 0, 1, 0, 0]), .inBlock 0, .code (sub b93 [1, 1])] ⟨19, [(4, .pv (.int .i64 q))], [(0, .var [.ref 2 0 0 0]), (2, .varp [.sl (c7.map Vertex.enc), .sl (c8.map Edge.enc), .sl (c9.map eInt)])]⟩ r outs | .inr q => WK Try.prog (93, 2) [.code (sub b93 [1, 1, 0]), .code (sub b93 [1, 1, 1])] ⟨19, [], [(0, .var [.ref 2 0 0 0]), (2, .varp [.sl (c7.map Vertex.enc), .sl (c8.map Edge.enc), .sl (c9.map eInt)])]⟩ r outs
theorem sIndexFunc_int_int.l0.ok (c5 : List Int) (c6 : Int) (c7 : List Vertex) (c8 : List Edge) (c9 : List Int) (r : AV) (outs : List AObj) (s : Int) (q : Int ⊕ Unit) (h : loopN fuel (sIndexFunc_int_int.l0 c5 c6 c7 c8 c9) s = some q) (hd : sIndexFunc_int_int.l0.post c5 c6 c7 c8 c9 r outs q) :
  WK Try.prog (93, 2) [.inLoop (sub b93 [1, 0, 1, 0, 0]), .inBlock 0, .code (sub b93 [1, 1])] (sIndexFunc_int_int.l0.enc c5 c6 c7 c8 c9 s) r outs := by
 refine WK.loop (sIndexFunc_int_int.l0.enc c5 c6 c7 c8 c9) (sIndexFunc_int_int.l0 c5 c6 c7 c8 c9) (sIndexFunc_int_int.l0.post c5 c6 c7 c8 c9 r outs) ?_ fuel s q h hd
 intro s x hx hn
 unfold sIndexFunc_int_int.l0 at hx
 refine br_ok hx (fun h10 hx => ?_) (fun h10 hx => ?_)
 ·refine getR_ok hx fun a11 h12 h13 hx => ?_
  refine bd_ok hx fun y14 e15 hx => ?_
  let Q16 : List Prop := [(decide (s < c6)) = true, 0 ≤ (s : Int), (c5.map eInt)[(s : Int).toNat]? = some (eInt a11), (eInt a11).length = 1, Spec Try.prog 91 [.pv (.int .i64 a11), .ref 0 0 0 0] [.var [.ref 2 0 0 0], .varp [.sl (c7.map Vertex.enc), .sl (c8.map Edge.enc), .sl (c9.map eInt)]] (.pv (.bool y14)) [.var [.ref 2 0 0 0], .varp [.sl (c7.map Vertex.enc), .sl (c8.map Edge.enc), .sl (c9.map eInt)]]]
  have k17 : All Q16 := ⟨h10, h12, rowOb h13, rfl, graph_change_areDepots_1.ok a11 c7 c8 c9 e15, trivial⟩
  refine br_ok hx (fun h18 hx => ?_) (fun h18 hx => ?_)
  ·obtain rfl := sI hx
   exact WK.run (an := [.lp, .reg [], .br true, .reg [], .reg [(3, none, .row (eInt a11)), (5, none, .call [] [0, 2] (.pv (.bool y14)) [.var [.ref 2 0 0 0], .varp [.sl (c7.map Vertex.enc), .sl (c8.map Edge.enc), .sl (c9.map eInt)]] [])], .br true, .reg []]) (kt := [4]) (ko := [(0, 0), (2, 2)]) (ps := (Q16 ++ [y14 = true])) (by kernel_rfl) (All_append.2 ⟨k17, ⟨h18, trivial⟩⟩) hn
  ·obtain rfl := sI hx
   exact WK.run (an := [.lp, .reg [], .br true, .reg [], .reg [(3, none, .row (eInt a11)), (5, none, .call [] [0, 2] (.pv (.bool y14)) [.var [.ref 2 0 0 0], .varp [.sl (c7.map Vertex.enc), .sl (c8.map Edge.enc), .sl (c9.map eInt)]] [])], .br false, .reg []]) (kt := [0, 1, 7, 8]) (ko := [(0, 0), (2, 2)]) (ps := (Q16 ++ [y14 = false])) (by kernel_rfl) (All_append.2 ⟨k17, ⟨h18, trivial⟩⟩) hn
 ·obtain rfl := sI hx
  exact WK.run (an := [.lp, .reg [], .br false]) (kt := []) (ko := [(0, 0), (2, 2)]) (ps := [(decide (s < c6)) = false]) (by kernel_rfl) ⟨h10, trivial⟩ hn
noncomputable def sIndexFunc_int_int (v1 : List Int) (v2 : List Vertex) (v3 : List Edge) (v4 : List Int) : Option Int :=
 bd (loopN fuel (sIndexFunc_int_int.l0 v1 ((v1.length : Nat) : Int) v2 v3 v4) 0) fun q19 =>
 match q19 with
 | .inl q19 =>
  some q19
 | .inr q19 =>
  some (-1)
theorem sIndexFunc_int_int.ok (v1 : List Int) (v2 : List Vertex) (v3 : List Edge) (v4 : List Int) {x : Int} (hx : sIndexFunc_int_int v1 v2 v3 v4 = some x) :
  Spec Try.prog 93 [.pv (.sl (v1.map eInt)), .clo 91 [.ref 0 0 0 0]] [.var [.ref 2 0 0 0], .varp [.sl (v2.map Vertex.enc), .sl (v3.map Edge.enc), .sl (v4.map eInt)]] (.pv (.int .i64 x)) [.var [.ref 2 0 0 0], .varp [.sl (v2.map Vertex.enc), .sl (v3.map Edge.enc), .sl (v4.map eInt)]] := by
 refine Spec.of (c := b93) Try.func93 rfl rfl rfl ?_
 unfold sIndexFunc_int_int at hx
 refine bd_ok hx fun q19 e20 hx => ?_
 refine WK.run (an := [.reg [], .reg [(1, none, .val (.pv (.int .i64 ((v1.length : Nat) : Int))))]]) (kt := [0, 1, 7, 8]) (ko := [(0, 0), (2, 2)]) (ps := [AV.pv (.int .i64 ((v1.map eInt).length : Nat)) = .pv (.int .i64 (v1.length : Nat))]) (by kernel_rfl) ⟨lenOb, trivial⟩ (WK.enterLoop (sIndexFunc_int_int.l0.ok v1 ((v1.length : Nat) : Int) v2 v3 v4 _ _ _ _ e20 ?_))
 rcases q19 with (q19 | q19)
 ·obtain rfl := sI hx
  exact WK.fin (fn := Try.f93) Try.func93 (an := []) (kt := [4]) (ko := [(0, 0), (2, 2)]) (frz := []) (ps := []) (qs := []) (by kernel_rfl) trivial trivial
 ·obtain rfl := sI hx
  exact WK.fin (fn := Try.f93) Try.func93 (an := [.reg []]) (kt := [4]) (ko := [(0, 0), (2, 2)]) (frz := []) (ps := []) (qs := []) (by kernel_rfl) trivial trivial
noncomputable abbrev b77 : Code := body Try.f77
noncomputable def sContainsFunc_int_int (v1 : List Int) (v2 : List Vertex) (v3 : List Edge) (v4 : List Int) : Option Bool :=
 bd (sIndexFunc_int_int v1 v2 v3 v4) fun y5 =>
 some (decide (y5 ≥ 0))
theorem sContainsFunc_int_int.ok (v1 : List Int) (v2 : List Vertex) (v3 : List Edge) (v4 : List Int) {x : Bool} (hx : sContainsFunc_int_int v1 v2 v3 v4 = some x) :
  Spec Try.prog 77 [.pv (.sl (v1.map eInt)), .clo 91 [.ref 0 0 0 0]] [.var [.ref 2 0 0 0], .varp [.sl (v2.map Vertex.enc), .sl (v3.map Edge.enc), .sl (v4.map eInt)]] (.pv (.bool x)) [.var [.ref 2 0 0 0], .varp [.sl (v2.map Vertex.enc), .sl (v3.map Edge.enc), .sl (v4.map eInt)]] := by
 refine Spec.of (c := b77) Try.func77 rfl rfl rfl ?_
 unfold sContainsFunc_int_int at hx
 refine bd_ok hx fun y5 e6 hx => ?_
 obtain rfl := sI hx
 exact WK.fin (fn := Try.f77) Try.func77 (an := [.reg [], .reg [(2, none, .call [] [0, 2] (.pv (.int .i64 y5)) [.var [.ref 2 0 0 0], .varp [.sl (v2.map Vertex.enc), .sl (v3.map Edge.enc), .sl (v4.map eInt)]] [])]]) (kt := [4]) (ko := [(0, 0), (2, 2)]) (frz := []) (ps := [Spec Try.prog 93 [.pv (.sl (v1.map eInt)), .clo 91 [.ref 0 0 0 0]] [.var [.ref 2 0 0 0], .varp [.sl (v2.map Vertex.enc), .sl (v3.map Edge.enc), .sl (v4.map eInt)]] (.pv (.int .i64 y5)) [.var [.ref 2 0 0 0], .varp [.sl (v2.map Vertex.enc), .sl (v3.map Edge.enc), .sl (v4.map eInt)]]]) (qs := []) (by kernel_rfl) ⟨sIndexFunc_int_int.ok v1 v2 v3 v4 e6, trivial⟩ trivial
noncomputable abbrev b72 : Code := body Try.f72
noncomputable def graph_change_areDepots (v1 : List Vertex) (v2 : List Edge) (v3 : List Int) : Option Bool :=
 br (decide (((v3.length : Nat) : Int) ≤ 3)) (
  bd (graph_ascend_int v3) fun y5 =>
  br y5 (
   bd (sContainsFunc_int_int v3 v1 v2 v3) fun y8 =>
   some (!y8)) (
   some false)) (
  some false)
theorem graph_change_areDepots.ok (v1 : List Vertex) (v2 : List Edge) (v3 : List Int) {x : Bool} (hx : graph_change_areDepots v1 v2 v3 = some x) :
  Spec Try.prog 72 [.ref 0 0 0 0] [.varp [.sl (v1.map Vertex.enc), .sl (v2.map Edge.enc), .sl (v3.map eInt)]] (.pv (.bool x)) [.varp [.sl (v1.map Vertex.enc), .sl (v2.map Edge.enc), .sl (v3.map eInt)]] := by
 refine Spec.of (c := b72) Try.func72 rfl rfl rfl ?_
 unfold graph_change_areDepots at hx
 refine br_ok hx (fun h4 hx => ?_) (fun h4 hx => ?_)
 ·refine bd_ok hx fun y5 e6 hx => ?_
  refine br_ok hx (fun h7 hx => ?_) (fun h7 hx => ?_)
  ·refine bd_ok hx fun y8 e9 hx => ?_
   obtain rfl := sI hx
   exact WK.fin (fn := Try.f72) Try.func72 (an := [.reg [(0, none, .nm 1003)], .reg [(5, none, .val (.pv (.int .i64 ((v3.length : Nat) : Int)))), (8, some true, .no), (13, none, .call [] [] (.pv (.bool y5)) [] []), (16, some true, .no), (22, none, .call [] [1003, 0] (.pv (.bool y8)) [.var [.ref 2 0 0 0], .varp [.sl (v1.map Vertex.enc), .sl (v2.map Edge.enc), .sl (v3.map eInt)]] [])]]) (kt := [2]) (ko := [(0, 0)]) (frz := []) (ps := [AV.pv (.int .i64 ((v3.map eInt).length : Nat)) = .pv (.int .i64 (v3.length : Nat)), (decide (((v3.length : Nat) : Int) ≤ 3)) = true, Spec Try.prog 89 [.pv (.sl (v3.map eInt)), .clo 90 []] [] (.pv (.bool y5)) [], y5 = true, Spec Try.prog 77 [.pv (.sl (v3.map eInt)), .clo 91 [.ref 0 0 0 0]] [.var [.ref 2 0 0 0], .varp [.sl (v1.map Vertex.enc), .sl (v2.map Edge.enc), .sl (v3.map eInt)]] (.pv (.bool y8)) [.var [.ref 2 0 0 0], .varp [.sl (v1.map Vertex.enc), .sl (v2.map Edge.enc), .sl (v3.map eInt)]]]) (qs := []) (by kernel_rfl) ⟨lenOb, h4, graph_ascend_int.ok v3 e6, h7, sContainsFunc_int_int.ok v3 v1 v2 v3 e9, trivial⟩ trivial
  ·obtain rfl := sI hx
   exact WK.fin (fn := Try.f72) Try.func72 (an := [.reg [(0, none, .nm 1003)], .reg [(5, none, .val (.pv (.int .i64 ((v3.length : Nat) : Int)))), (8, some true, .no), (13, none, .call [] [] (.pv (.bool y5)) [] []), (16, some false, .no)]]) (kt := [2]) (ko := [(0, 0)]) (frz := []) (ps := [AV.pv (.int .i64 ((v3.map eInt).length : Nat)) = .pv (.int .i64 (v3.length : Nat)), (decide (((v3.length : Nat) : Int) ≤ 3)) = true, Spec Try.prog 89 [.pv (.sl (v3.map eInt)), .clo 90 []] [] (.pv (.bool y5)) [], y5 = false]) (qs := []) (by kernel_rfl) ⟨lenOb, h4, graph_ascend_int.ok v3 e6, h7, trivial⟩ trivial
 ·obtain rfl := sI hx
  exact WK.fin (fn := Try.f72) Try.func72 (an := [.reg [(0, none, .nm 1003)], .reg [(5, none, .val (.pv (.int .i64 ((v3.length : Nat) : Int)))), (8, some false, .no)]]) (kt := [2]) (ko := [(0, 0)]) (frz := []) (ps := [AV.pv (.int .i64 ((v3.map eInt).length : Nat)) = .pv (.int .i64 (v3.length : Nat)), (decide (((v3.length : Nat) : Int) ≤ 3)) = false]) (qs := []) (by kernel_rfl) ⟨lenOb, h4, trivial⟩ trivial
noncomputable abbrev b39 : Code := body Try.f39
noncomputable def graph_Valid (v1 : Graph) : Option Bool :=
 bd (graph_ascendV v1.Vertices) fun y2 =>
 br (!y2) (
  some false) (
  bd (graph_ascendE v1.Edges) fun y5 =>
  br (!y5) (
   some false) (
   bd (sContainsFuncVV v1.Vertices) fun y10 =>
   br (!y10) (
    bd (sContainsFuncEE v1.Edges v1.Vertices v1.Edges v1.Depots) fun y13 =>
    br (!y13) (
     bd (graph_change_areDepots v1.Vertices v1.Edges v1.Depots) fun y18 =>
     some y18) (
     some false)) (
    some false)))
theorem graph_Valid.ok (v1 : Graph) {x : Bool} (hx : graph_Valid v1 = some x) :
  Spec Try.prog 39 [.aggp [.sl (v1.Vertices.map Vertex.enc), .sl (v1.Edges.map Edge.enc), .sl (v1.Depots.map eInt)]] [] (.pv (.bool x)) [] := by
 refine Spec.of (c := b39) Try.func39 rfl rfl rfl ?_
 unfold graph_Valid at hx
 refine bd_ok hx fun y2 e3 hx => ?_
 refine br_ok hx (fun h4 hx => ?_) (fun h4 hx => ?_)
 ·obtain rfl := sI hx
  exact WK.fin (fn := Try.f39) Try.func39 (an := [.reg [(0, none, .nm 1003)], .reg [(2, none, .call [] [] (.pv (.bool y2)) [] []), (5, some true, .no)], .bk, .reg []]) (kt := [2]) (ko := []) (frz := []) (ps := [Spec Try.prog 62 [.pv (.sl (v1.Vertices.map Vertex.enc)), .clo 63 []] [] (.pv (.bool y2)) [], (!y2) = true]) (qs := []) (by kernel_rfl) ⟨graph_ascendV.ok v1.Vertices e3, h4, trivial⟩ trivial
 ·refine bd_ok hx fun y5 e6 hx => ?_
  let Q7 : List Prop := [Spec Try.prog 62 [.pv (.sl (v1.Vertices.map Vertex.enc)), .clo 63 []] [] (.pv (.bool y2)) [], (!y2) = false, Spec Try.prog 64 [.pv (.sl (v1.Edges.map Edge.enc)), .clo 65 []] [] (.pv (.bool y5)) []]
  have k8 : All Q7 := ⟨graph_ascendV.ok v1.Vertices e3, h4, graph_ascendE.ok v1.Edges e6, trivial⟩
  refine br_ok hx (fun h9 hx => ?_) (fun h9 hx => ?_)
  ·obtain rfl := sI hx
   exact WK.fin (fn := Try.f39) Try.func39 (an := [.reg [(0, none, .nm 1003)], .reg [(2, none, .call [] [] (.pv (.bool y2)) [] []), (5, some false, .no), (7, none, .call [] [] (.pv (.bool y5)) [] [])], .br true, .reg []]) (kt := [2]) (ko := []) (frz := []) (ps := (Q7 ++ [(!y5) = true])) (qs := []) (by kernel_rfl) (All_append.2 ⟨k8, ⟨h9, trivial⟩⟩) trivial
  ·refine bd_ok hx fun y10 e11 hx => ?_
   refine br_ok hx (fun h12 hx => ?_) (fun h12 hx => ?_)
   ·refine bd_ok hx fun y13 e14 hx => ?_
    let Q15 : List Prop := (Q7 ++ [(!y5) = false, 1 = 1, Spec Try.prog 69 [.pv (.sl (v1.Vertices.map Vertex.enc)), .clo 70 []] [] (.pv (.bool y10)) [], (!y10) = true, Spec Try.prog 53 [.pv (.sl (v1.Edges.map Edge.enc)), .clo 66 [.ref 0 0 0 0]] [.var [.ref 2 0 0 0], .varp [.sl (v1.Vertices.map Vertex.enc), .sl (v1.Edges.map Edge.enc), .sl (v1.Depots.map eInt)]] (.pv (.bool y13)) [.var [.ref 2 0 0 0], .varp [.sl (v1.Vertices.map Vertex.enc), .sl (v1.Edges.map Edge.enc), .sl (v1.Depots.map eInt)]]])
    have k16 : All Q15 := (All_append.2 ⟨k8, ⟨h9, rfl, sContainsFuncVV.ok v1.Vertices e11, h12, sContainsFuncEE.ok v1.Edges v1.Vertices v1.Edges v1.Depots e14, trivial⟩⟩)
    refine br_ok hx (fun h17 hx => ?_) (fun h17 hx => ?_)
    ·refine bd_ok hx fun y18 e19 hx => ?_
     obtain rfl := sI hx
     exact WK.fin (fn := Try.f39) Try.func39 (an := [.reg [(0, none, .nm 1003)], .reg [(2, none, .call [] [] (.pv (.bool y2)) [] []), (5, some false, .no), (7, none, .call [] [] (.pv (.bool y5)) [] [])], .br false, .reg [(2, none, .nm 1005), (3, none, .nm 1007)], .reg [], .reg [(2, none, .call [] [] (.pv (.bool y10)) [] []), (5, some true, .no), (8, none, .call [] [1007, 1005] (.pv (.bool y13)) [.var [.ref 2 0 0 0], .varp [.sl (v1.Vertices.map Vertex.enc), .sl (v1.Edges.map Edge.enc), .sl (v1.Depots.map eInt)]] []), (12, some true, .no), (13, none, .call [] [1005] (.pv (.bool y18)) [.varp [.sl (v1.Vertices.map Vertex.enc), .sl (v1.Edges.map Edge.enc), .sl (v1.Depots.map eInt)]] [])]]) (kt := [2]) (ko := []) (frz := []) (ps := (Q15 ++ [(!y13) = true, Spec Try.prog 72 [.ref 0 0 0 0] [.varp [.sl (v1.Vertices.map Vertex.enc), .sl (v1.Edges.map Edge.enc), .sl (v1.Depots.map eInt)]] (.pv (.bool y18)) [.varp [.sl (v1.Vertices.map Vertex.enc), .sl (v1.Edges.map Edge.enc), .sl (v1.Depots.map eInt)]]])) (qs := []) (by kernel_rfl) (All_append.2 ⟨k16, ⟨h17, graph_change_areDepots.ok v1.Vertices v1.Edges v1.Depots e19, trivial⟩⟩) trivial
    ·obtain rfl := sI hx
     exact WK.fin (fn := Try.f39) Try.func39 (an := [.reg [(0, none, .nm 1003)], .reg [(2, none, .call [] [] (.pv (.bool y2)) [] []), (5, some false, .no), (7, none, .call [] [] (.pv (.bool y5)) [] [])], .br false, .reg [(2, none, .nm 1005), (3, none, .nm 1007)], .reg [], .reg [(2, none, .call [] [] (.pv (.bool y10)) [] []), (5, some true, .no), (8, none, .call [] [1007, 1005] (.pv (.bool y13)) [.var [.ref 2 0 0 0], .varp [.sl (v1.Vertices.map Vertex.enc), .sl (v1.Edges.map Edge.enc), .sl (v1.Depots.map eInt)]] []), (12, some false, .no)]]) (kt := [2]) (ko := []) (frz := []) (ps := (Q15 ++ [(!y13) = false])) (qs := []) (by kernel_rfl) (All_append.2 ⟨k16, ⟨h17, trivial⟩⟩) trivial
   ·obtain rfl := sI hx
    exact WK.fin (fn := Try.f39) Try.func39 (an := [.reg [(0, none, .nm 1003)], .reg [(2, none, .call [] [] (.pv (.bool y2)) [] []), (5, some false, .no), (7, none, .call [] [] (.pv (.bool y5)) [] [])], .br false, .reg [(2, none, .nm 1005), (3, none, .nm 1007)], .reg [], .reg [(2, none, .call [] [] (.pv (.bool y10)) [] []), (5, some false, .no)]]) (kt := [2]) (ko := []) (frz := []) (ps := (Q7 ++ [(!y5) = false, 1 = 1, Spec Try.prog 69 [.pv (.sl (v1.Vertices.map Vertex.enc)), .clo 70 []] [] (.pv (.bool y10)) [], (!y10) = false])) (qs := []) (by kernel_rfl) (All_append.2 ⟨k8, ⟨h9, rfl, sContainsFuncVV.ok v1.Vertices e11, h12, trivial⟩⟩) trivial
noncomputable abbrev b33 : Code := body Try.f33
noncomputable def graph_At.l0 (c3 : Int) (c4 : List Edge) (c5 : Int) (s : Int × (List Edge)) : Option (Nx (Int × (List Edge)) (List Edge)) :=
 br (decide (s.1 < c5)) (
  getR c4 s.1 fun a7 =>
  br (a7.From == c3) (
   gd ((s.2 ++ [a7]).length ≤ bigLen) <|
   some (.cont ((IntKind.i64.wrap (s.1 + 1)), (s.2 ++ [a7])))) (
   br (a7.To == c3) (
    gd ((s.2 ++ [a7]).length ≤ bigLen) <|
    some (.cont ((IntKind.i64.wrap (s.1 + 1)), (s.2 ++ [a7])))) (
    some (.cont ((IntKind.i64.wrap (s.1 + 1)), s.2))))) (
  some (.done s.2))
abbrev graph_At.l0.enc (c3 : Int) (c4 : List Edge) (c5 : Int) (s : Int × (List Edge)) : St := ⟨30, [(1, .pv (.int .i64 c3)), (4, .hd 101 0 ((s.2.map Edge.enc).length) 6), (8, .pv (.sl (c4.map Edge.enc))), (9, .pv (.int .i64 c5)), (10, .pv (.int .i64 s.1))], [(101, .sl false 6 (s.2.map Edge.enc))]⟩
abbrev graph_At.l0.post (c3 : Int) (c4 : List Edge) (c5 : Int) (r : AV) (outs : List AObj) (q : (List Edge)) : Prop := WK Try.prog (33, 0) [.code (sub b33 [1, 1, 0]), .code (sub b33 [1, 1, 1])] ⟨30, [(4, .hd 101 0 ((q.map Edge.enc).length) 6)], [(101, .sl false 6 (q.map Edge.enc))]⟩ r outs
theorem graph_At.l0.ok (c3 : Int) (c4 : List Edge) (c5 : Int) (r : AV) (outs : List AObj) (s : Int × (List Edge)) (q : (List Edge)) (h : loopN fuel (graph_At.l0 c3 c4 c5) s = some q) (hd : graph_At.l0.post c3 c4 c5 r outs q) :
  WK Try.prog (33, 0) [.inLoop (sub b33 [1, 0, 1, 0, 0]), .inBlock 0, .code (sub b33 [1, 1])] (graph_At.l0.enc c3 c4 c5 s) r outs := by
 refine WK.loop (graph_At.l0.enc c3 c4 c5) (graph_At.l0 c3 c4 c5) (graph_At.l0.post c3 c4 c5 r outs) ?_ fuel s q h hd
 intro s x hx hn
 unfold graph_At.l0 at hx
 refine br_ok hx (fun h6 hx => ?_) (fun h6 hx => ?_)
 ·refine getR_ok hx fun a7 h8 h9 hx => ?_
  refine br_ok hx (fun h10 hx => ?_) (fun h10 hx => ?_)
  ·refine gd_ok hx fun h11 hx => ?_
   obtain rfl := sI hx
   exact WK.run (an := [.lp, .reg [], .br true, .reg [(0, none, .row (Edge.enc a7)), (2, none, .nm 1017)], .reg [(5, some true, .no)], .bk, .reg [(2, none, .nm 1019), (3, none, .app 1021 ((s.2 ++ [a7]).map Edge.enc))], .reg []]) (kt := [1, 4, 8, 9, 10]) (ko := [(1021, 101)]) (ps := [(decide (s.1 < c5)) = true, 0 ≤ (s.1 : Int), (c4.map Edge.enc)[(s.1 : Int).toNat]? = some (Edge.enc a7), (Edge.enc a7).length = 6, 6 = 6, (a7.From == c3) = true, 6 = 6, 6 = 6, 0 + 1 ≤ ([a7].map Edge.enc).length, 0 + ((s.2.map Edge.enc).length) = (s.2.map Edge.enc).length, (s.2.map Edge.enc).drop 0 ++ (cut1 ([a7].map Edge.enc) 0 1) = ((s.2 ++ [a7]).map Edge.enc), ((s.2 ++ [a7]).map Edge.enc).length ≤ bigLen, ∀ r ∈ (cut1 ([a7].map Edge.enc) 0 1), r.length = 6]) (by kernel_rfl) ⟨h6, h8, rowOb h9, rfl, rfl, h10, rfl, rfl, Nat.le_of_eq (Nat.zero_add _), Nat.zero_add _, by simp [cut1, List.take_of_length_le], bigOb h11, one_len rfl, trivial⟩ hn
  ·refine br_ok hx (fun h12 hx => ?_) (fun h12 hx => ?_)
   ·refine gd_ok hx fun h13 hx => ?_
    obtain rfl := sI hx
    exact WK.run (an := [.lp, .reg [], .br true, .reg [(0, none, .row (Edge.enc a7)), (2, none, .nm 1017)], .reg [(5, some false, .no)], .br true, .reg [(2, none, .nm 1023), (3, none, .app 1025 ((s.2 ++ [a7]).map Edge.enc))], .reg []]) (kt := [1, 4, 8, 9, 10]) (ko := [(1025, 101)]) (ps := [(decide (s.1 < c5)) = true, 0 ≤ (s.1 : Int), (c4.map Edge.enc)[(s.1 : Int).toNat]? = some (Edge.enc a7), (Edge.enc a7).length = 6, 6 = 6, (a7.From == c3) = false, (a7.To == c3) = true, 6 = 6, 6 = 6, 0 + 1 ≤ ([a7].map Edge.enc).length, 0 + ((s.2.map Edge.enc).length) = (s.2.map Edge.enc).length, (s.2.map Edge.enc).drop 0 ++ (cut1 ([a7].map Edge.enc) 0 1) = ((s.2 ++ [a7]).map Edge.enc), ((s.2 ++ [a7]).map Edge.enc).length ≤ bigLen, ∀ r ∈ (cut1 ([a7].map Edge.enc) 0 1), r.length = 6]) (by kernel_rfl) ⟨h6, h8, rowOb h9, rfl, rfl, h10, h12, rfl, rfl, Nat.le_of_eq (Nat.zero_add _), Nat.zero_add _, by simp [cut1, List.take_of_length_le], bigOb h13, one_len rfl, trivial⟩ hn
   ·obtain rfl := sI hx
    exact WK.run (an := [.lp, .reg [], .br true, .reg [(0, none, .row (Edge.enc a7)), (2, none, .nm 1017)], .reg [(5, some false, .no)], .br false, .reg []]) (kt := [1, 4, 8, 9, 10]) (ko := [(101, 101)]) (ps := [(decide (s.1 < c5)) = true, 0 ≤ (s.1 : Int), (c4.map Edge.enc)[(s.1 : Int).toNat]? = some (Edge.enc a7), (Edge.enc a7).length = 6, 6 = 6, (a7.From == c3) = false, (a7.To == c3) = false]) (by kernel_rfl) ⟨h6, h8, rowOb h9, rfl, rfl, h10, h12, trivial⟩ hn
 ·obtain rfl := sI hx
  exact WK.run (an := [.lp, .reg [], .br false]) (kt := [4]) (ko := [(101, 101)]) (ps := [(decide (s.1 < c5)) = false]) (by kernel_rfl) ⟨h6, trivial⟩ hn
noncomputable def graph_At (v1 : Graph) (v2 : Int) : Option (List Edge) :=
 bd (loopN fuel (graph_At.l0 v2 v1.Edges ((v1.Edges.length : Nat) : Int)) (0, [])) fun q14 =>
 some q14
theorem graph_At.ok (v1 : Graph) (v2 : Int) {x : (List Edge)} (hx : graph_At v1 v2 = some x) :
  Spec Try.prog 33 [.aggp [.sl (v1.Vertices.map Vertex.enc), .sl (v1.Edges.map Edge.enc), .sl (v1.Depots.map eInt)], .pv (.int .i64 v2)] [] (.pv (.sl (x.map Edge.enc))) [] := by
 refine Spec.of (c := b33) Try.func33 rfl rfl rfl ?_
 unfold graph_At at hx
 refine bd_ok hx fun q14 e15 hx => ?_
 refine WK.run (an := [.new 1005 6, .reg [(0, none, .nm 1003), (1, none, .val (.hd 1005 0 0 6))], .reg [(2, none, .val (.pv (.int .i64 ((v1.Edges.length : Nat) : Int))))]]) (kt := [1, 4, 8, 9, 10]) (ko := [(1005, 101)]) (ps := [AV.pv (.int .i64 ((v1.Edges.map Edge.enc).length : Nat)) = .pv (.int .i64 (v1.Edges.length : Nat))]) (by kernel_rfl) ⟨lenOb, trivial⟩ (WK.enterLoop (graph_At.l0.ok v2 v1.Edges ((v1.Edges.length : Nat) : Int) _ _ _ _ e15 ?_))
 obtain rfl := sI hx
 exact WK.fin (fn := Try.f33) Try.func33 (an := [.reg []]) (kt := [4]) (ko := [(101, 101)]) (frz := [101]) (ps := []) (qs := [(q14.map Edge.enc).length = (q14.map Edge.enc).length]) (by kernel_rfl) trivial ⟨rfl, trivial⟩
noncomputable abbrev b35 : Code := body Try.f35
noncomputable def graph_Other (v1 : Edge) (v2 : Int) : Option Int :=
 br (v2 == v1.From) (
  some v1.To) (
  br (v2 == v1.To) (
   some v1.From) (
   some (-1)))
theorem graph_Other.ok (v1 : Edge) (v2 : Int) {x : Int} (hx : graph_Other v1 v2 = some x) :
  Spec Try.prog 35 [.aggp [.int .i64 v1.ID, .int .i64 v1.From, .int .i64 v1.To, .bool v1.Directed, .int .i64 v1.Weight, .int .i64 v1.Cap], .pv (.int .i64 v2)] [] (.pv (.int .i64 x)) [] := by
 refine Spec.of (c := b35) Try.func35 rfl rfl rfl ?_
 unfold graph_Other at hx
 refine br_ok hx (fun h3 hx => ?_) (fun h3 hx => ?_)
 ·obtain rfl := sI hx
  exact WK.fin (fn := Try.f35) Try.func35 (an := [.reg [(0, none, .nm 1003)], .reg [], .reg [], .br true, .reg []]) (kt := [4]) (ko := []) (frz := []) (ps := [(v2 == v1.From) = true]) (qs := []) (by kernel_rfl) ⟨h3, trivial⟩ trivial
 ·refine br_ok hx (fun h4 hx => ?_) (fun h4 hx => ?_)
  ·obtain rfl := sI hx
   exact WK.fin (fn := Try.f35) Try.func35 (an := [.reg [(0, none, .nm 1003)], .reg [], .reg [], .br false, .reg [], .br true, .reg []]) (kt := [4]) (ko := []) (frz := []) (ps := [(v2 == v1.From) = false, (v2 == v1.To) = true]) (qs := []) (by kernel_rfl) ⟨h3, h4, trivial⟩ trivial
  ·obtain rfl := sI hx
   exact WK.fin (fn := Try.f35) Try.func35 (an := [.reg [(0, none, .nm 1003)], .reg [], .reg [], .br false, .reg [], .br false, .reg []]) (kt := [4]) (ko := []) (frz := []) (ps := [(v2 == v1.From) = false, (v2 == v1.To) = false]) (qs := []) (by kernel_rfl) ⟨h3, h4, trivial⟩ trivial
noncomputable abbrev b40 : Code := body Try.f40
noncomputable def forest_grow.l0 (c31 : Int) (c32 : List Vertex) (c33 : Int) (c34 : Int) (c35 : List Edge) (c36 : Int) (c37 : List Vertex) (c38 : List Edge) (c39 : List Int) (c40 : Int) (c41 : Int) (s : Nat × Nat × Int × (List (List Int)) × (List (Int × Ref)) × (List Int)) : Option (Nx (Nat × Nat × Int × (List (List Int)) × (List (Int × Ref)) × (List Int)) (Nat × Nat × (List (List Int)) × (List (Int × Ref)) × (List Int))) :=
 br (decide (s.2.2.1 < c36)) (
  getR c35 s.2.2.1 fun a43 =>
  bd (graph_Other a43 c31) fun y46 =>
  oc (mapGet s.2.2.2.2.1 y46) (
   oc (mapGet s.2.2.2.2.1 c31) (
    none) fun a52 => (
    gd (0 ≤ (1 : Int) ∧ (1 : Int) < ((a52.len : Nat) : Int)) <|
    bd (s.2.2.2.1[a52.i]?) fun a55 =>
    bd (a55[(a52.off + (1 : Int).toNat)]?) fun a56 =>
    gd (s.1 + s.2.1 = (s.2.2.2.2.2.map eInt).length) <|
    gd (((s.2.2.2.2.2.drop s.1) ++ [y46]).length ≤ bigLen) <|
    some (.cont (0, (((s.2.2.2.2.2.drop s.1) ++ [y46]).map eInt).length, (IntKind.i64.wrap (s.2.2.1 + 1)), (s.2.2.2.1 ++ [[c40, (IntKind.i64.wrap (a56 + 1)), (-1)]]), (mapSet s.2.2.2.2.1 y46 (Ref.mk s.2.2.2.1.length 0 3)), ((s.2.2.2.2.2.drop s.1) ++ [y46]))))) fun a50 => (
   some (.cont (s.1, s.2.1, (IntKind.i64.wrap (s.2.2.1 + 1)), s.2.2.2.1, s.2.2.2.2.1, s.2.2.2.2.2)))) (
  some (.done (s.1, s.2.1, s.2.2.2.1, s.2.2.2.2.1, s.2.2.2.2.2)))
abbrev forest_grow.l0.enc (f : Nat) (c31 : Int) (c32 : List Vertex) (c33 : Int) (c34 : Int) (c35 : List Edge) (c36 : Int) (c37 : List Vertex) (c38 : List Edge) (c39 : List Int) (c40 : Int) (c41 : Int) (s : Nat × Nat × Int × (List (List Int)) × (List (Int × Ref)) × (List Int)) : St := ⟨121, [(1, .ref 101 0 0 0), (3, .mp 103), (5, .ref 105 0 0 0), (8, .hd 107 s.1 s.2.1 1), (9, .pv (.int .i64 c31)), (21, .pv (.sl (c32.map Vertex.enc))), (22, .pv (.int .i64 c33)), (23, .pv (.int .i64 c34)), (54, .pv (.sl (c35.map Edge.enc))), (55, .pv (.int .i64 c36)), (56, .pv (.int .i64 s.2.2.1))], [(3, .fam false f 1 (s.2.2.2.1.map (List.map eInt))), (101, .varp [.sl (c37.map Vertex.enc), .sl (c38.map Edge.enc), .sl (c39.map eInt)]), (103, .mp false false true (s.2.2.2.2.1.map mKey) (s.2.2.2.2.1.map (mRow (eRef f 1)))), (105, .varp [.int .i64 c40, .int .i64 c41]), (107, .sl false 1 (s.2.2.2.2.2.map eInt))]⟩
abbrev forest_grow.l0.post (f : Nat) (c31 : Int) (c32 : List Vertex) (c33 : Int) (c34 : Int) (c35 : List Edge) (c36 : Int) (c37 : List Vertex) (c38 : List Edge) (c39 : List Int) (c40 : Int) (c41 : Int) (r : AV) (outs : List AObj) (q : (Nat × Nat × (List (List Int)) × (List (Int × Ref)) × (List Int))) : Prop := WK Try.prog (40, 0) [.code (sub b40 [1, 0, 1, 0, 1, 0, 0, 1, 1, 0, 0, 1, 1, 1, 1, 0, 0, 1, 1]), .inLoop (sub b40 [1, 0, 1, 0, 1, 0, 0, 1, 1, 0, 0, 1, 1, 1, 1, 0, 0]), .inBlock 2, .inBlock 1, .code (sub b40 [1, 0, 1, 0, 1, 0, 0, 1, 1, 1]), .inLoop (sub b40 [1, 0, 1, 0, 1, 0, 0]), .inBlock 0, .code (sub b40 [1, 0, 1, 1]), .inScope (sub b40 [1, 0])] ⟨121, [(1, .ref 101 0 0 0), (3, .mp 103), (5, .ref 105 0 0 0), (8, .hd 107 q.1 q.2.1 1), (21, .pv (.sl (c32.map Vertex.enc))), (22, .pv (.int .i64 c33)), (23, .pv (.int .i64 c34))], [(3, .fam false f 1 (q.2.2.1.map (List.map eInt))), (101, .varp [.sl (c37.map Vertex.enc), .sl (c38.map Edge.enc), .sl (c39.map eInt)]), (103, .mp false false true (q.2.2.2.1.map mKey) (q.2.2.2.1.map (mRow (eRef f 1)))), (105, .varp [.int .i64 c40, .int .i64 c41]), (107, .sl false 1 (q.2.2.2.2.map eInt))]⟩ r outs
theorem forest_grow.l0.ok (f : Nat) (c31 : Int) (c32 : List Vertex) (c33 : Int) (c34 : Int) (c35 : List Edge) (c36 : Int) (c37 : List Vertex) (c38 : List Edge) (c39 : List Int) (c40 : Int) (c41 : Int) (r : AV) (outs : List AObj) (s : Nat × Nat × Int × (List (List Int)) × (List (Int × Ref)) × (List Int)) (q : (Nat × Nat × (List (List Int)) × (List (Int × Ref)) × (List Int))) (h : loopN fuel (forest_grow.l0 c31 c32 c33 c34 c35 c36 c37 c38 c39 c40 c41) s = some q) (hd : forest_grow.l0.post f c31 c32 c33 c34 c35 c36 c37 c38 c39 c40 c41 r outs q) :
  WK Try.prog (40, 0) [.inLoop (sub b40 [1, 0, 1, 0, 1, 0, 0, 1, 1, 0, 0, 1, 1, 1, 1, 0, 0, 1, 0, 0, 1, 1, 0, 0]), .inBlock 4, .inBlock 3, .code (sub b40 [1, 0, 1, 0, 1, 0, 0, 1, 1, 0, 0, 1, 1, 1, 1, 0, 0, 1, 1]), .inLoop (sub b40 [1, 0, 1, 0, 1, 0, 0, 1, 1, 0, 0, 1, 1, 1, 1, 0, 0]), .inBlock 2, .inBlock 1, .code (sub b40 [1, 0, 1, 0, 1, 0, 0, 1, 1, 1]), .inLoop (sub b40 [1, 0, 1, 0, 1, 0, 0]), .inBlock 0, .code (sub b40 [1, 0, 1, 1]), .inScope (sub b40 [1, 0])] (forest_grow.l0.enc f c31 c32 c33 c34 c35 c36 c37 c38 c39 c40 c41 s) r outs := by
 refine WK.loop (forest_grow.l0.enc f c31 c32 c33 c34 c35 c36 c37 c38 c39 c40 c41) (forest_grow.l0 c31 c32 c33 c34 c35 c36 c37 c38 c39 c40 c41) (forest_grow.l0.post f c31 c32 c33 c34 c35 c36 c37 c38 c39 c40 c41 r outs) ?_ fuel s q h hd
 intro s x hx hn
 unfold forest_grow.l0 at hx
 refine br_ok hx (fun h42 hx => ?_) (fun h42 hx => ?_)
 ·refine getR_ok hx fun a43 h44 h45 hx => ?_
  refine bd_ok hx fun y46 e47 hx => ?_
  let Q48 : List Prop := [(decide (s.2.2.1 < c36)) = true, 0 ≤ (s.2.2.1 : Int), (c35.map Edge.enc)[(s.2.2.1 : Int).toNat]? = some (Edge.enc a43), (Edge.enc a43).length = 6, 6 = 6, Spec Try.prog 35 [.aggp [.int .i64 a43.ID, .int .i64 a43.From, .int .i64 a43.To, .bool a43.Directed, .int .i64 a43.Weight, .int .i64 a43.Cap], .pv (.int .i64 c31)] [] (.pv (.int .i64 y46)) []]
  have k49 : All Q48 := ⟨h42, h44, rowOb h45, rfl, rfl, graph_Other.ok a43 c31 e47, trivial⟩
  refine oc_ok hx (fun h51 hx => ?_) (fun a50 h51 hx => ?_)
  ·refine oc_ok hx (fun h53 hx => ?_) (fun a52 h53 hx => ?_)
   ·cases hx
   ·refine gd_ok hx fun h54 hx => ?_
    refine bd_ok hx fun a55 h57 hx => ?_
    refine bd_ok hx fun a56 h58 hx => ?_
    refine gd_ok hx fun h60 hx => ?_
    refine gd_ok hx fun h59 hx => ?_
    obtain rfl := sI hx
    exact WK.run (an := [.lp, .reg [], .br true, .reg [(0, none, .row (Edge.enc a43)), (2, none, .nm 1021)], .reg [(2, none, .call [] [] (.pv (.int .i64 y46)) [] [])], .reg [(2, none, .mget .undef none)], .reg [], .bk, .draw [0, 1, 2, 3, 4, 5, 6, 7, 8, 9, 10, 11] [(6, none, .mget (.pv (.fh f a52.i a52.off a52.len 1)) (some ((eRef f 1) a52))), (8, none, .frow 3 (a55.map eInt) (eInt a56)), (10, none, .mi 3 1023 s.2.2.2.1.length ((s.2.2.2.1 ++ [[c40, (IntKind.i64.wrap (a56 + 1)), (-1)]]).map (List.map eInt)) (.nm 1023)), (11, none, .mset ((mapSet s.2.2.2.2.1 y46 (Ref.mk s.2.2.2.1.length 0 3)).map mKey) ((mapSet s.2.2.2.2.1 y46 (Ref.mk s.2.2.2.1.length 0 3)).map (mRow (eRef f 1))))], .reg [(2, none, .nm 1025), (3, none, .app 1027 (((s.2.2.2.2.2.drop s.1) ++ [y46]).map eInt))], .reg []]) (kt := [1, 3, 5, 8, 9, 21, 22, 23, 54, 55, 56]) (ko := [(3, 3), (101, 101), (103, 103), (105, 105), (1027, 107)]) (ps := (Q48 ++ [intKeys .i64 (s.2.2.2.2.1.map mKey), mfind (s.2.2.2.2.1.map mKey) (s.2.2.2.2.1.map (mRow (eRef f 1))) (.int .i64 y46) = none, intKeys .i64 (s.2.2.2.2.1.map mKey), mfind (s.2.2.2.2.1.map mKey) (s.2.2.2.2.1.map (mRow (eRef f 1))) (.int .i64 c31) = some ((eRef f 1) a52), rowAV false ((eRef f 1) a52) = some (.pv (.fh f a52.i a52.off a52.len 1)), 0 ≤ (1 : Int), (1 : Int) < ((a52.len : Nat) : Int), f = f, (s.2.2.2.1.map (List.map eInt))[a52.i]? = some (a55.map eInt), (a55.map eInt)[(a52.off + (1 : Int).toNat)]? = some (eInt a56), 1 = 1, 1 = 1, 1 = 1, 1 = 1, (s.2.2.2.1.map (List.map eInt)).length = s.2.2.2.1.length, (s.2.2.2.1.map (List.map eInt)) ++ [([c40, (IntKind.i64.wrap (a56 + 1)), (-1)].map eInt)] = ((s.2.2.2.1 ++ [[c40, (IntKind.i64.wrap (a56 + 1)), (-1)]]).map (List.map eInt)), 3 = ([c40, (IntKind.i64.wrap (a56 + 1)), (-1)].map eInt).length, intKeys .i64 (s.2.2.2.2.1.map mKey), mput (s.2.2.2.2.1.map mKey) (s.2.2.2.2.1.map (mRow (eRef f 1))) (.int .i64 y46) [.fh f (Ref.mk s.2.2.2.1.length 0 3).i (Ref.mk s.2.2.2.1.length 0 3).off (Ref.mk s.2.2.2.1.length 0 3).len 1] = (((mapSet s.2.2.2.2.1 y46 (Ref.mk s.2.2.2.1.length 0 3)).map mKey), ((mapSet s.2.2.2.2.1 y46 (Ref.mk s.2.2.2.1.length 0 3)).map (mRow (eRef f 1)))), 1 = 1, 1 = 1, 0 + 1 ≤ ([y46].map eInt).length, s.1 + s.2.1 = (s.2.2.2.2.2.map eInt).length, (s.2.2.2.2.2.map eInt).drop s.1 ++ (cut1 ([y46].map eInt) 0 1) = (((s.2.2.2.2.2.drop s.1) ++ [y46]).map eInt), (((s.2.2.2.2.2.drop s.1) ++ [y46]).map eInt).length ≤ bigLen, ∀ r ∈ (cut1 ([y46].map eInt) 0 1), r.length = 1])) (by kernel_rfl) (All_append.2 ⟨k49, ⟨ikOb, mfindOb0 h51, ikOb, mfindOb h53, rfl, h54.1, h54.2, rfl, memGet h57, rowOb h58, rfl, rfl, rfl, rfl, memLen, memApp rfl, rfl, ikOb, mputOb (f := (eRef f 1)) (v := (Ref.mk s.2.2.2.1.length 0 3)), rfl, rfl, Nat.le_of_eq (Nat.zero_add _), h60, by simp [cut1, List.take_of_length_le], bigOb h59, one_len rfl, trivial⟩⟩) hn
  ·obtain rfl := sI hx
   exact WK.run (an := [.lp, .reg [], .br true, .reg [(0, none, .row (Edge.enc a43)), (2, none, .nm 1021)], .reg [(2, none, .call [] [] (.pv (.int .i64 y46)) [] [])], .reg [(2, none, .mget (.pv (.fh f a50.i a50.off a50.len 1)) (some ((eRef f 1) a50)))], .reg [], .bk, .reg []]) (kt := [1, 3, 5, 8, 9, 21, 22, 23, 54, 55, 56]) (ko := [(3, 3), (101, 101), (103, 103), (105, 105), (107, 107)]) (ps := (Q48 ++ [intKeys .i64 (s.2.2.2.2.1.map mKey), mfind (s.2.2.2.2.1.map mKey) (s.2.2.2.2.1.map (mRow (eRef f 1))) (.int .i64 y46) = some ((eRef f 1) a50), rowAV false ((eRef f 1) a50) = some (.pv (.fh f a50.i a50.off a50.len 1))])) (by kernel_rfl) (All_append.2 ⟨k49, ⟨ikOb, mfindOb h51, rfl, trivial⟩⟩) hn
 ·obtain rfl := sI hx
  exact WK.run (an := [.lp, .reg [], .br false]) (kt := [1, 3, 5, 8, 21, 22, 23]) (ko := [(3, 3), (101, 101), (103, 103), (105, 105), (107, 107)]) (ps := [(decide (s.2.2.1 < c36)) = false]) (by kernel_rfl) ⟨h42, trivial⟩ hn
noncomputable def forest_grow.l1 (c14 : List Vertex) (c15 : Int) (c16 : Int) (c17 : List Vertex) (c18 : List Edge) (c19 : List Int) (c20 : Int) (c21 : Int) (s : Nat × Nat × (List (List Int)) × (List (Int × Ref)) × (List Int)) : Option (Nx (Nat × Nat × (List (List Int)) × (List (Int × Ref)) × (List Int)) ((List (List Int)) × (List (Int × Ref)))) :=
 br (decide (((s.2.1 : Nat) : Int) > 0)) (
  gd (0 ≤ (0 : Int) ∧ (0 : Int) < ((s.2.1 : Nat) : Int)) <|
  bd (s.2.2.2.2[(s.1 + (0 : Int).toNat)]?) fun a24 =>
  bd (graph_At (Graph.mk c17 c18 c19) a24) fun y26 =>
  bd (loopN fuel (forest_grow.l0 a24 c14 c15 c16 y26 ((y26.length : Nat) : Int) c17 c18 c19 c20 c21) (s.1, s.2.1, 0, s.2.2.1, s.2.2.2.1, s.2.2.2.2)) fun q28 =>
  gd (0 ≤ (1 : Int)) <|
  gd ((1 : Int) ≤ ((q28.2.1 : Nat) : Int)) <|
  some (.cont ((q28.1 + (1 : Int).toNat), (q28.2.1 - (1 : Int).toNat), q28.2.2.1, q28.2.2.2.1, q28.2.2.2.2))) (
  some (.done (s.2.2.1, s.2.2.2.1)))
abbrev forest_grow.l1.enc (f : Nat) (c14 : List Vertex) (c15 : Int) (c16 : Int) (c17 : List Vertex) (c18 : List Edge) (c19 : List Int) (c20 : Int) (c21 : Int) (s : Nat × Nat × (List (List Int)) × (List (Int × Ref)) × (List Int)) : St := ⟨121, [(1, .ref 101 0 0 0), (3, .mp 103), (5, .ref 105 0 0 0), (8, .hd 107 s.1 s.2.1 1), (21, .pv (.sl (c14.map Vertex.enc))), (22, .pv (.int .i64 c15)), (23, .pv (.int .i64 c16))], [(3, .fam false f 1 (s.2.2.1.map (List.map eInt))), (101, .varp [.sl (c17.map Vertex.enc), .sl (c18.map Edge.enc), .sl (c19.map eInt)]), (103, .mp false false true (s.2.2.2.1.map mKey) (s.2.2.2.1.map (mRow (eRef f 1)))), (105, .varp [.int .i64 c20, .int .i64 c21]), (107, .sl false 1 (s.2.2.2.2.map eInt))]⟩
abbrev forest_grow.l1.post (f : Nat) (c14 : List Vertex) (c15 : Int) (c16 : Int) (c17 : List Vertex) (c18 : List Edge) (c19 : List Int) (c20 : Int) (c21 : Int) (r : AV) (outs : List AObj) (q : ((List (List Int)) × (List (Int × Ref)))) : Prop := WK Try.prog (40, 0) [.code (sub b40 [1, 0, 1, 0, 1, 0, 0, 1, 1, 1]), .inLoop (sub b40 [1, 0, 1, 0, 1, 0, 0]), .inBlock 0, .code (sub b40 [1, 0, 1, 1]), .inScope (sub b40 [1, 0])] ⟨121, [(1, .ref 101 0 0 0), (3, .mp 103), (21, .pv (.sl (c14.map Vertex.enc))), (22, .pv (.int .i64 c15)), (23, .pv (.int .i64 c16))], [(3, .fam false f 1 (q.1.map (List.map eInt))), (101, .varp [.sl (c17.map Vertex.enc), .sl (c18.map Edge.enc), .sl (c19.map eInt)]), (103, .mp false false true (q.2.map mKey) (q.2.map (mRow (eRef f 1))))]⟩ r outs
theorem forest_grow.l1.ok (f : Nat) (c14 : List Vertex) (c15 : Int) (c16 : Int) (c17 : List Vertex) (c18 : List Edge) (c19 : List Int) (c20 : Int) (c21 : Int) (r : AV) (outs : List AObj) (s : Nat × Nat × (List (List Int)) × (List (Int × Ref)) × (List Int)) (q : ((List (List Int)) × (List (Int × Ref)))) (h : loopN fuel (forest_grow.l1 c14 c15 c16 c17 c18 c19 c20 c21) s = some q) (hd : forest_grow.l1.post f c14 c15 c16 c17 c18 c19 c20 c21 r outs q) :
  WK Try.prog (40, 0) [.inLoop (sub b40 [1, 0, 1, 0, 1, 0, 0, 1, 1, 0, 0, 1, 1, 1, 1, 0, 0]), .inBlock 2, .inBlock 1, .code (sub b40 [1, 0, 1, 0, 1, 0, 0, 1, 1, 1]), .inLoop (sub b40 [1, 0, 1, 0, 1, 0, 0]), .inBlock 0, .code (sub b40 [1, 0, 1, 1]), .inScope (sub b40 [1, 0])] (forest_grow.l1.enc f c14 c15 c16 c17 c18 c19 c20 c21 s) r outs := by
 refine WK.loop (forest_grow.l1.enc f c14 c15 c16 c17 c18 c19 c20 c21) (forest_grow.l1 c14 c15 c16 c17 c18 c19 c20 c21) (forest_grow.l1.post f c14 c15 c16 c17 c18 c19 c20 c21 r outs) ?_ fuel s q h hd
 intro s x hx hn
 unfold forest_grow.l1 at hx
 refine br_ok hx (fun h22 hx => ?_) (fun h22 hx => ?_)
 ·refine gd_ok hx fun h23 hx => ?_
  refine bd_ok hx fun a24 h25 hx => ?_
  refine bd_ok hx fun y26 e27 hx => ?_
  refine bd_ok hx fun q28 e29 hx => ?_
  refine WK.run (an := [.lp, .reg [], .br true, .reg [(2, none, .row (eInt a24))], .reg [(2, none, .call [] [] (.pv (.sl (y26.map Edge.enc))) [] []), (3, none, .val (.pv (.int .i64 ((y26.length : Nat) : Int))))]]) (kt := [1, 3, 5, 8, 9, 21, 22, 23, 54, 55, 56]) (ko := [(3, 3), (101, 101), (103, 103), (105, 105), (107, 107)]) (ps := [(decide (((s.2.1 : Nat) : Int) > 0)) = true, 0 ≤ (0 : Int), (0 : Int) < ((s.2.1 : Nat) : Int), (s.2.2.2.2.map eInt)[(s.1 + (0 : Int).toNat)]? = some (eInt a24), Spec Try.prog 33 [.aggp [.sl (c17.map Vertex.enc), .sl (c18.map Edge.enc), .sl (c19.map eInt)], .pv (.int .i64 a24)] [] (.pv (.sl (y26.map Edge.enc))) [], AV.pv (.int .i64 ((y26.map Edge.enc).length : Nat)) = .pv (.int .i64 (y26.length : Nat))]) (by kernel_rfl) ⟨h22, h23.1, h23.2, rowOb h25, graph_At.ok (Graph.mk c17 c18 c19) a24 e27, lenOb, trivial⟩ (WK.enterLoop (forest_grow.l0.ok f a24 c14 c15 c16 y26 ((y26.length : Nat) : Int) c17 c18 c19 c20 c21 _ _ _ _ e29 ?_))
  refine gd_ok hx fun h30 hx => ?_
  refine gd_ok hx fun h31 hx => ?_
  obtain rfl := sI hx
  exact WK.run (an := [.reg []]) (kt := [1, 3, 5, 8, 21, 22, 23]) (ko := [(3, 3), (101, 101), (103, 103), (105, 105), (107, 107)]) (ps := [0 ≤ (1 : Int), (1 : Int) ≤ ((q28.2.1 : Nat) : Int)]) (by kernel_rfl) ⟨h30, h31, trivial⟩ hn
 ·obtain rfl := sI hx
  exact WK.run (an := [.lp, .reg [], .br false]) (kt := [1, 3, 21, 22, 23]) (ko := [(3, 3), (101, 101), (103, 103)]) (ps := [(decide (((s.2.1 : Nat) : Int) > 0)) = false]) (by kernel_rfl) ⟨h22, trivial⟩ hn
noncomputable def forest_grow.l2 (c42 : Int) (c43 : Ref) (c44 : List Edge) (c45 : Int) (c46 : List (List Int)) (c47 : List Vertex) (c48 : List Edge) (c49 : List Int) (c50 : List (Int × Ref)) (s : Int) : Option (Nx Int (List (List Int))) :=
 br (decide (s < c45)) (
  getR c44 s fun a54 =>
  bd (graph_Other a54 c42) fun y57 =>
  oc (mapGet c50 y57) (
   none) fun a61 => (
   gd (0 ≤ (1 : Int) ∧ (1 : Int) < ((a61.len : Nat) : Int)) <|
   bd (c46[a61.i]?) fun a64 =>
   bd (a64[(a61.off + (1 : Int).toNat)]?) fun a65 =>
   gd (0 ≤ (1 : Int) ∧ (1 : Int) < ((c43.len : Nat) : Int)) <|
   bd (c46[c43.i]?) fun a69 =>
   bd (a69[(c43.off + (1 : Int).toNat)]?) fun a70 =>
   br (a65 == (IntKind.i64.wrap (a70 - 1))) (
    gd (0 ≤ (2 : Int) ∧ (2 : Int) < ((c43.len : Nat) : Int)) <|
    bd (c46[c43.i]?) fun a78 =>
    bd (a78[(c43.off + (2 : Int).toNat)]?) fun a79 =>
    some (.done (c46.set c43.i (a78.set (c43.off + (2 : Int).toNat) a54.ID)))) (
    some (.cont (IntKind.i64.wrap (s + 1)))))) (
  some (.done c46))
abbrev forest_grow.l2.enc (f : Nat) (c42 : Int) (c43 : Ref) (c44 : List Edge) (c45 : Int) (c46 : List (List Int)) (c47 : List Vertex) (c48 : List Edge) (c49 : List Int) (c50 : List (Int × Ref)) (c51 : Nat) (c52 : List Nat) (s : Int) : St := ⟨121, [(1, .ref 101 0 0 0), (3, .mp 103), (15, .pv (.int .i64 c42)), (16, .pv (.fh f c43.i c43.off c43.len 1)), (89, .ref 105 0 0 0), (97, .pv (.sl (c44.map Edge.enc))), (98, .pv (.int .i64 c45)), (99, .pv (.int .i64 s))], [(3, .fam false f 1 (c46.map (List.map eInt))), (101, .varp [.sl (c47.map Vertex.enc), .sl (c48.map Edge.enc), .sl (c49.map eInt)]), (103, .mp false false true (c50.map mKey) (c50.map (mRow (eRef f 1)))), (105, .it 103 c51 c52)]⟩
abbrev forest_grow.l2.post (f : Nat) (c42 : Int) (c43 : Ref) (c44 : List Edge) (c45 : Int) (c46 : List (List Int)) (c47 : List Vertex) (c48 : List Edge) (c49 : List Int) (c50 : List (Int × Ref)) (c51 : Nat) (c52 : List Nat) (r : AV) (outs : List AObj) (q : (List (List Int))) : Prop := WK Try.prog (40, 0) [.inLoop (sub b40 [1, 0, 1, 1, 1, 0, 1, 0, 0]), .inBlock 6, .code (sub b40 [1, 0, 1, 1, 1, 1]), .inScope (sub b40 [1, 0])] ⟨121, [(1, .ref 101 0 0 0), (3, .mp 103), (89, .ref 105 0 0 0)], [(3, .fam false f 1 (q.map (List.map eInt))), (101, .varp [.sl (c47.map Vertex.enc), .sl (c48.map Edge.enc), .sl (c49.map eInt)]), (103, .mp false false true (c50.map mKey) (c50.map (mRow (eRef f 1)))), (105, .it 103 c51 c52)]⟩ r outs
theorem forest_grow.l2.ok (f : Nat) (c42 : Int) (c43 : Ref) (c44 : List Edge) (c45 : Int) (c46 : List (List Int)) (c47 : List Vertex) (c48 : List Edge) (c49 : List Int) (c50 : List (Int × Ref)) (c51 : Nat) (c52 : List Nat) (r : AV) (outs : List AObj) (s : Int) (q : (List (List Int))) (h : loopN fuel (forest_grow.l2 c42 c43 c44 c45 c46 c47 c48 c49 c50) s = some q) (hd : forest_grow.l2.post f c42 c43 c44 c45 c46 c47 c48 c49 c50 c51 c52 r outs q) :
  WK Try.prog (40, 0) [.inLoop (sub b40 [1, 0, 1, 1, 1, 0, 1, 0, 0, 1, 1, 0, 1, 1, 0, 0]), .inBlock 8, .inBlock 7, .inLoop (sub b40 [1, 0, 1, 1, 1, 0, 1, 0, 0]), .inBlock 6, .code (sub b40 [1, 0, 1, 1, 1, 1]), .inScope (sub b40 [1, 0])] (forest_grow.l2.enc f c42 c43 c44 c45 c46 c47 c48 c49 c50 c51 c52 s) r outs := by
 refine WK.loop (forest_grow.l2.enc f c42 c43 c44 c45 c46 c47 c48 c49 c50 c51 c52) (forest_grow.l2 c42 c43 c44 c45 c46 c47 c48 c49 c50) (forest_grow.l2.post f c42 c43 c44 c45 c46 c47 c48 c49 c50 c51 c52 r outs) ?_ fuel s q h hd
 intro s x hx hn
 unfold forest_grow.l2 at hx
 refine br_ok hx (fun h53 hx => ?_) (fun h53 hx => ?_)
 ·refine getR_ok hx fun a54 h55 h56 hx => ?_
  refine bd_ok hx fun y57 e58 hx => ?_
  let Q59 : List Prop := [(decide (s < c45)) = true, 0 ≤ (s : Int), (c44.map Edge.enc)[(s : Int).toNat]? = some (Edge.enc a54), (Edge.enc a54).length = 6, 6 = 6, Spec Try.prog 35 [.aggp [.int .i64 a54.ID, .int .i64 a54.From, .int .i64 a54.To, .bool a54.Directed, .int .i64 a54.Weight, .int .i64 a54.Cap], .pv (.int .i64 c42)] [] (.pv (.int .i64 y57)) []]
  have k60 : All Q59 := ⟨h53, h55, rowOb h56, rfl, rfl, graph_Other.ok a54 c42 e58, trivial⟩
  refine oc_ok hx (fun h62 hx => ?_) (fun a61 h62 hx => ?_)
  ·cases hx
  ·refine gd_ok hx fun h63 hx => ?_
   refine bd_ok hx fun a64 h66 hx => ?_
   refine bd_ok hx fun a65 h67 hx => ?_
   refine gd_ok hx fun h68 hx => ?_
   refine bd_ok hx fun a69 h71 hx => ?_
   refine bd_ok hx fun a70 h72 hx => ?_
   let A73 : List An := [.lp, .reg [], .br true, .reg [(0, none, .row (Edge.enc a54)), (2, none, .nm 1033)], .draw [0, 1, 2, 3, 4, 5, 6, 7, 8, 9, 10, 11] [(3, none, .call [] [] (.pv (.int .i64 y57)) [] []), (4, none, .mget (.pv (.fh f a61.i a61.off a61.len 1)) (some ((eRef f 1) a61))), (6, none, .frow 3 (a64.map eInt) (eInt a65)), (9, none, .frow 3 (a69.map eInt) (eInt a70))]]
   let Q74 : List Prop := (Q59 ++ [intKeys .i64 (c50.map mKey), mfind (c50.map mKey) (c50.map (mRow (eRef f 1))) (.int .i64 y57) = some ((eRef f 1) a61), rowAV false ((eRef f 1) a61) = some (.pv (.fh f a61.i a61.off a61.len 1)), 0 ≤ (1 : Int), (1 : Int) < ((a61.len : Nat) : Int), f = f, (c46.map (List.map eInt))[a61.i]? = some (a64.map eInt), (a64.map eInt)[(a61.off + (1 : Int).toNat)]? = some (eInt a65), 0 ≤ (1 : Int), (1 : Int) < ((c43.len : Nat) : Int), f = f, (c46.map (List.map eInt))[c43.i]? = some (a69.map eInt), (a69.map eInt)[(c43.off + (1 : Int).toNat)]? = some (eInt a70)])
   have k75 : All Q74 := (All_append.2 ⟨k60, ⟨ikOb, mfindOb h62, rfl, h63.1, h63.2, rfl, memGet h66, rowOb h67, h68.1, h68.2, rfl, memGet h71, rowOb h72, trivial⟩⟩)
   refine br_ok hx (fun h76 hx => ?_) (fun h76 hx => ?_)
   ·refine gd_ok hx fun h77 hx => ?_
    refine bd_ok hx fun a78 h80 hx => ?_
    refine bd_ok hx fun a79 h81 hx => ?_
    obtain rfl := sI hx
    exact WK.run (an := (A73 ++ [.br true, .reg [(4, none, .frows 3 (a78.map eInt) (eInt a79) ((c46.set c43.i (a78.set (c43.off + (2 : Int).toNat) a54.ID)).map (List.map eInt)))]])) (kt := [1, 3, 89]) (ko := [(3, 3), (101, 101), (103, 103), (105, 105)]) (ps := (Q74 ++ [(a65 == (IntKind.i64.wrap (a70 - 1))) = true, 0 ≤ (2 : Int), (2 : Int) < ((c43.len : Nat) : Int), f = f, (c46.map (List.map eInt))[c43.i]? = some (a78.map eInt), (a78.map eInt)[(c43.off + (2 : Int).toNat)]? = some (eInt a79), 1 = 1, 0 + 1 ≤ (eInt a79).length, (c46.map (List.map eInt)).set c43.i ((a78.map eInt).set (c43.off + (2 : Int).toNat) (splice (eInt a79) 0 [.int .i64 a54.ID])) = ((c46.set c43.i (a78.set (c43.off + (2 : Int).toNat) a54.ID)).map (List.map eInt))])) (by kernel_rfl) (All_append.2 ⟨k75, ⟨h76, h77.1, h77.2, rfl, memGet h80, rowOb h81, rfl, Nat.le_of_ble_eq_true rfl, memSet (f := eInt) (y := a54.ID) rfl, trivial⟩⟩) hn
   ·obtain rfl := sI hx
    exact WK.run (an := (A73 ++ [.br false, .reg []])) (kt := [1, 3, 15, 16, 89, 97, 98, 99]) (ko := [(3, 3), (101, 101), (103, 103), (105, 105)]) (ps := (Q74 ++ [(a65 == (IntKind.i64.wrap (a70 - 1))) = false])) (by kernel_rfl) (All_append.2 ⟨k75, ⟨h76, trivial⟩⟩) hn
 ·obtain rfl := sI hx
  exact WK.run (an := [.lp, .reg [], .br false]) (kt := [1, 3, 89]) (ko := [(3, 3), (101, 101), (103, 103), (105, 105)]) (ps := [(decide (s < c45)) = false]) (by kernel_rfl) ⟨h53, trivial⟩ hn
noncomputable def forest_grow.l3 (c34 : List Vertex) (c35 : List Edge) (c36 : List Int) (c37 : List (Int × Ref)) (i : Nat) (s : (List (List Int))) : Option (Nx (List (List Int)) Empty) :=
 bd (c37[i]?) fun a38 =>
 bd (graph_At (Graph.mk c34 c35 c36) a38.1) fun y40 =>
 bd (loopN fuel (forest_grow.l2 a38.1 a38.2 y40 ((y40.length : Nat) : Int) s c34 c35 c36 c37) 0) fun q42 =>
 some (.cont q42)
abbrev forest_grow.l3.enc (f : Nat) (c34 : List Vertex) (c35 : List Edge) (c36 : List Int) (c37 : List (Int × Ref)) (s : (List (List Int))) (seen : List Nat) : St := ⟨121, [(1, .ref 101 0 0 0), (3, .mp 103), (89, .ref 105 0 0 0)], [(3, .fam false f 1 (s.map (List.map eInt))), (101, .varp [.sl (c34.map Vertex.enc), .sl (c35.map Edge.enc), .sl (c36.map eInt)]), (103, .mp false false true (c37.map mKey) (c37.map (mRow (eRef f 1)))), (105, .it 103 ((c37.map mKey).length) seen)]⟩
abbrev forest_grow.l3.encT (f : Nat) (c34 : List Vertex) (c35 : List Edge) (c36 : List Int) (c37 : List (Int × Ref)) (s : (List (List Int))) (seen : List Nat) : St := ⟨121, [(1, .ref 101 0 0 0), (3, .mp 103), (89, .ref 105 0 0 0), (90, .undef), (91, .pv (.bool true))], [(3, .fam false f 1 (s.map (List.map eInt))), (101, .varp [.sl (c34.map Vertex.enc), .sl (c35.map Edge.enc), .sl (c36.map eInt)]), (103, .mp false false true (c37.map mKey) (c37.map (mRow (eRef f 1)))), (105, .it 103 ((c37.map mKey).length) seen)]⟩
abbrev forest_grow.l3.encF (f : Nat) (c34 : List Vertex) (c35 : List Edge) (c36 : List Int) (c37 : List (Int × Ref)) (s : (List (List Int))) (seen : List Nat) : St := ⟨121, [(1, .ref 101 0 0 0), (3, .mp 103), (89, .ref 105 0 0 0), (90, .undef), (91, .pv (.bool false))], [(3, .fam false f 1 (s.map (List.map eInt))), (101, .varp [.sl (c34.map Vertex.enc), .sl (c35.map Edge.enc), .sl (c36.map eInt)]), (103, .mp false false true (c37.map mKey) (c37.map (mRow (eRef f 1)))), (105, .it 103 ((c37.map mKey).length) seen)]⟩
abbrev forest_grow.l3.post (f : Nat) (c34 : List Vertex) (c35 : List Edge) (c36 : List Int) (c37 : List (Int × Ref)) (r : AV) (outs : List AObj) (s : (List (List Int))) : Prop := WK Try.prog (40, 0) [.code (sub b40 [1, 0, 1, 1, 1, 1, 0]), .code (sub b40 [1, 0, 1, 1, 1, 1, 1]), .inScope (sub b40 [1, 0])] ⟨121, [(3, .mp 101)], [(3, .fam false f 1 (s.map (List.map eInt))), (101, .mp false false true (c37.map mKey) (c37.map (mRow (eRef f 1))))]⟩ r outs
theorem forest_grow.l3.ok (f : Nat) (c34 : List Vertex) (c35 : List Edge) (c36 : List Int) (c37 : List (Int × Ref)) (r : AV) (outs : List AObj) (s : (List (List Int))) (q : Nx (List (List Int)) Empty) (h : mapL (forest_grow.l3 c34 c35 c36 c37) (c37.map mKey).length s = some q) (hd : forest_grow.l3.post f c34 c35 c36 c37 r outs q.st) :
  WK Try.prog (40, 0) [.inLoop (sub b40 [1, 0, 1, 1, 1, 0, 1, 0, 0]), .inBlock 6, .code (sub b40 [1, 0, 1, 1, 1, 1]), .inScope (sub b40 [1, 0])] (forest_grow.l3.enc f c34 c35 c36 c37 s []) r outs := by
 refine WK.mapLoop (kp := [.code (sub b40 [1, 0, 1, 1, 1, 0, 1, 0, 0, 1]), .inLoop (sub b40 [1, 0, 1, 1, 1, 0, 1, 0, 0]), .inBlock 6, .code (sub b40 [1, 0, 1, 1, 1, 1]), .inScope (sub b40 [1, 0])]) (forest_grow.l3.enc f c34 c35 c36 c37) (forest_grow.l3.encT f c34 c35 c36 c37) (forest_grow.l3.encF f c34 c35 c36 c37) (c37.map mKey).length (forest_grow.l3 c34 c35 c36 c37) (forest_grow.l3.post f c34 c35 c36 c37 r outs) (fun _ => True) ?_ ?_ ?_ s q h (match q, hd with | .cont _, hd => hd)
 ·intro s seen h1 h2
  refine evK_sound2 (f := 100) (an := [.lp]) (ps := []) (k' := .code (sub b40 [1, 0, 1, 1, 1, 0, 1, 0, 0, 0]) :: [.code (sub b40 [1, 0, 1, 1, 1, 0, 1, 0, 0, 1]), .inLoop (sub b40 [1, 0, 1, 1, 1, 0, 1, 0, 0]), .inBlock 6, .code (sub b40 [1, 0, 1, 1, 1, 1]), .inScope (sub b40 [1, 0])]) (σ' := forest_grow.l3.enc f c34 c35 c36 c37 s seen) (by kernel_rfl) trivial ?_
  exact WK.next (it := 89) (d0 := 90) (d1 := 91) (by kernel_rfl) (by kernel_rfl) (n := 105) (m := 103) rfl rfl rfl rfl (fun i => forest_grow.l3.encT f c34 c35 c36 c37 s (seen ++ [i])) (forest_grow.l3.encF f c34 c35 c36 c37 s seen) (fun _ => by kernel_rfl) (by kernel_rfl) h1 h2
 ·intro s seen i x hx hn
  unfold forest_grow.l3 at hx
  refine bd_ok hx fun a38 h39 hx => ?_
  refine bd_ok hx fun y40 e41 hx => ?_
  refine bd_ok hx fun q42 e43 hx => ?_
  refine WK.run (an := [.bk, .reg [(0, none, .ent 103 i (.int .i64 a38.1) ((eRef f 1) a38.2))], .reg [(2, none, .call [] [] (.pv (.sl (y40.map Edge.enc))) [] []), (3, none, .val (.pv (.int .i64 ((y40.length : Nat) : Int))))]]) (kt := [1, 3, 15, 16, 89, 97, 98, 99]) (ko := [(3, 3), (101, 101), (103, 103), (105, 105)]) (ps := [(seen ++ [i]).getLast? = some i, (c37.map mKey)[i]? = some (.int .i64 a38.1), (c37.map (mRow (eRef f 1)))[i]? = some ((eRef f 1) a38.2), (c37.map mKey).length = (c37.map mKey).length, Spec Try.prog 33 [.aggp [.sl (c34.map Vertex.enc), .sl (c35.map Edge.enc), .sl (c36.map eInt)], .pv (.int .i64 a38.1)] [] (.pv (.sl (y40.map Edge.enc))) [], AV.pv (.int .i64 ((y40.map Edge.enc).length : Nat)) = .pv (.int .i64 (y40.length : Nat))]) (by kernel_rfl) ⟨lastOb, by rw [List.getElem?_map, h39]; rfl, rowOb (f := mRow (eRef f 1)) h39, rfl, graph_At.ok (Graph.mk c34 c35 c36) a38.1 e41, lenOb, trivial⟩ (WK.enterLoop (forest_grow.l2.ok f a38.1 a38.2 y40 ((y40.length : Nat) : Int) s c34 c35 c36 c37 ((c37.map mKey).length) (seen ++ [i]) _ _ _ _ e43 ?_))
  obtain rfl := sI hx
  exact WK.run (an := []) (kt := [1, 3, 89]) (ko := [(3, 3), (101, 101), (103, 103), (105, 105)]) (ps := []) (by kernel_rfl) trivial hn
 ·intro s seen hE
  refine WK.run (an := [.bk]) (kt := [3]) (ko := [(3, 3), (103, 101)]) (k' := [.code (sub b40 [1, 0, 1, 1, 1, 1, 0]), .code (sub b40 [1, 0, 1, 1, 1, 1, 1]), .inScope (sub b40 [1, 0])]) (σ' := ⟨121, [(3, .mp 101)], [(3, .fam false f 1 (s.map (List.map eInt))), (101, .mp false false true (c37.map mKey) (c37.map (mRow (eRef f 1))))]⟩) (ps := [])
   (by kernel_rfl) trivial ?_
  exact hE
noncomputable def forest_grow.l4 (c2 : List Vertex) (c3 : Int) (c4 : List Vertex) (c5 : List Edge) (c6 : List Int) (s : Int × (List (List Int)) × (List (Int × Ref))) : Option (Nx (Int × (List (List Int)) × (List (Int × Ref))) ((List (List Int)) × (List (Int × Ref)))) :=
 br (decide (s.1 < c3)) (
  getR c2 s.1 fun a8 =>
  oc (mapGet s.2.2 a8.ID) (
   bd (loopN fuel (forest_grow.l1 c2 c3 s.1 c4 c5 c6 a8.ID a8.Side) (0, ([a8.ID].map eInt).length, (s.2.1 ++ [[a8.ID, 0, (-1)]]), (mapSet s.2.2 a8.ID (Ref.mk s.2.1.length 0 3)), [a8.ID])) fun q13 =>
   some (.cont ((IntKind.i64.wrap (s.1 + 1)), q13.1, q13.2))) fun a11 => (
   some (.cont ((IntKind.i64.wrap (s.1 + 1)), s.2.1, s.2.2)))) (
  bd (mapL (forest_grow.l3 c4 c5 c6 s.2.2) ((s.2.2.map mKey).length) s.2.1) fun q15 =>
  some (.done (q15.st, s.2.2)))
abbrev forest_grow.l4.enc (f : Nat) (c2 : List Vertex) (c3 : Int) (c4 : List Vertex) (c5 : List Edge) (c6 : List Int) (s : Int × (List (List Int)) × (List (Int × Ref))) : St := ⟨121, [(1, .ref 101 0 0 0), (3, .mp 103), (21, .pv (.sl (c2.map Vertex.enc))), (22, .pv (.int .i64 c3)), (23, .pv (.int .i64 s.1))], [(3, .fam false f 1 (s.2.1.map (List.map eInt))), (101, .varp [.sl (c4.map Vertex.enc), .sl (c5.map Edge.enc), .sl (c6.map eInt)]), (103, .mp false false true (s.2.2.map mKey) (s.2.2.map (mRow (eRef f 1))))]⟩
abbrev forest_grow.l4.post (f : Nat) (c2 : List Vertex) (c3 : Int) (c4 : List Vertex) (c5 : List Edge) (c6 : List Int) (r : AV) (outs : List AObj) (q : ((List (List Int)) × (List (Int × Ref)))) : Prop := WK Try.prog (40, 0) [.code (sub b40 [1, 0, 1, 1, 1, 1, 0]), .code (sub b40 [1, 0, 1, 1, 1, 1, 1]), .inScope (sub b40 [1, 0])] ⟨121, [(3, .mp 101)], [(3, .fam false f 1 (q.1.map (List.map eInt))), (101, .mp false false true (q.2.map mKey) (q.2.map (mRow (eRef f 1))))]⟩ r outs
theorem forest_grow.l4.ok (f : Nat) (c2 : List Vertex) (c3 : Int) (c4 : List Vertex) (c5 : List Edge) (c6 : List Int) (r : AV) (outs : List AObj) (s : Int × (List (List Int)) × (List (Int × Ref))) (q : ((List (List Int)) × (List (Int × Ref)))) (h : loopN fuel (forest_grow.l4 c2 c3 c4 c5 c6) s = some q) (hd : forest_grow.l4.post f c2 c3 c4 c5 c6 r outs q) :
  WK Try.prog (40, 0) [.inLoop (sub b40 [1, 0, 1, 0, 1, 0, 0]), .inBlock 0, .code (sub b40 [1, 0, 1, 1]), .inScope (sub b40 [1, 0])] (forest_grow.l4.enc f c2 c3 c4 c5 c6 s) r outs := by
 refine WK.loop (forest_grow.l4.enc f c2 c3 c4 c5 c6) (forest_grow.l4 c2 c3 c4 c5 c6) (forest_grow.l4.post f c2 c3 c4 c5 c6 r outs) ?_ fuel s q h hd
 intro s x hx hn
 unfold forest_grow.l4 at hx
 refine br_ok hx (fun h7 hx => ?_) (fun h7 hx => ?_)
 ·refine getR_ok hx fun a8 h9 h10 hx => ?_
  refine oc_ok hx (fun h12 hx => ?_) (fun a11 h12 hx => ?_)
  ·refine bd_ok hx fun q13 e14 hx => ?_
   refine WK.run (an := [.lp, .reg [], .br true, .reg [(0, none, .row (Vertex.enc a8)), (2, none, .nm 1035)], .reg [(3, none, .mget .undef none)], .reg [], .bk, .reg [(5, none, .mi 3 1037 s.2.1.length ((s.2.1 ++ [[a8.ID, 0, (-1)]]).map (List.map eInt)) (.nm 1037)), (6, none, .mset ((mapSet s.2.2 a8.ID (Ref.mk s.2.1.length 0 3)).map mKey) ((mapSet s.2.2 a8.ID (Ref.mk s.2.1.length 0 3)).map (mRow (eRef f 1))))], .reg [(2, none, .nm 1039)]]) (kt := [1, 3, 5, 8, 21, 22, 23]) (ko := [(3, 3), (101, 101), (103, 103), (1035, 105), (1039, 107)]) (ps := [(decide (s.1 < c3)) = true, 0 ≤ (s.1 : Int), (c2.map Vertex.enc)[(s.1 : Int).toNat]? = some (Vertex.enc a8), (Vertex.enc a8).length = 2, 2 = 2, intKeys .i64 (s.2.2.map mKey), mfind (s.2.2.map mKey) (s.2.2.map (mRow (eRef f 1))) (.int .i64 a8.ID) = none, 1 = 1, 1 = 1, 1 = 1, 1 = 1, (s.2.1.map (List.map eInt)).length = s.2.1.length, (s.2.1.map (List.map eInt)) ++ [([a8.ID, 0, (-1)].map eInt)] = ((s.2.1 ++ [[a8.ID, 0, (-1)]]).map (List.map eInt)), 3 = ([a8.ID, 0, (-1)].map eInt).length, intKeys .i64 (s.2.2.map mKey), mput (s.2.2.map mKey) (s.2.2.map (mRow (eRef f 1))) (.int .i64 a8.ID) [.fh f (Ref.mk s.2.1.length 0 3).i (Ref.mk s.2.1.length 0 3).off (Ref.mk s.2.1.length 0 3).len 1] = (((mapSet s.2.2 a8.ID (Ref.mk s.2.1.length 0 3)).map mKey), ((mapSet s.2.2 a8.ID (Ref.mk s.2.1.length 0 3)).map (mRow (eRef f 1)))), 1 = 1, 1 = 1]) (by kernel_rfl) ⟨h7, h9, rowOb h10, rfl, rfl, ikOb, mfindOb0 h12, rfl, rfl, rfl, rfl, memLen, memApp rfl, rfl, ikOb, mputOb (f := (eRef f 1)) (v := (Ref.mk s.2.1.length 0 3)), rfl, rfl, trivial⟩ (WK.enterLoop (forest_grow.l1.ok f c2 c3 s.1 c4 c5 c6 a8.ID a8.Side _ _ _ _ e14 ?_))
   obtain rfl := sI hx
   exact WK.run (an := [.reg []]) (kt := [1, 3, 21, 22, 23]) (ko := [(3, 3), (101, 101), (103, 103)]) (ps := []) (by kernel_rfl) trivial hn
  ·obtain rfl := sI hx
   exact WK.run (an := [.lp, .reg [], .br true, .reg [(0, none, .row (Vertex.enc a8)), (2, none, .nm 1035)], .reg [(3, none, .mget (.pv (.fh f a11.i a11.off a11.len 1)) (some ((eRef f 1) a11)))], .reg [], .bk, .reg []]) (kt := [1, 3, 21, 22, 23]) (ko := [(3, 3), (101, 101), (103, 103)]) (ps := [(decide (s.1 < c3)) = true, 0 ≤ (s.1 : Int), (c2.map Vertex.enc)[(s.1 : Int).toNat]? = some (Vertex.enc a8), (Vertex.enc a8).length = 2, 2 = 2, intKeys .i64 (s.2.2.map mKey), mfind (s.2.2.map mKey) (s.2.2.map (mRow (eRef f 1))) (.int .i64 a8.ID) = some ((eRef f 1) a11), rowAV false ((eRef f 1) a11) = some (.pv (.fh f a11.i a11.off a11.len 1))]) (by kernel_rfl) ⟨h7, h9, rowOb h10, rfl, rfl, ikOb, mfindOb h12, rfl, trivial⟩ hn
 ·refine bd_ok hx fun q15 e16 hx => ?_
  refine WK.run (an := [.lp, .reg [], .br false, .reg [(1, none, .nm 1041)]]) (kt := [1, 3, 89]) (ko := [(3, 3), (101, 101), (103, 103), (1041, 105)]) (ps := [(decide (s.1 < c3)) = false]) (by kernel_rfl) ⟨h7, trivial⟩ (WK.enterLoop (forest_grow.l3.ok f c4 c5 c6 s.2.2 _ _ _ _ e16 ?_))
  obtain rfl := sI hx
  exact WK.run (an := []) (kt := [3]) (ko := [(3, 3), (101, 101)]) (ps := []) (by kernel_rfl) trivial hn
noncomputable def forest_grow (v1 : Graph) : Option (List (Int × (Option (List Int)))) :=
 bd (loopN fuel (forest_grow.l4 v1.Vertices ((v1.Vertices.length : Nat) : Int) v1.Vertices v1.Edges v1.Depots) (0, [], ([] : List (Int × Ref)))) fun q17 =>
 bd (mapO (fun x => bd (resRef q17.1 x.2) fun y19 => some ((x.1, some y19) : Int × (Option (List Int)))) q17.2) fun l21 =>
 some l21
theorem forest_grow.ok (v1 : Graph) {x : (List (Int × (Option (List Int))))} (hx : forest_grow v1 = some x) :
  Spec Try.prog 40 [.aggp [.sl (v1.Vertices.map Vertex.enc), .sl (v1.Edges.map Edge.enc), .sl (v1.Depots.map eInt)]] [] (.pv (.mp false (x.map mKey) (x.map (mRow (eOpt eInt))))) [] := by
 refine Spec.of (c := b40) Try.func40 rfl rfl rfl ?_
 refine WK.birth 3 1 rfl (by decide) (by decide) fun f => ?_
 unfold forest_grow at hx
 refine bd_ok hx fun q17 e18 hx => ?_
 refine WK.run (an := [.reg [(0, none, .nm 1003)], .reg [(0, none, .nm 1005)], .reg [(2, none, .val (.pv (.int .i64 ((v1.Vertices.length : Nat) : Int))))]]) (kt := [1, 3, 21, 22, 23]) (ko := [(3, 3), (1003, 101), (1005, 103)]) (ps := [AV.pv (.int .i64 ((v1.Vertices.map Vertex.enc).length : Nat)) = .pv (.int .i64 (v1.Vertices.length : Nat))]) (by kernel_rfl) ⟨lenOb, trivial⟩ (WK.enterLoop (forest_grow.l4.ok f v1.Vertices ((v1.Vertices.length : Nat) : Int) v1.Vertices v1.Edges v1.Depots _ _ _ _ e18 ?_))
 refine bd_ok hx fun l21 h22 hx => ?_
 obtain rfl := sI hx
 refine WK.run (an := [.reg []]) (kt := [2]) (ko := [(3, 3), (101, 101)]) (k' := [.code (sub b40 [1, 0, 1, 1, 1, 1, 1]), .inScope (sub b40 [1, 0])]) (σ' := ⟨121, [(2, .mp 101)], [(3, .fam false f 1 (q17.1.map (List.map eInt))), (101, .mp false false true (q17.2.map mKey) (q17.2.map (mRow (eRef f 1))))]⟩) (ps := [])
  (by kernel_rfl) trivial ?_
 refine WK.ffz 3 (f := f) (sz := 1) (mem := (q17.1.map (List.map eInt))) rfl ?_
 refine WK.tell 3 101 (.mp false false true (l21.map mKey) (l21.map (mRow (eOpt eInt)))) (f := f) (sz := 1) (mem := (q17.1.map (List.map eInt))) (o := .mp false false true (q17.2.map mKey) (q17.2.map (mRow (eRef f 1)))) rfl rfl (TellO.mp _ _ _ _ _ _ _ (keysOb h22 (fun x y hy => by refine bd_ok hy fun _ _ hy => ?_; cases hy; rfl)) (tellOb (f := mRow (eRef f 1)) (g := mRow (eOpt eInt)) h22 (fun x y hy => by refine bd_ok hy fun y19 h20 hy => ?_; cases hy; exact tellCons (resOb' h20) tellNil))) ?_
 exact WK.ret (fn := Try.f40) Try.func40 (frz := [101]) (esc := []) (ps := []) (by kernel_rfl) trivial
noncomputable abbrev b11 : Code := body Try.f11
noncomputable def forest_Labels.l0 (c7 : List (Int × (Option (List Int)))) (c8 : List Vertex) (c9 : Int) (s : Int × (List Named)) : Option (Nx (Int × (List Named)) (List Named)) :=
 br (decide (s.1 < c9)) (
  getR c8 s.1 fun a11 =>
  oc (mapGet c7 a11.ID) (
   gd ((s.2 ++ [(Named.mk a11.ID [])]).length ≤ bigLen) <|
   some (.cont ((IntKind.i64.wrap (s.1 + 1)), (s.2 ++ [(Named.mk a11.ID [])])))) fun a14 => (
   oc (a14) (
    gd ((s.2 ++ [(Named.mk a11.ID [])]).length ≤ bigLen) <|
    some (.cont ((IntKind.i64.wrap (s.1 + 1)), (s.2 ++ [(Named.mk a11.ID [])])))) fun a17 => (
    gd ((s.2 ++ [(Named.mk a11.ID a17)]).length ≤ bigLen) <|
    some (.cont ((IntKind.i64.wrap (s.1 + 1)), (s.2 ++ [(Named.mk a11.ID a17)])))))) (
  some (.done s.2))
abbrev forest_Labels.l0.enc (c7 : List (Int × (Option (List Int)))) (c8 : List Vertex) (c9 : Int) (s : Int × (List Named)) : St := ⟨32, [(4, .pv (.mp false (c7.map mKey) (c7.map (mRow (eOpt eInt))))), (5, .hd 101 0 ((s.2.map Named.enc).length) 2), (14, .pv (.sl (c8.map Vertex.enc))), (15, .pv (.int .i64 c9)), (16, .pv (.int .i64 s.1))], [(101, .sl false 2 (s.2.map Named.enc))]⟩
abbrev forest_Labels.l0.post (c7 : List (Int × (Option (List Int)))) (c8 : List Vertex) (c9 : Int) (r : AV) (outs : List AObj) (q : (List Named)) : Prop := WK Try.prog (11, 0) [.code (sub b11 [1, 1, 1, 1, 1, 0]), .code (sub b11 [1, 1, 1, 1, 1, 1])] ⟨32, [(5, .hd 101 0 ((q.map Named.enc).length) 2)], [(101, .sl false 2 (q.map Named.enc))]⟩ r outs
theorem forest_Labels.l0.ok (c7 : List (Int × (Option (List Int)))) (c8 : List Vertex) (c9 : Int) (r : AV) (outs : List AObj) (s : Int × (List Named)) (q : (List Named)) (h : loopN fuel (forest_Labels.l0 c7 c8 c9) s = some q) (hd : forest_Labels.l0.post c7 c8 c9 r outs q) :
  WK Try.prog (11, 0) [.inLoop (sub b11 [1, 1, 1, 1, 0, 1, 0, 0]), .inBlock 0, .code (sub b11 [1, 1, 1, 1, 1])] (forest_Labels.l0.enc c7 c8 c9 s) r outs := by
 refine WK.loop (forest_Labels.l0.enc c7 c8 c9) (forest_Labels.l0 c7 c8 c9) (forest_Labels.l0.post c7 c8 c9 r outs) ?_ fuel s q h hd
 intro s x hx hn
 unfold forest_Labels.l0 at hx
 refine br_ok hx (fun h10 hx => ?_) (fun h10 hx => ?_)
 ·refine getR_ok hx fun a11 h12 h13 hx => ?_
  refine oc_ok hx (fun h15 hx => ?_) (fun a14 h15 hx => ?_)
  ·refine gd_ok hx fun h16 hx => ?_
   obtain rfl := sI hx
   exact WK.run (an := [.lp, .reg [], .br true, .reg [(0, none, .row (Vertex.enc a11)), (2, none, .nm 1021)], .reg [(6, none, .mget .undef none), (7, none, .val (.aggp [.int .i64 a11.ID, .sl ([].map eInt)])), (8, none, .nm 1023), (9, none, .app 1025 ((s.2 ++ [(Named.mk a11.ID [])]).map Named.enc))], .reg []]) (kt := [4, 5, 14, 15, 16]) (ko := [(1025, 101)]) (ps := [(decide (s.1 < c9)) = true, 0 ≤ (s.1 : Int), (c8.map Vertex.enc)[(s.1 : Int).toNat]? = some (Vertex.enc a11), (Vertex.enc a11).length = 2, 2 = 2, intKeys .i64 (c7.map mKey), mfind (c7.map mKey) (c7.map (mRow (eOpt eInt))) (.int .i64 a11.ID) = none, AV.pv (.int .i64 a11.ID) = .pv (.int .i64 a11.ID), 2 = 2, 2 = 2, 0 + 1 ≤ ([(Named.mk a11.ID [])].map Named.enc).length, 0 + ((s.2.map Named.enc).length) = (s.2.map Named.enc).length, (s.2.map Named.enc).drop 0 ++ (cut1 ([(Named.mk a11.ID [])].map Named.enc) 0 1) = ((s.2 ++ [(Named.mk a11.ID [])]).map Named.enc), ((s.2 ++ [(Named.mk a11.ID [])]).map Named.enc).length ≤ bigLen, ∀ r ∈ (cut1 ([(Named.mk a11.ID [])].map Named.enc) 0 1), r.length = 2]) (by kernel_rfl) ⟨h10, h12, rowOb h13, rfl, rfl, ikOb, mfindOb0 h15, rfl, rfl, rfl, Nat.le_of_eq (Nat.zero_add _), Nat.zero_add _, by simp [cut1, List.take_of_length_le], bigOb h16, one_len rfl, trivial⟩ hn
  ·refine oc_ok hx (fun h18 hx => ?_) (fun a17 h18 hx => ?_)
   ·refine gd_ok hx fun h19 hx => ?_
    obtain rfl := sI hx
    exact WK.run (an := [.lp, .reg [], .br true, .reg [(0, none, .row (Vertex.enc a11)), (2, none, .nm 1021)], .reg [(6, none, .mget (.pv .nilsl) (some [.nilsl])), (7, none, .val (.aggp [.int .i64 a11.ID, .sl ([].map eInt)])), (8, none, .nm 1027), (9, none, .app 1029 ((s.2 ++ [(Named.mk a11.ID [])]).map Named.enc))], .reg []]) (kt := [4, 5, 14, 15, 16]) (ko := [(1029, 101)]) (ps := [(decide (s.1 < c9)) = true, 0 ≤ (s.1 : Int), (c8.map Vertex.enc)[(s.1 : Int).toNat]? = some (Vertex.enc a11), (Vertex.enc a11).length = 2, 2 = 2, intKeys .i64 (c7.map mKey), mfind (c7.map mKey) (c7.map (mRow (eOpt eInt))) (.int .i64 a11.ID) = some [.nilsl], rowAV false [.nilsl] = some (.pv .nilsl), AV.pv (.int .i64 a11.ID) = .pv (.int .i64 a11.ID), 2 = 2, 2 = 2, 0 + 1 ≤ ([(Named.mk a11.ID [])].map Named.enc).length, 0 + ((s.2.map Named.enc).length) = (s.2.map Named.enc).length, (s.2.map Named.enc).drop 0 ++ (cut1 ([(Named.mk a11.ID [])].map Named.enc) 0 1) = ((s.2 ++ [(Named.mk a11.ID [])]).map Named.enc), ((s.2 ++ [(Named.mk a11.ID [])]).map Named.enc).length ≤ bigLen, ∀ r ∈ (cut1 ([(Named.mk a11.ID [])].map Named.enc) 0 1), r.length = 2]) (by kernel_rfl) ⟨h10, h12, rowOb h13, rfl, rfl, ikOb, mfindOb_n h15 h18, rfl, rfl, rfl, rfl, Nat.le_of_eq (Nat.zero_add _), Nat.zero_add _, by simp [cut1, List.take_of_length_le], bigOb h19, one_len rfl, trivial⟩ hn
   ·refine gd_ok hx fun h20 hx => ?_
    obtain rfl := sI hx
    exact WK.run (an := [.lp, .reg [], .br true, .reg [(0, none, .row (Vertex.enc a11)), (2, none, .nm 1021)], .reg [(6, none, .mget (.pv (.sl (a17.map eInt))) (some [.sl (a17.map eInt)])), (8, none, .nm 1031), (9, none, .app 1033 ((s.2 ++ [(Named.mk a11.ID a17)]).map Named.enc))], .reg []]) (kt := [4, 5, 14, 15, 16]) (ko := [(1033, 101)]) (ps := [(decide (s.1 < c9)) = true, 0 ≤ (s.1 : Int), (c8.map Vertex.enc)[(s.1 : Int).toNat]? = some (Vertex.enc a11), (Vertex.enc a11).length = 2, 2 = 2, intKeys .i64 (c7.map mKey), mfind (c7.map mKey) (c7.map (mRow (eOpt eInt))) (.int .i64 a11.ID) = some [.sl (a17.map eInt)], rowAV false [.sl (a17.map eInt)] = some (.pv (.sl (a17.map eInt))), 2 = 2, 2 = 2, 0 + 1 ≤ ([(Named.mk a11.ID a17)].map Named.enc).length, 0 + ((s.2.map Named.enc).length) = (s.2.map Named.enc).length, (s.2.map Named.enc).drop 0 ++ (cut1 ([(Named.mk a11.ID a17)].map Named.enc) 0 1) = ((s.2 ++ [(Named.mk a11.ID a17)]).map Named.enc), ((s.2 ++ [(Named.mk a11.ID a17)]).map Named.enc).length ≤ bigLen, ∀ r ∈ (cut1 ([(Named.mk a11.ID a17)].map Named.enc) 0 1), r.length = 2]) (by kernel_rfl) ⟨h10, h12, rowOb h13, rfl, rfl, ikOb, mfindOb_s h15 h18, rfl, rfl, rfl, Nat.le_of_eq (Nat.zero_add _), Nat.zero_add _, by simp [cut1, List.take_of_length_le], bigOb h20, one_len rfl, trivial⟩ hn
 ·obtain rfl := sI hx
  exact WK.run (an := [.lp, .reg [], .br false]) (kt := [5]) (ko := [(101, 101)]) (ps := [(decide (s.1 < c9)) = false]) (by kernel_rfl) ⟨h10, trivial⟩ hn
noncomputable def forest_Labels (v1 : Graph) : Option ((List Named) × Int) :=
 bd (graph_Valid v1) fun y2 =>
 br (!y2) (
  some ([], 70)) (
  bd (forest_grow v1) fun y5 =>
  bd (loopN fuel (forest_Labels.l0 y5 v1.Vertices ((v1.Vertices.length : Nat) : Int)) (0, [])) fun q21 =>
  some (q21, 0))
theorem forest_Labels.ok (v1 : Graph) {x : (List Named) × Int} (hx : forest_Labels v1 = some x) :
  Spec Try.prog 11 [.aggp [.sl (v1.Vertices.map Vertex.enc), .sl (v1.Edges.map Edge.enc), .sl (v1.Depots.map eInt)]] [] (.tup [.pv (.sl (x.1.map Named.enc)), .pv (.int .i64 x.2)]) [] := by
 refine Spec.of (c := b11) Try.func11 rfl rfl rfl ?_
 unfold forest_Labels at hx
 refine bd_ok hx fun y2 e3 hx => ?_
 refine br_ok hx (fun h4 hx => ?_) (fun h4 hx => ?_)
 ·obtain rfl := sI hx
  exact WK.fin (fn := Try.f11) Try.func11 (an := [.reg [(0, none, .nm 1003), (1, none, .val (.pv (.sl ([].map Named.enc))))], .reg [(1, none, .call [] [] (.pv (.bool y2)) [] [])], .br true, .reg [(0, none, .val (.pv (.sl ([].map Named.enc))))]]) (kt := [2, 3]) (ko := []) (frz := []) (ps := [Spec Try.prog 39 [.aggp [.sl (v1.Vertices.map Vertex.enc), .sl (v1.Edges.map Edge.enc), .sl (v1.Depots.map eInt)]] [] (.pv (.bool y2)) [], (!y2) = true]) (qs := []) (by kernel_rfl) ⟨graph_Valid.ok v1 e3, h4, trivial⟩ trivial
 ·refine bd_ok hx fun y5 e6 hx => ?_
  refine bd_ok hx fun q21 e22 hx => ?_
  refine WK.run (an := [.reg [(0, none, .nm 1003), (1, none, .val (.pv (.sl ([].map Named.enc))))], .reg [(1, none, .call [] [] (.pv (.bool y2)) [] [])], .br false, .reg [(1, none, .call [] [] (.pv (.mp false (y5.map mKey) (y5.map (mRow (eOpt eInt))))) [] [])], .new 1005 2, .reg [(0, none, .val (.hd 1005 0 0 2))], .reg [(2, none, .val (.pv (.int .i64 ((v1.Vertices.length : Nat) : Int))))]]) (kt := [4, 5, 14, 15, 16]) (ko := [(1005, 101)]) (ps := [Spec Try.prog 39 [.aggp [.sl (v1.Vertices.map Vertex.enc), .sl (v1.Edges.map Edge.enc), .sl (v1.Depots.map eInt)]] [] (.pv (.bool y2)) [], (!y2) = false, Spec Try.prog 40 [.aggp [.sl (v1.Vertices.map Vertex.enc), .sl (v1.Edges.map Edge.enc), .sl (v1.Depots.map eInt)]] [] (.pv (.mp false (y5.map mKey) (y5.map (mRow (eOpt eInt))))) [], AV.pv (.int .i64 ((v1.Vertices.map Vertex.enc).length : Nat)) = .pv (.int .i64 (v1.Vertices.length : Nat))]) (by kernel_rfl) ⟨graph_Valid.ok v1 e3, h4, forest_grow.ok v1 e6, lenOb, trivial⟩ (WK.enterLoop (forest_Labels.l0.ok y5 v1.Vertices ((v1.Vertices.length : Nat) : Int) _ _ _ _ e22 ?_))
  obtain rfl := sI hx
  exact WK.fin (fn := Try.f11) Try.func11 (an := [.reg []]) (kt := [2, 3]) (ko := [(101, 101)]) (frz := [101]) (ps := []) (qs := [(q21.map Named.enc).length = (q21.map Named.enc).length]) (by kernel_rfl) trivial ⟨rfl, trivial⟩
noncomputable abbrev b76 : Code := body Try.f76
noncomputable def forest_known_1_1 (v1 : Vertex) (v2 : Int) : Option Bool :=
 some (v1.ID == v2)
theorem forest_known_1_1.ok (v1 : Vertex) (v2 : Int) {x : Bool} (hx : forest_known_1_1 v1 v2 = some x) :
  Spec Try.prog 76 [.aggp [.int .i64 v1.ID, .int .i64 v1.Side], .ref 0 0 0 0] [.varp [.int .i64 v2]] (.pv (.bool x)) [.varp [.int .i64 v2]] := by
 refine Spec.of (c := b76) Try.func76 rfl rfl rfl ?_
 unfold forest_known_1_1 at hx
 obtain rfl := sI hx
 exact WK.fin (fn := Try.f76) Try.func76 (an := [.reg [(0, none, .nm 1003)], .reg []]) (kt := [3]) (ko := [(0, 0)]) (frz := []) (ps := []) (qs := []) (by kernel_rfl) trivial trivial
noncomputable def sIndexFuncVV_1.l0 (c3 : List Vertex) (c4 : Int) (c5 : Int) (s : Int) : Option (Nx Int (Int ⊕ Unit)) :=
 br (decide (s < c4)) (
  getR c3 s fun a7 =>
  bd (forest_known_1_1 a7 c5) fun y10 =>
  br y10 (
   some (.done (.inl s))) (
   some (.cont (IntKind.i64.wrap (s + 1))))) (
  some (.done (.inr ())))
abbrev sIndexFuncVV_1.l0.enc (c3 : List Vertex) (c4 : Int) (c5 : Int) (s : Int) : St := ⟨19, [(0, .pv (.sl (c3.map Vertex.enc))), (1, .clo 76 [.ref 0 0 0 0]), (7, .pv (.int .i64 c4)), (8, .pv (.int .i64 s))], [(0, .varp [.int .i64 c5])]⟩
abbrev sIndexFuncVV_1.l0.post (c3 : List Vertex) (c4 : Int) (c5 : Int) (r : AV) (outs : List AObj) (q : Int ⊕ Unit) : Prop := match q with | .inl q => WK Try.prog (88, 1) [.code (sub b88 [1, 0, 1, 0, 0, 1, 1, 0, 0, 1, 1, 0, 1]), .inBlock 1, .code (sub b88 [1, 0, 1, 0, 0, 1, 1, 1]), .inLoop (sub b88 [1, 0, 1, 0, 0]), .inBlock 0, .code (sub b88 [1, 1])] ⟨19, [(4, .pv (.int .i64 q))], [(0, .varp [.int .i64 c5])]⟩ r outs | .inr q => WK Try.prog (88, 1) [.code (sub b88 [1, 1, 0]), .code (sub b88 [1, 1, 1])] ⟨19, [], [(0, .varp [.int .i64 c5])]⟩ r outs
theorem sIndexFuncVV_1.l0.ok (c3 : List Vertex) (c4 : Int) (c5 : Int) (r : AV) (outs : List AObj) (s : Int) (q : Int ⊕ Unit) (h : loopN fuel (sIndexFuncVV_1.l0 c3 c4 c5) s = some q) (hd : sIndexFuncVV_1.l0.post c3 c4 c5 r outs q) :
  WK Try.prog (88, 1) [.inLoop (sub b88 [1, 0, 1, 0, 0]), .inBlock 0, .code (sub b88 [1, 1])] (sIndexFuncVV_1.l0.enc c3 c4 c5 s) r outs := by
 refine WK.loop (sIndexFuncVV_1.l0.enc c3 c4 c5) (sIndexFuncVV_1.l0 c3 c4 c5) (sIndexFuncVV_1.l0.post c3 c4 c5 r outs) ?_ fuel s q h hd
 intro s x hx hn
 unfold sIndexFuncVV_1.l0 at hx
 refine br_ok hx (fun h6 hx => ?_) (fun h6 hx => ?_)
 ·refine getR_ok hx fun a7 h8 h9 hx => ?_
  refine bd_ok hx fun y10 e11 hx => ?_
  let Q12 : List Prop := [(decide (s < c4)) = true, 0 ≤ (s : Int), (c3.map Vertex.enc)[(s : Int).toNat]? = some (Vertex.enc a7), (Vertex.enc a7).length = 2, Spec Try.prog 76 [.aggp [.int .i64 a7.ID, .int .i64 a7.Side], .ref 0 0 0 0] [.varp [.int .i64 c5]] (.pv (.bool y10)) [.varp [.int .i64 c5]]]
  have k13 : All Q12 := ⟨h6, h8, rowOb h9, rfl, forest_known_1_1.ok a7 c5 e11, trivial⟩
  refine br_ok hx (fun h14 hx => ?_) (fun h14 hx => ?_)
  ·obtain rfl := sI hx
   exact WK.run (an := [.lp, .reg [], .br true, .reg [], .reg [(3, none, .row (Vertex.enc a7)), (5, none, .call [] [0] (.pv (.bool y10)) [.varp [.int .i64 c5]] [])], .br true, .reg []]) (kt := [4]) (ko := [(0, 0)]) (ps := (Q12 ++ [y10 = true])) (by kernel_rfl) (All_append.2 ⟨k13, ⟨h14, trivial⟩⟩) hn
  ·obtain rfl := sI hx
   exact WK.run (an := [.lp, .reg [], .br true, .reg [], .reg [(3, none, .row (Vertex.enc a7)), (5, none, .call [] [0] (.pv (.bool y10)) [.varp [.int .i64 c5]] [])], .br false, .reg []]) (kt := [0, 1, 7, 8]) (ko := [(0, 0)]) (ps := (Q12 ++ [y10 = false])) (by kernel_rfl) (All_append.2 ⟨k13, ⟨h14, trivial⟩⟩) hn
 ·obtain rfl := sI hx
  exact WK.run (an := [.lp, .reg [], .br false]) (kt := []) (ko := [(0, 0)]) (ps := [(decide (s < c4)) = false]) (by kernel_rfl) ⟨h6, trivial⟩ hn
noncomputable def sIndexFuncVV_1 (v1 : List Vertex) (v2 : Int) : Option (Int × Int) :=
 bd (loopN fuel (sIndexFuncVV_1.l0 v1 ((v1.length : Nat) : Int) v2) 0) fun q15 =>
 match q15 with
 | .inl q15 =>
  some (q15, v2)
 | .inr q15 =>
  some ((-1), v2)
theorem sIndexFuncVV_1.ok (v1 : List Vertex) (v2 : Int) {x : Int × Int} (hx : sIndexFuncVV_1 v1 v2 = some x) :
  Spec Try.prog 88 [.pv (.sl (v1.map Vertex.enc)), .clo 76 [.ref 0 0 0 0]] [.varp [.int .i64 v2]] (.pv (.int .i64 x.1)) [.varp [.int .i64 x.2]] := by
 refine Spec.of (c := b88) Try.func88 rfl rfl rfl ?_
 unfold sIndexFuncVV_1 at hx
 refine bd_ok hx fun q15 e16 hx => ?_
 refine WK.run (an := [.reg [], .reg [(1, none, .val (.pv (.int .i64 ((v1.length : Nat) : Int))))]]) (kt := [0, 1, 7, 8]) (ko := [(0, 0)]) (ps := [AV.pv (.int .i64 ((v1.map Vertex.enc).length : Nat)) = .pv (.int .i64 (v1.length : Nat))]) (by kernel_rfl) ⟨lenOb, trivial⟩ (WK.enterLoop (sIndexFuncVV_1.l0.ok v1 ((v1.length : Nat) : Int) v2 _ _ _ _ e16 ?_))
 rcases q15 with (q15 | q15)
 ·obtain rfl := sI hx
  exact WK.fin (fn := Try.f88) Try.func88 (an := []) (kt := [4]) (ko := [(0, 0)]) (frz := []) (ps := []) (qs := []) (by kernel_rfl) trivial trivial
 ·obtain rfl := sI hx
  exact WK.fin (fn := Try.f88) Try.func88 (an := [.reg []]) (kt := [4]) (ko := [(0, 0)]) (frz := []) (ps := []) (qs := []) (by kernel_rfl) trivial trivial
noncomputable def sContainsFuncVV_1 (v1 : List Vertex) (v2 : Int) : Option (Bool × Int) :=
 bd (sIndexFuncVV_1 v1 v2) fun y3 =>
 some ((decide (y3.1 ≥ 0)), y3.2)
theorem sContainsFuncVV_1.ok (v1 : List Vertex) (v2 : Int) {x : Bool × Int} (hx : sContainsFuncVV_1 v1 v2 = some x) :
  Spec Try.prog 69 [.pv (.sl (v1.map Vertex.enc)), .clo 76 [.ref 0 0 0 0]] [.varp [.int .i64 v2]] (.pv (.bool x.1)) [.varp [.int .i64 x.2]] := by
 refine Spec.of (c := b69) Try.func69 rfl rfl rfl ?_
 unfold sContainsFuncVV_1 at hx
 refine bd_ok hx fun y3 e4 hx => ?_
 obtain rfl := sI hx
 exact WK.fin (fn := Try.f69) Try.func69 (an := [.reg [], .reg [(2, none, .call [] [0] (.pv (.int .i64 y3.1)) [.varp [.int .i64 y3.2]] [])]]) (kt := [4]) (ko := [(0, 0)]) (frz := []) (ps := [Spec Try.prog 88 [.pv (.sl (v1.map Vertex.enc)), .clo 76 [.ref 0 0 0 0]] [.varp [.int .i64 v2]] (.pv (.int .i64 y3.1)) [.varp [.int .i64 y3.2]]]) (qs := []) (by kernel_rfl) ⟨sIndexFuncVV_1.ok v1 v2 e4, trivial⟩ trivial
noncomputable abbrev b75 : Code := body Try.f75
noncomputable def forest_known_1 (v1 : Int) (v2 : List Vertex) (v3 : List Edge) (v4 : List Int) : Option Bool :=
 bd (sContainsFuncVV_1 v2 v1) fun y5 =>
 some (!y5.1)
theorem forest_known_1.ok (v1 : Int) (v2 : List Vertex) (v3 : List Edge) (v4 : List Int) {x : Bool} (hx : forest_known_1 v1 v2 v3 v4 = some x) :
  Spec Try.prog 75 [.pv (.int .i64 v1), .ref 0 0 0 0] [.varp [.sl (v2.map Vertex.enc), .sl (v3.map Edge.enc), .sl (v4.map eInt)]] (.pv (.bool x)) [.varp [.sl (v2.map Vertex.enc), .sl (v3.map Edge.enc), .sl (v4.map eInt)]] := by
 refine Spec.of (c := b75) Try.func75 rfl rfl rfl ?_
 unfold forest_known_1 at hx
 refine bd_ok hx fun y5 e6 hx => ?_
 obtain rfl := sI hx
 exact WK.fin (fn := Try.f75) Try.func75 (an := [.reg [(0, none, .nm 1003)], .reg [(3, none, .call [] [1003] (.pv (.bool y5.1)) [.varp [.int .i64 y5.2]] [])]]) (kt := [3]) (ko := [(0, 0)]) (frz := []) (ps := [Spec Try.prog 69 [.pv (.sl (v2.map Vertex.enc)), .clo 76 [.ref 0 0 0 0]] [.varp [.int .i64 v1]] (.pv (.bool y5.1)) [.varp [.int .i64 y5.2]]]) (qs := []) (by kernel_rfl) ⟨sContainsFuncVV_1.ok v2 v1 e6, trivial⟩ trivial
noncomputable def sIndexFunc_int_int_1.l0 (c5 : List Int) (c6 : Int) (c7 : List Vertex) (c8 : List Edge) (c9 : List Int) (s : Int) : Option (Nx Int (Int ⊕ Unit)) :=
 br (decide (s < c6)) (
  getR c5 s fun a11 =>
  bd (forest_known_1 a11 c7 c8 c9) fun y14 =>
  br y14 (
   some (.done (.inl s))) (
   some (.cont (IntKind.i64.wrap (s + 1))))) (
  some (.done (.inr ())))
abbrev sIndexFunc_int_int_1.l0.enc (c5 : List Int) (c6 : Int) (c7 : List Vertex) (c8 : List Edge) (c9 : List Int) (s : Int) : St := ⟨19, [(0, .pv (.sl (c5.map eInt))), (1, .clo 75 [.ref 0 0 0 0]), (7, .pv (.int .i64 c6)), (8, .pv (.int .i64 s))], [(0, .varp [.sl (c7.map Vertex.enc), .sl (c8.map Edge.enc), .sl (c9.map eInt)])]⟩
abbrev sIndexFunc_int_int_1.l0.post (c5 : List Int) (c6 : Int) (c7 : List Vertex) (c8 : List Edge) (c9 : List Int) (r : AV) (outs : List AObj) (q : Int ⊕ Unit) : Prop := match q with | .inl q => WK Try.prog (93, 1) [.code (sub b93 [1, 0, 1, 0, 0, 1, 1, 0, 0, 1, 1, 0, 1]), .inBlock 1, .code (sub b93 [1, 0, 1, 0, 0, 1, 1, 1]), .inLoop (sub b93 [1, 0, 1, 0, 0]), .inBlock 0, .code (sub b93 [1, 1])] ⟨19, [(4, .pv (.int .i64 q))], [(0, .varp [.sl (c7.map Vertex.enc), .sl (c8.map Edge.enc), .sl (c9.map eInt)])]⟩ r outs | .inr q => WK Try.prog (93, 1) [.code (sub b93 [1, 1, 0]), .code (sub b93 [1, 1, 1])] ⟨19, [], [(0, .varp [.sl (c7.map Vertex.enc), .sl (c8.map Edge.enc), .sl (c9.map eInt)])]⟩ r outs
theorem sIndexFunc_int_int_1.l0.ok (c5 : List Int) (c6 : Int) (c7 : List Vertex) (c8 : List Edge) (c9 : List Int) (r : AV) (outs : List AObj) (s : Int) (q : Int ⊕ Unit) (h : loopN fuel (sIndexFunc_int_int_1.l0 c5 c6 c7 c8 c9) s = some q) (hd : sIndexFunc_int_int_1.l0.post c5 c6 c7 c8 c9 r outs q) :
  WK Try.prog (93, 1) [.inLoop (sub b93 [1, 0, 1, 0, 0]), .inBlock 0, .code (sub b93 [1, 1])] (sIndexFunc_int_int_1.l0.enc c5 c6 c7 c8 c9 s) r outs := by
 refine WK.loop (sIndexFunc_int_int_1.l0.enc c5 c6 c7 c8 c9) (sIndexFunc_int_int_1.l0 c5 c6 c7 c8 c9) (sIndexFunc_int_int_1.l0.post c5 c6 c7 c8 c9 r outs) ?_ fuel s q h hd
 intro s x hx hn
 unfold sIndexFunc_int_int_1.l0 at hx
 refine br_ok hx (fun h10 hx => ?_) (fun h10 hx => ?_)
 ·refine getR_ok hx fun a11 h12 h13 hx => ?_
  refine bd_ok hx fun y14 e15 hx => ?_
  let Q16 : List Prop := [(decide (s < c6)) = true, 0 ≤ (s : Int), (c5.map eInt)[(s : Int).toNat]? = some (eInt a11), (eInt a11).length = 1, Spec Try.prog 75 [.pv (.int .i64 a11), .ref 0 0 0 0] [.varp [.sl (c7.map Vertex.enc), .sl (c8.map Edge.enc), .sl (c9.map eInt)]] (.pv (.bool y14)) [.varp [.sl (c7.map Vertex.enc), .sl (c8.map Edge.enc), .sl (c9.map eInt)]]]
  have k17 : All Q16 := ⟨h10, h12, rowOb h13, rfl, forest_known_1.ok a11 c7 c8 c9 e15, trivial⟩
  refine br_ok hx (fun h18 hx => ?_) (fun h18 hx => ?_)
  ·obtain rfl := sI hx
   exact WK.run (an := [.lp, .reg [], .br true, .reg [], .reg [(3, none, .row (eInt a11)), (5, none, .call [] [0] (.pv (.bool y14)) [.varp [.sl (c7.map Vertex.enc), .sl (c8.map Edge.enc), .sl (c9.map eInt)]] [])], .br true, .reg []]) (kt := [4]) (ko := [(0, 0)]) (ps := (Q16 ++ [y14 = true])) (by kernel_rfl) (All_append.2 ⟨k17, ⟨h18, trivial⟩⟩) hn
  ·obtain rfl := sI hx
   exact WK.run (an := [.lp, .reg [], .br true, .reg [], .reg [(3, none, .row (eInt a11)), (5, none, .call [] [0] (.pv (.bool y14)) [.varp [.sl (c7.map Vertex.enc), .sl (c8.map Edge.enc), .sl (c9.map eInt)]] [])], .br false, .reg []]) (kt := [0, 1, 7, 8]) (ko := [(0, 0)]) (ps := (Q16 ++ [y14 = false])) (by kernel_rfl) (All_append.2 ⟨k17, ⟨h18, trivial⟩⟩) hn
 ·obtain rfl := sI hx
  exact WK.run (an := [.lp, .reg [], .br false]) (kt := []) (ko := [(0, 0)]) (ps := [(decide (s < c6)) = false]) (by kernel_rfl) ⟨h10, trivial⟩ hn
noncomputable def sIndexFunc_int_int_1 (v1 : List Int) (v2 : List Vertex) (v3 : List Edge) (v4 : List Int) : Option Int :=
 bd (loopN fuel (sIndexFunc_int_int_1.l0 v1 ((v1.length : Nat) : Int) v2 v3 v4) 0) fun q19 =>
 match q19 with
 | .inl q19 =>
  some q19
 | .inr q19 =>
  some (-1)
theorem sIndexFunc_int_int_1.ok (v1 : List Int) (v2 : List Vertex) (v3 : List Edge) (v4 : List Int) {x : Int} (hx : sIndexFunc_int_int_1 v1 v2 v3 v4 = some x) :
  Spec Try.prog 93 [.pv (.sl (v1.map eInt)), .clo 75 [.ref 0 0 0 0]] [.varp [.sl (v2.map Vertex.enc), .sl (v3.map Edge.enc), .sl (v4.map eInt)]] (.pv (.int .i64 x)) [.varp [.sl (v2.map Vertex.enc), .sl (v3.map Edge.enc), .sl (v4.map eInt)]] := by
 refine Spec.of (c := b93) Try.func93 rfl rfl rfl ?_
 unfold sIndexFunc_int_int_1 at hx
 refine bd_ok hx fun q19 e20 hx => ?_
 refine WK.run (an := [.reg [], .reg [(1, none, .val (.pv (.int .i64 ((v1.length : Nat) : Int))))]]) (kt := [0, 1, 7, 8]) (ko := [(0, 0)]) (ps := [AV.pv (.int .i64 ((v1.map eInt).length : Nat)) = .pv (.int .i64 (v1.length : Nat))]) (by kernel_rfl) ⟨lenOb, trivial⟩ (WK.enterLoop (sIndexFunc_int_int_1.l0.ok v1 ((v1.length : Nat) : Int) v2 v3 v4 _ _ _ _ e20 ?_))
 rcases q19 with (q19 | q19)
 ·obtain rfl := sI hx
  exact WK.fin (fn := Try.f93) Try.func93 (an := []) (kt := [4]) (ko := [(0, 0)]) (frz := []) (ps := []) (qs := []) (by kernel_rfl) trivial trivial
 ·obtain rfl := sI hx
  exact WK.fin (fn := Try.f93) Try.func93 (an := [.reg []]) (kt := [4]) (ko := [(0, 0)]) (frz := []) (ps := []) (qs := []) (by kernel_rfl) trivial trivial
noncomputable def sContainsFunc_int_int_1 (v1 : List Int) (v2 : List Vertex) (v3 : List Edge) (v4 : List Int) : Option Bool :=
 bd (sIndexFunc_int_int_1 v1 v2 v3 v4) fun y5 =>
 some (decide (y5 ≥ 0))
theorem sContainsFunc_int_int_1.ok (v1 : List Int) (v2 : List Vertex) (v3 : List Edge) (v4 : List Int) {x : Bool} (hx : sContainsFunc_int_int_1 v1 v2 v3 v4 = some x) :
  Spec Try.prog 77 [.pv (.sl (v1.map eInt)), .clo 75 [.ref 0 0 0 0]] [.varp [.sl (v2.map Vertex.enc), .sl (v3.map Edge.enc), .sl (v4.map eInt)]] (.pv (.bool x)) [.varp [.sl (v2.map Vertex.enc), .sl (v3.map Edge.enc), .sl (v4.map eInt)]] := by
 refine Spec.of (c := b77) Try.func77 rfl rfl rfl ?_
 unfold sContainsFunc_int_int_1 at hx
 refine bd_ok hx fun y5 e6 hx => ?_
 obtain rfl := sI hx
 exact WK.fin (fn := Try.f77) Try.func77 (an := [.reg [], .reg [(2, none, .call [] [0] (.pv (.int .i64 y5)) [.varp [.sl (v2.map Vertex.enc), .sl (v3.map Edge.enc), .sl (v4.map eInt)]] [])]]) (kt := [4]) (ko := [(0, 0)]) (frz := []) (ps := [Spec Try.prog 93 [.pv (.sl (v1.map eInt)), .clo 75 [.ref 0 0 0 0]] [.varp [.sl (v2.map Vertex.enc), .sl (v3.map Edge.enc), .sl (v4.map eInt)]] (.pv (.int .i64 y5)) [.varp [.sl (v2.map Vertex.enc), .sl (v3.map Edge.enc), .sl (v4.map eInt)]]]) (qs := []) (by kernel_rfl) ⟨sIndexFunc_int_int_1.ok v1 v2 v3 v4 e6, trivial⟩ trivial
noncomputable abbrev b45 : Code := body Try.f45
noncomputable def forest_known (v1 : Graph) (v2 : List Int) : Option Bool :=
 bd (graph_Valid v1) fun y3 =>
 br y3 (
  bd (sContainsFunc_int_int_1 v2 v1.Vertices v1.Edges v1.Depots) fun y6 =>
  some (!y6)) (
  some false)
theorem forest_known.ok (v1 : Graph) (v2 : List Int) {x : Bool} (hx : forest_known v1 v2 = some x) :
  Spec Try.prog 45 [.aggp [.sl (v1.Vertices.map Vertex.enc), .sl (v1.Edges.map Edge.enc), .sl (v1.Depots.map eInt)], .pv (.sl (v2.map eInt))] [] (.pv (.bool x)) [] := by
 refine Spec.of (c := b45) Try.func45 rfl rfl rfl ?_
 unfold forest_known at hx
 refine bd_ok hx fun y3 e4 hx => ?_
 refine br_ok hx (fun h5 hx => ?_) (fun h5 hx => ?_)
 ·refine bd_ok hx fun y6 e7 hx => ?_
  obtain rfl := sI hx
  exact WK.fin (fn := Try.f45) Try.func45 (an := [.reg [(0, none, .nm 1003)], .reg [], .reg [(1, none, .call [] [] (.pv (.bool y3)) [] []), (3, some true, .no), (5, none, .call [] [1003] (.pv (.bool y6)) [.varp [.sl (v1.Vertices.map Vertex.enc), .sl (v1.Edges.map Edge.enc), .sl (v1.Depots.map eInt)]] [])]]) (kt := [4]) (ko := []) (frz := []) (ps := [Spec Try.prog 39 [.aggp [.sl (v1.Vertices.map Vertex.enc), .sl (v1.Edges.map Edge.enc), .sl (v1.Depots.map eInt)]] [] (.pv (.bool y3)) [], y3 = true, Spec Try.prog 77 [.pv (.sl (v2.map eInt)), .clo 75 [.ref 0 0 0 0]] [.varp [.sl (v1.Vertices.map Vertex.enc), .sl (v1.Edges.map Edge.enc), .sl (v1.Depots.map eInt)]] (.pv (.bool y6)) [.varp [.sl (v1.Vertices.map Vertex.enc), .sl (v1.Edges.map Edge.enc), .sl (v1.Depots.map eInt)]]]) (qs := []) (by kernel_rfl) ⟨graph_Valid.ok v1 e4, h5, sContainsFunc_int_int_1.ok v2 v1.Vertices v1.Edges v1.Depots e7, trivial⟩ trivial
 ·obtain rfl := sI hx
  exact WK.fin (fn := Try.f45) Try.func45 (an := [.reg [(0, none, .nm 1003)], .reg [], .reg [(1, none, .call [] [] (.pv (.bool y3)) [] []), (3, some false, .no)]]) (kt := [4]) (ko := []) (frz := []) (ps := [Spec Try.prog 39 [.aggp [.sl (v1.Vertices.map Vertex.enc), .sl (v1.Edges.map Edge.enc), .sl (v1.Depots.map eInt)]] [] (.pv (.bool y3)) [], y3 = false]) (qs := []) (by kernel_rfl) ⟨graph_Valid.ok v1 e4, h5, trivial⟩ trivial
noncomputable abbrev b15 : Code := body Try.f15
noncomputable def forest_Connected (v1 : Graph) (v2 : Int) (v3 : Int) : Option (Bool × Int) :=
 bd (forest_known v1 [v2, v3]) fun y4 =>
 br (!y4) (
  some (false, 70)) (
  bd (forest_grow v1) fun y9 =>
  oc (mapGet y9 v2) (
   none) fun a11 => (
   oc (a11) (
    none) fun a13 => (
    getR a13 0 fun a15 =>
    oc (mapGet y9 v3) (
     none) fun a20 => (
     oc (a20) (
      none) fun a22 => (
      getR a22 0 fun a24 =>
      some ((a15 == a24), 0))))))
theorem forest_Connected.ok (v1 : Graph) (v2 : Int) (v3 : Int) {x : Bool × Int} (hx : forest_Connected v1 v2 v3 = some x) :
  Spec Try.prog 15 [.aggp [.sl (v1.Vertices.map Vertex.enc), .sl (v1.Edges.map Edge.enc), .sl (v1.Depots.map eInt)], .pv (.int .i64 v2), .pv (.int .i64 v3)] [] (.tup [.pv (.bool x.1), .pv (.int .i64 x.2)]) [] := by
 refine Spec.of (c := b15) Try.func15 rfl rfl rfl ?_
 unfold forest_Connected at hx
 refine bd_ok hx fun y4 e5 hx => ?_
 let Q6 : List Prop := [1 = 1, 1 = 1, 1 = 1, 2 = ([v2, v3].map eInt).length, Spec Try.prog 45 [.aggp [.sl (v1.Vertices.map Vertex.enc), .sl (v1.Edges.map Edge.enc), .sl (v1.Depots.map eInt)], .pv (.sl ([v2, v3].map eInt))] [] (.pv (.bool y4)) []]
 have k7 : All Q6 := ⟨rfl, rfl, rfl, rfl, forest_known.ok v1 [v2, v3] e5, trivial⟩
 refine br_ok hx (fun h8 hx => ?_) (fun h8 hx => ?_)
 ·obtain rfl := sI hx
  exact WK.fin (fn := Try.f15) Try.func15 (an := [.reg [(0, none, .nm 1003)], .reg [(3, none, .nm 1005), (4, none, .call [1005] [] (.pv (.bool y4)) [] [])], .br true, .reg []]) (kt := [6, 7]) (ko := []) (frz := []) (ps := (Q6 ++ [(!y4) = true])) (qs := []) (by kernel_rfl) (All_append.2 ⟨k7, ⟨h8, trivial⟩⟩) trivial
 ·refine bd_ok hx fun y9 e10 hx => ?_
  refine oc_ok hx (fun h12 hx => ?_) (fun a11 h12 hx => ?_)
  ·cases hx
  ·refine oc_ok hx (fun h14 hx => ?_) (fun a13 h14 hx => ?_)
   ·cases hx
   ·refine getR_ok hx fun a15 h16 h17 hx => ?_
    let Q18 : List Prop := (Q6 ++ [(!y4) = false, Spec Try.prog 40 [.aggp [.sl (v1.Vertices.map Vertex.enc), .sl (v1.Edges.map Edge.enc), .sl (v1.Depots.map eInt)]] [] (.pv (.mp false (y9.map mKey) (y9.map (mRow (eOpt eInt))))) [], intKeys .i64 (y9.map mKey), mfind (y9.map mKey) (y9.map (mRow (eOpt eInt))) (.int .i64 v2) = some [.sl (a13.map eInt)], rowAV false [.sl (a13.map eInt)] = some (.pv (.sl (a13.map eInt))), 0 ≤ (0 : Int), (a13.map eInt)[(0 : Int).toNat]? = some (eInt a15), (eInt a15).length = 1])
    have k19 : All Q18 := (All_append.2 ⟨k7, ⟨h8, forest_grow.ok v1 e10, ikOb, mfindOb_s h12 h14, rfl, h16, rowOb h17, rfl, trivial⟩⟩)
    refine oc_ok hx (fun h21 hx => ?_) (fun a20 h21 hx => ?_)
    ·cases hx
    ·refine oc_ok hx (fun h23 hx => ?_) (fun a22 h23 hx => ?_)
     ·cases hx
     ·refine getR_ok hx fun a24 h25 h26 hx => ?_
      obtain rfl := sI hx
      exact WK.fin (fn := Try.f15) Try.func15 (an := [.reg [(0, none, .nm 1003)], .reg [(3, none, .nm 1005), (4, none, .call [1005] [] (.pv (.bool y4)) [] [])], .br false, .reg [(1, none, .call [] [] (.pv (.mp false (y9.map mKey) (y9.map (mRow (eOpt eInt))))) [] [])], .draw [0, 1, 2, 3, 4, 5, 6, 7, 8, 9, 10, 11, 12] [(2, none, .mget (.pv (.sl (a13.map eInt))) (some [.sl (a13.map eInt)])), (3, none, .row (eInt a15)), (7, none, .mget (.pv (.sl (a22.map eInt))) (some [.sl (a22.map eInt)])), (8, none, .row (eInt a24))]]) (kt := [6, 7]) (ko := []) (frz := []) (ps := (Q18 ++ [intKeys .i64 (y9.map mKey), mfind (y9.map mKey) (y9.map (mRow (eOpt eInt))) (.int .i64 v3) = some [.sl (a22.map eInt)], rowAV false [.sl (a22.map eInt)] = some (.pv (.sl (a22.map eInt))), 0 ≤ (0 : Int), (a22.map eInt)[(0 : Int).toNat]? = some (eInt a24), (eInt a24).length = 1])) (qs := []) (by kernel_rfl) (All_append.2 ⟨k19, ⟨ikOb, mfindOb_s h21 h23, rfl, h25, rowOb h26, rfl, trivial⟩⟩) trivial
noncomputable abbrev b47 : Code := body Try.f47
noncomputable def forest_step.l0 (c4 : Int) (c5 : Int) (c6 : List Edge) (c7 : Int) (s : Int) : Option (Nx Int (Int ⊕ Unit)) :=
 br (decide (s < c7)) (
  getR c6 s fun a9 =>
  br (a9.ID == c5) (
   bd (graph_Other a9 c4) fun y13 =>
   some (.done (.inl y13))) (
   some (.cont (IntKind.i64.wrap (s + 1))))) (
  some (.done (.inr ())))
abbrev forest_step.l0.enc (c4 : Int) (c5 : Int) (c6 : List Edge) (c7 : Int) (s : Int) : St := ⟨24, [(1, .pv (.int .i64 c4)), (2, .pv (.int .i64 c5)), (10, .pv (.sl (c6.map Edge.enc))), (11, .pv (.int .i64 c7)), (12, .pv (.int .i64 s))], []⟩
abbrev forest_step.l0.post (c4 : Int) (c5 : Int) (c6 : List Edge) (c7 : Int) (r : AV) (outs : List AObj) (q : Int ⊕ Unit) : Prop := match q with | .inl q => WK Try.prog (47, 0) [.code (sub b47 [1, 0, 1, 0, 0, 1, 1, 0, 0, 1, 1, 0, 1]), .inBlock 1, .code (sub b47 [1, 0, 1, 0, 0, 1, 1, 1]), .inLoop (sub b47 [1, 0, 1, 0, 0]), .inBlock 0, .code (sub b47 [1, 1])] ⟨24, [(6, .pv (.int .i64 q))], []⟩ r outs | .inr q => WK Try.prog (47, 0) [.code (sub b47 [1, 1, 0]), .code (sub b47 [1, 1, 1])] ⟨24, [], []⟩ r outs
theorem forest_step.l0.ok (c4 : Int) (c5 : Int) (c6 : List Edge) (c7 : Int) (r : AV) (outs : List AObj) (s : Int) (q : Int ⊕ Unit) (h : loopN fuel (forest_step.l0 c4 c5 c6 c7) s = some q) (hd : forest_step.l0.post c4 c5 c6 c7 r outs q) :
  WK Try.prog (47, 0) [.inLoop (sub b47 [1, 0, 1, 0, 0]), .inBlock 0, .code (sub b47 [1, 1])] (forest_step.l0.enc c4 c5 c6 c7 s) r outs := by
 refine WK.loop (forest_step.l0.enc c4 c5 c6 c7) (forest_step.l0 c4 c5 c6 c7) (forest_step.l0.post c4 c5 c6 c7 r outs) ?_ fuel s q h hd
 intro s x hx hn
 unfold forest_step.l0 at hx
 refine br_ok hx (fun h8 hx => ?_) (fun h8 hx => ?_)
 ·refine getR_ok hx fun a9 h10 h11 hx => ?_
  refine br_ok hx (fun h12 hx => ?_) (fun h12 hx => ?_)
  ·refine bd_ok hx fun y13 e14 hx => ?_
   obtain rfl := sI hx
   exact WK.run (an := [.lp, .reg [], .br true, .reg [(0, none, .row (Edge.enc a9)), (2, none, .nm 1007)], .reg [], .br true, .reg [(2, none, .call [] [] (.pv (.int .i64 y13)) [] [])]]) (kt := [6]) (ko := []) (ps := [(decide (s < c7)) = true, 0 ≤ (s : Int), (c6.map Edge.enc)[(s : Int).toNat]? = some (Edge.enc a9), (Edge.enc a9).length = 6, 6 = 6, (a9.ID == c5) = true, Spec Try.prog 35 [.aggp [.int .i64 a9.ID, .int .i64 a9.From, .int .i64 a9.To, .bool a9.Directed, .int .i64 a9.Weight, .int .i64 a9.Cap], .pv (.int .i64 c4)] [] (.pv (.int .i64 y13)) []]) (by kernel_rfl) ⟨h8, h10, rowOb h11, rfl, rfl, h12, graph_Other.ok a9 c4 e14, trivial⟩ hn
  ·obtain rfl := sI hx
   exact WK.run (an := [.lp, .reg [], .br true, .reg [(0, none, .row (Edge.enc a9)), (2, none, .nm 1007)], .reg [], .br false, .reg []]) (kt := [1, 2, 10, 11, 12]) (ko := []) (ps := [(decide (s < c7)) = true, 0 ≤ (s : Int), (c6.map Edge.enc)[(s : Int).toNat]? = some (Edge.enc a9), (Edge.enc a9).length = 6, 6 = 6, (a9.ID == c5) = false]) (by kernel_rfl) ⟨h8, h10, rowOb h11, rfl, rfl, h12, trivial⟩ hn
 ·obtain rfl := sI hx
  exact WK.run (an := [.lp, .reg [], .br false]) (kt := []) (ko := []) (ps := [(decide (s < c7)) = false]) (by kernel_rfl) ⟨h8, trivial⟩ hn
noncomputable def forest_step (v1 : Graph) (v2 : Int) (v3 : Int) : Option Int :=
 bd (loopN fuel (forest_step.l0 v2 v3 v1.Edges ((v1.Edges.length : Nat) : Int)) 0) fun q15 =>
 match q15 with
 | .inl q15 =>
  some q15
 | .inr q15 =>
  some (-1)
theorem forest_step.ok (v1 : Graph) (v2 : Int) (v3 : Int) {x : Int} (hx : forest_step v1 v2 v3 = some x) :
  Spec Try.prog 47 [.aggp [.sl (v1.Vertices.map Vertex.enc), .sl (v1.Edges.map Edge.enc), .sl (v1.Depots.map eInt)], .pv (.int .i64 v2), .pv (.int .i64 v3)] [] (.pv (.int .i64 x)) [] := by
 refine Spec.of (c := b47) Try.func47 rfl rfl rfl ?_
 unfold forest_step at hx
 refine bd_ok hx fun q15 e16 hx => ?_
 refine WK.run (an := [.reg [(0, none, .nm 1003)], .reg [(2, none, .val (.pv (.int .i64 ((v1.Edges.length : Nat) : Int))))]]) (kt := [1, 2, 10, 11, 12]) (ko := []) (ps := [AV.pv (.int .i64 ((v1.Edges.map Edge.enc).length : Nat)) = .pv (.int .i64 (v1.Edges.length : Nat))]) (by kernel_rfl) ⟨lenOb, trivial⟩ (WK.enterLoop (forest_step.l0.ok v2 v3 v1.Edges ((v1.Edges.length : Nat) : Int) _ _ _ _ e16 ?_))
 rcases q15 with (q15 | q15)
 ·obtain rfl := sI hx
  exact WK.fin (fn := Try.f47) Try.func47 (an := []) (kt := [6]) (ko := []) (frz := []) (ps := []) (qs := []) (by kernel_rfl) trivial trivial
 ·obtain rfl := sI hx
  exact WK.fin (fn := Try.f47) Try.func47 (an := [.reg []]) (kt := [6]) (ko := []) (frz := []) (ps := []) (qs := []) (by kernel_rfl) trivial trivial
noncomputable abbrev b48 : Code := body Try.f48
noncomputable def sReverse_int_int_1.l0 (s : Int × Int × (List Int)) : Option (Nx (Int × Int × (List Int)) (List Int)) :=
 br (decide (s.1 < s.2.1)) (
  gd (0 ≤ (s.2.1 : Int) ∧ (s.2.1 : Int) < ((s.2.2.length : Nat) : Int)) <|
  bd (s.2.2[(0 + (s.2.1 : Int).toNat)]?) fun a4 =>
  gd (0 ≤ (s.1 : Int) ∧ (s.1 : Int) < ((s.2.2.length : Nat) : Int)) <|
  bd (s.2.2[(0 + (s.1 : Int).toNat)]?) fun a7 =>
  gd (0 ≤ (s.1 : Int) ∧ (s.1 : Int) < ((s.2.2.length : Nat) : Int)) <|
  bd (s.2.2[(0 + (s.1 : Int).toNat)]?) fun a10 =>
  gd (0 ≤ (s.2.1 : Int) ∧ (s.2.1 : Int) < ((s.2.2.length : Nat) : Int)) <|
  bd ((s.2.2.set (0 + (s.1 : Int).toNat) a4)[(0 + (s.2.1 : Int).toNat)]?) fun a13 =>
  some (.cont ((IntKind.i64.wrap (s.1 + 1)), (IntKind.i64.wrap (s.2.1 - 1)), ((s.2.2.set (0 + (s.1 : Int).toNat) a4).set (0 + (s.2.1 : Int).toNat) a7)))) (
  some (.done s.2.2))
abbrev sReverse_int_int_1.l0.enc (s : Int × Int × (List Int)) : St := ⟨28, [(0, .hd 0 0 ((s.2.2.map eInt).length) 1), (2, .pv (.int .i64 s.1)), (3, .pv (.int .i64 s.2.1))], [(0, .sl false 1 (s.2.2.map eInt))]⟩
abbrev sReverse_int_int_1.l0.post (r : AV) (outs : List AObj) (q : (List Int)) : Prop := WK Try.prog (48, 1) [] ⟨28, [], [(0, .sl false 1 (q.map eInt))]⟩ r outs
theorem sReverse_int_int_1.l0.ok (r : AV) (outs : List AObj) (s : Int × Int × (List Int)) (q : (List Int)) (h : loopN fuel (sReverse_int_int_1.l0) s = some q) (hd : sReverse_int_int_1.l0.post r outs q) :
  WK Try.prog (48, 1) [.inLoop (sub b48 [1, 0, 0]), .inBlock 0] (sReverse_int_int_1.l0.enc s) r outs := by
 refine WK.loop (sReverse_int_int_1.l0.enc) (sReverse_int_int_1.l0) (sReverse_int_int_1.l0.post r outs) ?_ fuel s q h hd
 intro s x hx hn
 unfold sReverse_int_int_1.l0 at hx
 refine br_ok hx (fun h2 hx => ?_) (fun h2 hx => ?_)
 ·refine gd_ok hx fun h3 hx => ?_
  refine bd_ok hx fun a4 h5 hx => ?_
  refine gd_ok hx fun h6 hx => ?_
  refine bd_ok hx fun a7 h8 hx => ?_
  refine gd_ok hx fun h9 hx => ?_
  refine bd_ok hx fun a10 h11 hx => ?_
  refine gd_ok hx fun h12 hx => ?_
  refine bd_ok hx fun a13 h14 hx => ?_
  obtain rfl := sI hx
  refine WK.run (an := [.lp, .reg [], .br true, .draw [0, 1, 2, 3, 4, 5, 6, 7, 8, 9, 10, 11, 12, 13, 14, 15] [(7, none, .row (eInt a4)), (11, none, .row (eInt a7)), (13, none, .rows (eInt a10) ((s.2.2.set (0 + (s.1 : Int).toNat) a4).map eInt)), (15, none, .rows (eInt a13) (((s.2.2.set (0 + (s.1 : Int).toNat) a4).set (0 + (s.2.1 : Int).toNat) a7).map eInt))], .reg []]) (kt := [0, 2, 3]) (ko := [(0, 0)]) (k' := [.inLoop (sub b48 [1, 0, 0]), .inBlock 0]) (σ' := ⟨28, [(0, .hd 0 0 ((s.2.2.map eInt).length) 1), (2, .pv (.int .i64 (IntKind.i64.wrap (s.1 + 1)))), (3, .pv (.int .i64 (IntKind.i64.wrap (s.2.1 - 1))))], [(0, .sl false 1 (((s.2.2.set (0 + (s.1 : Int).toNat) a4).set (0 + (s.2.1 : Int).toNat) a7).map eInt))]⟩) (ps := [(decide (s.1 < s.2.1)) = true, 0 ≤ (s.2.1 : Int), (s.2.1 : Int) < (((s.2.2.map eInt).length : Nat) : Int), (s.2.2.map eInt)[(0 + (s.2.1 : Int).toNat)]? = some (eInt a4), 0 ≤ (s.1 : Int), (s.1 : Int) < (((s.2.2.map eInt).length : Nat) : Int), (s.2.2.map eInt)[(0 + (s.1 : Int).toNat)]? = some (eInt a7), 0 ≤ (s.1 : Int), (s.1 : Int) < (((s.2.2.map eInt).length : Nat) : Int), (s.2.2.map eInt)[(0 + (s.1 : Int).toNat)]? = some (eInt a10), 1 = 1, 0 + 1 ≤ (eInt a10).length, (s.2.2.map eInt).set (0 + (s.1 : Int).toNat) (splice (eInt a10) 0 [.int .i64 a4]) = ((s.2.2.set (0 + (s.1 : Int).toNat) a4).map eInt), 0 ≤ (s.2.1 : Int), (s.2.1 : Int) < (((s.2.2.map eInt).length : Nat) : Int), ((s.2.2.set (0 + (s.1 : Int).toNat) a4).map eInt)[(0 + (s.2.1 : Int).toNat)]? = some (eInt a13), 1 = 1, 0 + 1 ≤ (eInt a13).length, ((s.2.2.set (0 + (s.1 : Int).toNat) a4).map eInt).set (0 + (s.2.1 : Int).toNat) (splice (eInt a13) 0 [.int .i64 a7]) = (((s.2.2.set (0 + (s.1 : Int).toNat) a4).set (0 + (s.2.1 : Int).toNat) a7).map eInt)])
   (by kernel_rfl) ⟨h2, h3.1, lenLt h3.2, rowOb h5, h6.1, lenLt h6.2, rowOb h8, h9.1, lenLt h9.2, rowOb h11, rfl, Nat.le_of_ble_eq_true rfl, setOb (f := eInt) (x := a4), h12.1, lenLt h12.2, rowOb h14, rfl, Nat.le_of_ble_eq_true rfl, setOb (f := eInt) (x := a7), trivial⟩ ?_
  refine WK.eq (σ' := sReverse_int_int_1.l0.enc ((IntKind.i64.wrap (s.1 + 1)), (IntKind.i64.wrap (s.2.1 - 1)), ((s.2.2.set (0 + (s.1 : Int).toNat) a4).set (0 + (s.2.1 : Int).toNat) a7))) (by simp only [sReverse_int_int_1.l0.enc, List.length_map, List.length_set]) ?_
  exact hn
 ·obtain rfl := sI hx
  exact WK.run (an := [.lp, .reg [], .br false]) (kt := []) (ko := [(0, 0)]) (ps := [(decide (s.1 < s.2.1)) = false]) (by kernel_rfl) ⟨h2, trivial⟩ hn
noncomputable def sReverse_int_int_1 (v1 : List Int) : Option (List Int) :=
 bd (loopN fuel (sReverse_int_int_1.l0) (0, (IntKind.i64.wrap (((v1.length : Nat) : Int) - 1)), v1)) fun q15 =>
 some q15
theorem sReverse_int_int_1.ok (v1 : List Int) {x : (List Int)} (hx : sReverse_int_int_1 v1 = some x) :
  Spec Try.prog 48 [.hd 0 0 ((v1.map eInt).length) 1] [.sl false 1 (v1.map eInt)] (.tup []) [.sl false 1 (x.map eInt)] := by
 refine Spec.of (c := b48) Try.func48 rfl rfl rfl ?_
 unfold sReverse_int_int_1 at hx
 refine bd_ok hx fun q15 e16 hx => ?_
 refine WK.run (an := [.reg [(1, none, .val (.pv (.int .i64 ((v1.length : Nat) : Int))))]]) (kt := [0, 2, 3]) (ko := [(0, 0)]) (ps := [AV.pv (.int .i64 ((v1.map eInt).length : Nat)) = .pv (.int .i64 (v1.length : Nat))]) (by kernel_rfl) ⟨lenOb, trivial⟩ (WK.enterLoop (sReverse_int_int_1.l0.ok _ _ _ _ e16 ?_))
 obtain rfl := sI hx
 exact WK.fin (fn := Try.f48) Try.func48 (an := []) (kt := []) (ko := [(0, 0)]) (frz := []) (ps := []) (qs := []) (by kernel_rfl) trivial trivial
noncomputable abbrev b17 : Code := body Try.f17
noncomputable def forest_Path.l0 (c12 : List (Int × (Option (List Int)))) (c13 : List Vertex) (c14 : List Edge) (c15 : List Int) (s : Int × Int × (List Int) × (List Int)) : Option (Nx (Int × Int × (List Int) × (List Int)) ((List Int) × (List Int))) :=
 br (s.1 != s.2.1) (
  oc (mapGet c12 s.1) (
   none) fun a17 => (
   oc (a17) (
    none) fun a19 => (
    getR a19 1 fun a21 =>
    oc (mapGet c12 s.2.1) (
     none) fun a26 => (
     oc (a26) (
      none) fun a28 => (
      getR a28 1 fun a30 =>
      br (decide (a21 ≥ a30)) (
       oc (mapGet c12 s.1) (
        none) fun a37 => (
        oc (a37) (
         none) fun a39 => (
         getR a39 2 fun a41 =>
         gd ((s.2.2.1 ++ [a41]).length ≤ bigLen) <|
         oc (mapGet c12 s.1) (
          none) fun a47 => (
          oc (a47) (
           none) fun a49 => (
           getR a49 2 fun a51 =>
           bd (forest_step (Graph.mk c13 c14 c15) s.1 a51) fun y54 =>
           some (.cont (y54, s.2.1, (s.2.2.1 ++ [a41]), s.2.2.2))))))) (
       oc (mapGet c12 s.2.1) (
        none) fun a56 => (
        oc (a56) (
         none) fun a58 => (
         getR a58 2 fun a60 =>
         gd ((s.2.2.2 ++ [a60]).length ≤ bigLen) <|
         oc (mapGet c12 s.2.1) (
          none) fun a66 => (
          oc (a66) (
           none) fun a68 => (
           getR a68 2 fun a70 =>
           bd (forest_step (Graph.mk c13 c14 c15) s.2.1 a70) fun y73 =>
           some (.cont (s.1, y73, s.2.2.1, (s.2.2.2 ++ [a60]))))))))))))) (
  some (.done (s.2.2.1, s.2.2.2)))
abbrev forest_Path.l0.enc (c12 : List (Int × (Option (List Int)))) (c13 : List Vertex) (c14 : List Edge) (c15 : List Int) (s : Int × Int × (List Int) × (List Int)) : St := ⟨79, [(1, .pv (.int .i64 s.1)), (2, .pv (.int .i64 s.2.1)), (3, .ref 101 0 0 0), (10, .pv (.mp false (c12.map mKey) (c12.map (mRow (eOpt eInt))))), (11, .hd 103 0 ((s.2.2.1.map eInt).length) 1), (12, .hd 105 0 ((s.2.2.2.map eInt).length) 1)], [(101, .varp [.sl (c13.map Vertex.enc), .sl (c14.map Edge.enc), .sl (c15.map eInt)]), (103, .sl false 1 (s.2.2.1.map eInt)), (105, .sl false 1 (s.2.2.2.map eInt))]⟩
abbrev forest_Path.l0.post (c12 : List (Int × (Option (List Int)))) (c13 : List Vertex) (c14 : List Edge) (c15 : List Int) (r : AV) (outs : List AObj) (q : ((List Int) × (List Int))) : Prop := WK Try.prog (17, 0) [.code (sub b17 [1, 1, 1, 1, 1, 0]), .code (sub b17 [1, 1, 1, 1, 1, 1])] ⟨79, [(11, .hd 101 0 ((q.1.map eInt).length) 1), (12, .hd 103 0 ((q.2.map eInt).length) 1)], [(101, .sl false 1 (q.1.map eInt)), (103, .sl false 1 (q.2.map eInt))]⟩ r outs
theorem forest_Path.l0.ok (c12 : List (Int × (Option (List Int)))) (c13 : List Vertex) (c14 : List Edge) (c15 : List Int) (r : AV) (outs : List AObj) (s : Int × Int × (List Int) × (List Int)) (q : ((List Int) × (List Int))) (h : loopN fuel (forest_Path.l0 c12 c13 c14 c15) s = some q) (hd : forest_Path.l0.post c12 c13 c14 c15 r outs q) :
  WK Try.prog (17, 0) [.inLoop (sub b17 [1, 1, 1, 1, 0, 0, 0]), .inBlock 0, .code (sub b17 [1, 1, 1, 1, 1])] (forest_Path.l0.enc c12 c13 c14 c15 s) r outs := by
 refine WK.loop (forest_Path.l0.enc c12 c13 c14 c15) (forest_Path.l0 c12 c13 c14 c15) (forest_Path.l0.post c12 c13 c14 c15 r outs) ?_ fuel s q h hd
 intro s x hx hn
 unfold forest_Path.l0 at hx
 refine br_ok hx (fun h16 hx => ?_) (fun h16 hx => ?_)
 ·refine oc_ok hx (fun h18 hx => ?_) (fun a17 h18 hx => ?_)
  ·cases hx
  ·refine oc_ok hx (fun h20 hx => ?_) (fun a19 h20 hx => ?_)
   ·cases hx
   ·refine getR_ok hx fun a21 h22 h23 hx => ?_
    let Q24 : List Prop := [(s.1 != s.2.1) = true, intKeys .i64 (c12.map mKey), mfind (c12.map mKey) (c12.map (mRow (eOpt eInt))) (.int .i64 s.1) = some [.sl (a19.map eInt)], rowAV false [.sl (a19.map eInt)] = some (.pv (.sl (a19.map eInt))), 0 ≤ (1 : Int), (a19.map eInt)[(1 : Int).toNat]? = some (eInt a21), (eInt a21).length = 1]
    have k25 : All Q24 := ⟨h16, ikOb, mfindOb_s h18 h20, rfl, h22, rowOb h23, rfl, trivial⟩
    refine oc_ok hx (fun h27 hx => ?_) (fun a26 h27 hx => ?_)
    ·cases hx
    ·refine oc_ok hx (fun h29 hx => ?_) (fun a28 h29 hx => ?_)
     ·cases hx
     ·refine getR_ok hx fun a30 h31 h32 hx => ?_
      let A33 : List An := [.lp, .reg [], .br true, .draw [0, 1, 2, 3, 4, 5, 6, 7, 8, 9, 10] [(2, none, .mget (.pv (.sl (a19.map eInt))) (some [.sl (a19.map eInt)])), (3, none, .row (eInt a21)), (7, none, .mget (.pv (.sl (a28.map eInt))) (some [.sl (a28.map eInt)])), (8, none, .row (eInt a30))]]
      let Q34 : List Prop := (Q24 ++ [intKeys .i64 (c12.map mKey), mfind (c12.map mKey) (c12.map (mRow (eOpt eInt))) (.int .i64 s.2.1) = some [.sl (a28.map eInt)], rowAV false [.sl (a28.map eInt)] = some (.pv (.sl (a28.map eInt))), 0 ≤ (1 : Int), (a28.map eInt)[(1 : Int).toNat]? = some (eInt a30), (eInt a30).length = 1])
      have k35 : All Q34 := (All_append.2 ⟨k25, ⟨ikOb, mfindOb_s h27 h29, rfl, h31, rowOb h32, rfl, trivial⟩⟩)
      refine br_ok hx (fun h36 hx => ?_) (fun h36 hx => ?_)
      ·refine oc_ok hx (fun h38 hx => ?_) (fun a37 h38 hx => ?_)
       ·cases hx
       ·refine oc_ok hx (fun h40 hx => ?_) (fun a39 h40 hx => ?_)
        ·cases hx
        ·refine getR_ok hx fun a41 h42 h43 hx => ?_
         refine gd_ok hx fun h44 hx => ?_
         let Q45 : List Prop := (Q34 ++ [(decide (a21 ≥ a30)) = true, intKeys .i64 (c12.map mKey), mfind (c12.map mKey) (c12.map (mRow (eOpt eInt))) (.int .i64 s.1) = some [.sl (a39.map eInt)], rowAV false [.sl (a39.map eInt)] = some (.pv (.sl (a39.map eInt))), 0 ≤ (2 : Int), (a39.map eInt)[(2 : Int).toNat]? = some (eInt a41), (eInt a41).length = 1, 1 = 1, 1 = 1, 0 + 1 ≤ ([a41].map eInt).length, 0 + ((s.2.2.1.map eInt).length) = (s.2.2.1.map eInt).length, (s.2.2.1.map eInt).drop 0 ++ (cut1 ([a41].map eInt) 0 1) = ((s.2.2.1 ++ [a41]).map eInt), ((s.2.2.1 ++ [a41]).map eInt).length ≤ bigLen, ∀ r ∈ (cut1 ([a41].map eInt) 0 1), r.length = 1])
         have k46 : All Q45 := (All_append.2 ⟨k35, ⟨h36, ikOb, mfindOb_s h38 h40, rfl, h42, rowOb h43, rfl, rfl, rfl, Nat.le_of_eq (Nat.zero_add _), Nat.zero_add _, by simp [cut1, List.take_of_length_le], bigOb h44, one_len rfl, trivial⟩⟩)
         refine oc_ok hx (fun h48 hx => ?_) (fun a47 h48 hx => ?_)
         ·cases hx
         ·refine oc_ok hx (fun h50 hx => ?_) (fun a49 h50 hx => ?_)
          ·cases hx
          ·refine getR_ok hx fun a51 h52 h53 hx => ?_
           refine bd_ok hx fun y54 e55 hx => ?_
           obtain rfl := sI hx
           exact WK.run (an := (A33 ++ [.br true, .reg [(3, none, .mget (.pv (.sl (a39.map eInt))) (some [.sl (a39.map eInt)])), (4, none, .row (eInt a41)), (6, none, .nm 1017), (7, none, .app 1019 ((s.2.2.1 ++ [a41]).map eInt))], .draw [0, 1, 2, 3, 4, 5, 6, 7, 8] [(4, none, .mget (.pv (.sl (a49.map eInt))) (some [.sl (a49.map eInt)])), (5, none, .row (eInt a51)), (7, none, .call [] [] (.pv (.int .i64 y54)) [] [])]])) (kt := [1, 2, 3, 10, 11, 12]) (ko := [(101, 101), (1019, 103), (105, 105)]) (ps := (Q45 ++ [intKeys .i64 (c12.map mKey), mfind (c12.map mKey) (c12.map (mRow (eOpt eInt))) (.int .i64 s.1) = some [.sl (a49.map eInt)], rowAV false [.sl (a49.map eInt)] = some (.pv (.sl (a49.map eInt))), 0 ≤ (2 : Int), (a49.map eInt)[(2 : Int).toNat]? = some (eInt a51), (eInt a51).length = 1, Spec Try.prog 47 [.aggp [.sl (c13.map Vertex.enc), .sl (c14.map Edge.enc), .sl (c15.map eInt)], .pv (.int .i64 s.1), .pv (.int .i64 a51)] [] (.pv (.int .i64 y54)) []])) (by kernel_rfl) (All_append.2 ⟨k46, ⟨ikOb, mfindOb_s h48 h50, rfl, h52, rowOb h53, rfl, forest_step.ok (Graph.mk c13 c14 c15) s.1 a51 e55, trivial⟩⟩) hn
      ·refine oc_ok hx (fun h57 hx => ?_) (fun a56 h57 hx => ?_)
       ·cases hx
       ·refine oc_ok hx (fun h59 hx => ?_) (fun a58 h59 hx => ?_)
        ·cases hx
        ·refine getR_ok hx fun a60 h61 h62 hx => ?_
         refine gd_ok hx fun h63 hx => ?_
         let Q64 : List Prop := (Q34 ++ [(decide (a21 ≥ a30)) = false, intKeys .i64 (c12.map mKey), mfind (c12.map mKey) (c12.map (mRow (eOpt eInt))) (.int .i64 s.2.1) = some [.sl (a58.map eInt)], rowAV false [.sl (a58.map eInt)] = some (.pv (.sl (a58.map eInt))), 0 ≤ (2 : Int), (a58.map eInt)[(2 : Int).toNat]? = some (eInt a60), (eInt a60).length = 1, 1 = 1, 1 = 1, 0 + 1 ≤ ([a60].map eInt).length, 0 + ((s.2.2.2.map eInt).length) = (s.2.2.2.map eInt).length, (s.2.2.2.map eInt).drop 0 ++ (cut1 ([a60].map eInt) 0 1) = ((s.2.2.2 ++ [a60]).map eInt), ((s.2.2.2 ++ [a60]).map eInt).length ≤ bigLen, ∀ r ∈ (cut1 ([a60].map eInt) 0 1), r.length = 1])
         have k65 : All Q64 := (All_append.2 ⟨k35, ⟨h36, ikOb, mfindOb_s h57 h59, rfl, h61, rowOb h62, rfl, rfl, rfl, Nat.le_of_eq (Nat.zero_add _), Nat.zero_add _, by simp [cut1, List.take_of_length_le], bigOb h63, one_len rfl, trivial⟩⟩)
         refine oc_ok hx (fun h67 hx => ?_) (fun a66 h67 hx => ?_)
         ·cases hx
         ·refine oc_ok hx (fun h69 hx => ?_) (fun a68 h69 hx => ?_)
          ·cases hx
          ·refine getR_ok hx fun a70 h71 h72 hx => ?_
           refine bd_ok hx fun y73 e74 hx => ?_
           obtain rfl := sI hx
           exact WK.run (an := (A33 ++ [.br false, .reg [(3, none, .mget (.pv (.sl (a58.map eInt))) (some [.sl (a58.map eInt)])), (4, none, .row (eInt a60)), (6, none, .nm 1021), (7, none, .app 1023 ((s.2.2.2 ++ [a60]).map eInt))], .draw [0, 1, 2, 3, 4, 5, 6, 7, 8] [(4, none, .mget (.pv (.sl (a68.map eInt))) (some [.sl (a68.map eInt)])), (5, none, .row (eInt a70)), (7, none, .call [] [] (.pv (.int .i64 y73)) [] [])]])) (kt := [1, 2, 3, 10, 11, 12]) (ko := [(101, 101), (103, 103), (1023, 105)]) (ps := (Q64 ++ [intKeys .i64 (c12.map mKey), mfind (c12.map mKey) (c12.map (mRow (eOpt eInt))) (.int .i64 s.2.1) = some [.sl (a68.map eInt)], rowAV false [.sl (a68.map eInt)] = some (.pv (.sl (a68.map eInt))), 0 ≤ (2 : Int), (a68.map eInt)[(2 : Int).toNat]? = some (eInt a70), (eInt a70).length = 1, Spec Try.prog 47 [.aggp [.sl (c13.map Vertex.enc), .sl (c14.map Edge.enc), .sl (c15.map eInt)], .pv (.int .i64 s.2.1), .pv (.int .i64 a70)] [] (.pv (.int .i64 y73)) []])) (by kernel_rfl) (All_append.2 ⟨k65, ⟨ikOb, mfindOb_s h67 h69, rfl, h71, rowOb h72, rfl, forest_step.ok (Graph.mk c13 c14 c15) s.2.1 a70 e74, trivial⟩⟩) hn
 ·obtain rfl := sI hx
  exact WK.run (an := [.lp, .reg [], .br false]) (kt := [11, 12]) (ko := [(103, 101), (105, 103)]) (ps := [(s.1 != s.2.1) = false]) (by kernel_rfl) ⟨h16, trivial⟩ hn
noncomputable def forest_Path (v1 : Graph) (v2 : Int) (v3 : Int) : Option ((List Int) × Int) :=
 bd (forest_Connected v1 v2 v3) fun y4 =>
 br (y4.2 != 0) (
  some ([], 70)) (
  br (!y4.1) (
   some ([], 70)) (
   bd (forest_grow v1) fun y10 =>
   bd (loopN fuel (forest_Path.l0 y10 v1.Vertices v1.Edges v1.Depots) (v2, v3, [], [])) fun q75 =>
   bd (sReverse_int_int_1 q75.2) fun y77 =>
   gd (0 + ((q75.2.map eInt).length) ≤ (y77.map eInt).length) <|
   gd ((q75.1 ++ (y77.take ((q75.2.map eInt).length))).length ≤ bigLen) <|
   some ((q75.1 ++ (y77.take ((q75.2.map eInt).length))), 0)))
theorem forest_Path.ok (v1 : Graph) (v2 : Int) (v3 : Int) {x : (List Int) × Int} (hx : forest_Path v1 v2 v3 = some x) :
  Spec Try.prog 17 [.aggp [.sl (v1.Vertices.map Vertex.enc), .sl (v1.Edges.map Edge.enc), .sl (v1.Depots.map eInt)], .pv (.int .i64 v2), .pv (.int .i64 v3)] [] (.tup [.pv (.sl (x.1.map eInt)), .pv (.int .i64 x.2)]) [] := by
 refine Spec.of (c := b17) Try.func17 rfl rfl rfl ?_
 unfold forest_Path at hx
 refine bd_ok hx fun y4 e5 hx => ?_
 refine br_ok hx (fun h6 hx => ?_) (fun h6 hx => ?_)
 ·obtain rfl := sI hx
  exact WK.fin (fn := Try.f17) Try.func17 (an := [.reg [(0, none, .nm 1003), (1, none, .val (.pv (.sl ([].map eInt))))], .reg [(3, none, .call [] [] (.tup [.pv (.bool y4.1), .pv (.int .i64 y4.2)]) [] [])], .reg [(3, some true, .no)], .bk, .reg [(0, none, .val (.pv (.sl ([].map eInt))))]]) (kt := [6, 7]) (ko := []) (frz := []) (ps := [Spec Try.prog 15 [.aggp [.sl (v1.Vertices.map Vertex.enc), .sl (v1.Edges.map Edge.enc), .sl (v1.Depots.map eInt)], .pv (.int .i64 v2), .pv (.int .i64 v3)] [] (.tup [.pv (.bool y4.1), .pv (.int .i64 y4.2)]) [], (y4.2 != 0) = true]) (qs := []) (by kernel_rfl) ⟨forest_Connected.ok v1 v2 v3 e5, h6, trivial⟩ trivial
 ·let Q7 : List Prop := [Spec Try.prog 15 [.aggp [.sl (v1.Vertices.map Vertex.enc), .sl (v1.Edges.map Edge.enc), .sl (v1.Depots.map eInt)], .pv (.int .i64 v2), .pv (.int .i64 v3)] [] (.tup [.pv (.bool y4.1), .pv (.int .i64 y4.2)]) [], (y4.2 != 0) = false]
  have k8 : All Q7 := ⟨forest_Connected.ok v1 v2 v3 e5, h6, trivial⟩
  refine br_ok hx (fun h9 hx => ?_) (fun h9 hx => ?_)
  ·obtain rfl := sI hx
   exact WK.fin (fn := Try.f17) Try.func17 (an := [.reg [(0, none, .nm 1003), (1, none, .val (.pv (.sl ([].map eInt))))], .reg [(3, none, .call [] [] (.tup [.pv (.bool y4.1), .pv (.int .i64 y4.2)]) [] [])], .reg [(3, some false, .no)], .br true, .reg [(0, none, .val (.pv (.sl ([].map eInt))))]]) (kt := [6, 7]) (ko := []) (frz := []) (ps := (Q7 ++ [(!y4.1) = true])) (qs := []) (by kernel_rfl) (All_append.2 ⟨k8, ⟨h9, trivial⟩⟩) trivial
  ·refine bd_ok hx fun y10 e11 hx => ?_
   refine bd_ok hx fun q75 e76 hx => ?_
   refine WK.run (an := [.reg [(0, none, .nm 1003), (1, none, .val (.pv (.sl ([].map eInt))))], .reg [(3, none, .call [] [] (.tup [.pv (.bool y4.1), .pv (.int .i64 y4.2)]) [] [])], .reg [(3, some false, .no)], .br false, .reg [(1, none, .call [] [] (.pv (.mp false (y10.map mKey) (y10.map (mRow (eOpt eInt))))) [] [])], .new 1005 1, .new 1007 1, .reg [(0, none, .val (.hd 1005 0 0 1)), (1, none, .val (.hd 1007 0 0 1))]]) (kt := [1, 2, 3, 10, 11, 12]) (ko := [(1003, 101), (1005, 103), (1007, 105)]) (ps := (Q7 ++ [(!y4.1) = false, Spec Try.prog 40 [.aggp [.sl (v1.Vertices.map Vertex.enc), .sl (v1.Edges.map Edge.enc), .sl (v1.Depots.map eInt)]] [] (.pv (.mp false (y10.map mKey) (y10.map (mRow (eOpt eInt))))) []])) (by kernel_rfl) (All_append.2 ⟨k8, ⟨h9, forest_grow.ok v1 e11, trivial⟩⟩) (WK.enterLoop (forest_Path.l0.ok y10 v1.Vertices v1.Edges v1.Depots _ _ _ _ e76 ?_))
   refine bd_ok hx fun y77 e78 hx => ?_
   refine gd_ok hx fun h79 hx => ?_
   refine gd_ok hx fun h80 hx => ?_
   obtain rfl := sI hx
   exact WK.fin (fn := Try.f17) Try.func17 (an := [.reg [(1, none, .call [] [103] (.tup []) [.sl false 1 (y77.map eInt)] [])], .reg [(2, none, .app 1025 ((q75.1 ++ (y77.take ((q75.2.map eInt).length))).map eInt))]]) (kt := [6, 7]) (ko := [(1025, 101)]) (frz := [101]) (ps := [Spec Try.prog 48 [.hd 0 0 ((q75.2.map eInt).length) 1] [.sl false 1 (q75.2.map eInt)] (.tup []) [.sl false 1 (y77.map eInt)], 0 + ((q75.2.map eInt).length) ≤ (y77.map eInt).length, 0 + ((q75.1.map eInt).length) = (q75.1.map eInt).length, (q75.1.map eInt).drop 0 ++ (cut1 (y77.map eInt) 0 ((q75.2.map eInt).length)) = ((q75.1 ++ (y77.take ((q75.2.map eInt).length))).map eInt), ((q75.1 ++ (y77.take ((q75.2.map eInt).length))).map eInt).length ≤ bigLen, ∀ r ∈ (cut1 (y77.map eInt) 0 ((q75.2.map eInt).length)), r.length = 1]) (qs := [((q75.1 ++ (y77.take ((q75.2.map eInt).length))).map eInt).length = ((q75.1 ++ (y77.take ((q75.2.map eInt).length))).map eInt).length]) (by kernel_rfl) ⟨sReverse_int_int_1.ok q75.2 e78, h79, Nat.zero_add _, by simp [cut1, List.take_of_length_le], bigOb h80, cut_len fun _ => rfl, trivial⟩ ⟨rfl, trivial⟩
noncomputable abbrev b19 : Code := body Try.f19
noncomputable def forest_Side.l0 (c8 : Int) (c9 : List (Int × (Option (List Int)))) (c10 : List Vertex) (c11 : Int) (s : Int × (List Int)) : Option (Nx (Int × (List Int)) (List Int)) :=
 br (decide (s.1 < c11)) (
  getR c10 s.1 fun a13 =>
  oc (mapGet c9 a13.ID) (
   none) fun a16 => (
   oc (a16) (
    none) fun a18 => (
    getR a18 0 fun a20 =>
    oc (mapGet c9 c8) (
     none) fun a25 => (
     oc (a25) (
      none) fun a27 => (
      getR a27 0 fun a29 =>
      br (a20 == a29) (
       gd ((s.2 ++ [a13.ID]).length ≤ bigLen) <|
       some (.cont ((IntKind.i64.wrap (s.1 + 1)), (s.2 ++ [a13.ID])))) (
       some (.cont ((IntKind.i64.wrap (s.1 + 1)), s.2)))))))) (
  some (.done s.2))
abbrev forest_Side.l0.enc (c8 : Int) (c9 : List (Int × (Option (List Int)))) (c10 : List Vertex) (c11 : Int) (s : Int × (List Int)) : St := ⟨43, [(1, .pv (.int .i64 c8)), (6, .pv (.mp false (c9.map mKey) (c9.map (mRow (eOpt eInt))))), (7, .hd 101 0 ((s.2.map eInt).length) 1), (18, .pv (.sl (c10.map Vertex.enc))), (19, .pv (.int .i64 c11)), (20, .pv (.int .i64 s.1))], [(101, .sl false 1 (s.2.map eInt))]⟩
abbrev forest_Side.l0.post (c8 : Int) (c9 : List (Int × (Option (List Int)))) (c10 : List Vertex) (c11 : Int) (r : AV) (outs : List AObj) (q : (List Int)) : Prop := WK Try.prog (19, 0) [.code (sub b19 [1, 1, 1, 1, 1, 0]), .code (sub b19 [1, 1, 1, 1, 1, 1])] ⟨43, [(7, .hd 101 0 ((q.map eInt).length) 1)], [(101, .sl false 1 (q.map eInt))]⟩ r outs
theorem forest_Side.l0.ok (c8 : Int) (c9 : List (Int × (Option (List Int)))) (c10 : List Vertex) (c11 : Int) (r : AV) (outs : List AObj) (s : Int × (List Int)) (q : (List Int)) (h : loopN fuel (forest_Side.l0 c8 c9 c10 c11) s = some q) (hd : forest_Side.l0.post c8 c9 c10 c11 r outs q) :
  WK Try.prog (19, 0) [.inLoop (sub b19 [1, 1, 1, 1, 0, 1, 0, 0]), .inBlock 0, .code (sub b19 [1, 1, 1, 1, 1])] (forest_Side.l0.enc c8 c9 c10 c11 s) r outs := by
 refine WK.loop (forest_Side.l0.enc c8 c9 c10 c11) (forest_Side.l0 c8 c9 c10 c11) (forest_Side.l0.post c8 c9 c10 c11 r outs) ?_ fuel s q h hd
 intro s x hx hn
 unfold forest_Side.l0 at hx
 refine br_ok hx (fun h12 hx => ?_) (fun h12 hx => ?_)
 ·refine getR_ok hx fun a13 h14 h15 hx => ?_
  refine oc_ok hx (fun h17 hx => ?_) (fun a16 h17 hx => ?_)
  ·cases hx
  ·refine oc_ok hx (fun h19 hx => ?_) (fun a18 h19 hx => ?_)
   ·cases hx
   ·refine getR_ok hx fun a20 h21 h22 hx => ?_
    let Q23 : List Prop := [(decide (s.1 < c11)) = true, 0 ≤ (s.1 : Int), (c10.map Vertex.enc)[(s.1 : Int).toNat]? = some (Vertex.enc a13), (Vertex.enc a13).length = 2, 2 = 2, intKeys .i64 (c9.map mKey), mfind (c9.map mKey) (c9.map (mRow (eOpt eInt))) (.int .i64 a13.ID) = some [.sl (a18.map eInt)], rowAV false [.sl (a18.map eInt)] = some (.pv (.sl (a18.map eInt))), 0 ≤ (0 : Int), (a18.map eInt)[(0 : Int).toNat]? = some (eInt a20), (eInt a20).length = 1]
    have k24 : All Q23 := ⟨h12, h14, rowOb h15, rfl, rfl, ikOb, mfindOb_s h17 h19, rfl, h21, rowOb h22, rfl, trivial⟩
    refine oc_ok hx (fun h26 hx => ?_) (fun a25 h26 hx => ?_)
    ·cases hx
    ·refine oc_ok hx (fun h28 hx => ?_) (fun a27 h28 hx => ?_)
     ·cases hx
     ·refine getR_ok hx fun a29 h30 h31 hx => ?_
      let A32 : List An := [.lp, .reg [], .br true, .reg [(0, none, .row (Vertex.enc a13)), (2, none, .nm 1015)], .draw [0, 1, 2, 3, 4, 5, 6, 7, 8, 9, 10, 11] [(3, none, .mget (.pv (.sl (a18.map eInt))) (some [.sl (a18.map eInt)])), (4, none, .row (eInt a20)), (8, none, .mget (.pv (.sl (a27.map eInt))) (some [.sl (a27.map eInt)])), (9, none, .row (eInt a29))]]
      let Q33 : List Prop := (Q23 ++ [intKeys .i64 (c9.map mKey), mfind (c9.map mKey) (c9.map (mRow (eOpt eInt))) (.int .i64 c8) = some [.sl (a27.map eInt)], rowAV false [.sl (a27.map eInt)] = some (.pv (.sl (a27.map eInt))), 0 ≤ (0 : Int), (a27.map eInt)[(0 : Int).toNat]? = some (eInt a29), (eInt a29).length = 1])
      have k34 : All Q33 := (All_append.2 ⟨k24, ⟨ikOb, mfindOb_s h26 h28, rfl, h30, rowOb h31, rfl, trivial⟩⟩)
      refine br_ok hx (fun h35 hx => ?_) (fun h35 hx => ?_)
      ·refine gd_ok hx fun h36 hx => ?_
       obtain rfl := sI hx
       exact WK.run (an := (A32 ++ [.br true, .reg [(3, none, .nm 1017), (4, none, .app 1019 ((s.2 ++ [a13.ID]).map eInt))], .reg []])) (kt := [1, 6, 7, 18, 19, 20]) (ko := [(1019, 101)]) (ps := (Q33 ++ [(a20 == a29) = true, 1 = 1, 1 = 1, 0 + 1 ≤ ([a13.ID].map eInt).length, 0 + ((s.2.map eInt).length) = (s.2.map eInt).length, (s.2.map eInt).drop 0 ++ (cut1 ([a13.ID].map eInt) 0 1) = ((s.2 ++ [a13.ID]).map eInt), ((s.2 ++ [a13.ID]).map eInt).length ≤ bigLen, ∀ r ∈ (cut1 ([a13.ID].map eInt) 0 1), r.length = 1])) (by kernel_rfl) (All_append.2 ⟨k34, ⟨h35, rfl, rfl, Nat.le_of_eq (Nat.zero_add _), Nat.zero_add _, by simp [cut1, List.take_of_length_le], bigOb h36, one_len rfl, trivial⟩⟩) hn
      ·obtain rfl := sI hx
       exact WK.run (an := (A32 ++ [.br false, .reg []])) (kt := [1, 6, 7, 18, 19, 20]) (ko := [(101, 101)]) (ps := (Q33 ++ [(a20 == a29) = false])) (by kernel_rfl) (All_append.2 ⟨k34, ⟨h35, trivial⟩⟩) hn
 ·obtain rfl := sI hx
  exact WK.run (an := [.lp, .reg [], .br false]) (kt := [7]) (ko := [(101, 101)]) (ps := [(decide (s.1 < c11)) = false]) (by kernel_rfl) ⟨h12, trivial⟩ hn
noncomputable def forest_Side (v1 : Graph) (v2 : Int) : Option ((List Int) × Int) :=
 bd (forest_known v1 [v2]) fun y3 =>
 br (!y3) (
  some ([], 70)) (
  bd (forest_grow v1) fun y6 =>
  bd (loopN fuel (forest_Side.l0 v2 y6 v1.Vertices ((v1.Vertices.length : Nat) : Int)) (0, [])) fun q37 =>
  some (q37, 0))
theorem forest_Side.ok (v1 : Graph) (v2 : Int) {x : (List Int) × Int} (hx : forest_Side v1 v2 = some x) :
  Spec Try.prog 19 [.aggp [.sl (v1.Vertices.map Vertex.enc), .sl (v1.Edges.map Edge.enc), .sl (v1.Depots.map eInt)], .pv (.int .i64 v2)] [] (.tup [.pv (.sl (x.1.map eInt)), .pv (.int .i64 x.2)]) [] := by
 refine Spec.of (c := b19) Try.func19 rfl rfl rfl ?_
 unfold forest_Side at hx
 refine bd_ok hx fun y3 e4 hx => ?_
 refine br_ok hx (fun h5 hx => ?_) (fun h5 hx => ?_)
 ·obtain rfl := sI hx
  exact WK.fin (fn := Try.f19) Try.func19 (an := [.reg [(0, none, .nm 1003), (1, none, .val (.pv (.sl ([].map eInt))))], .reg [(2, none, .nm 1005), (3, none, .call [1005] [] (.pv (.bool y3)) [] [])], .br true, .reg [(0, none, .val (.pv (.sl ([].map eInt))))]]) (kt := [4, 5]) (ko := []) (frz := []) (ps := [1 = 1, 1 = 1, 1 = ([v2].map eInt).length, Spec Try.prog 45 [.aggp [.sl (v1.Vertices.map Vertex.enc), .sl (v1.Edges.map Edge.enc), .sl (v1.Depots.map eInt)], .pv (.sl ([v2].map eInt))] [] (.pv (.bool y3)) [], (!y3) = true]) (qs := []) (by kernel_rfl) ⟨rfl, rfl, rfl, forest_known.ok v1 [v2] e4, h5, trivial⟩ trivial
 ·refine bd_ok hx fun y6 e7 hx => ?_
  refine bd_ok hx fun q37 e38 hx => ?_
  refine WK.run (an := [.reg [(0, none, .nm 1003), (1, none, .val (.pv (.sl ([].map eInt))))], .reg [(2, none, .nm 1005), (3, none, .call [1005] [] (.pv (.bool y3)) [] [])], .br false, .reg [(1, none, .call [] [] (.pv (.mp false (y6.map mKey) (y6.map (mRow (eOpt eInt))))) [] [])], .new 1007 1, .reg [(0, none, .val (.hd 1007 0 0 1))], .reg [(2, none, .val (.pv (.int .i64 ((v1.Vertices.length : Nat) : Int))))]]) (kt := [1, 6, 7, 18, 19, 20]) (ko := [(1007, 101)]) (ps := [1 = 1, 1 = 1, 1 = ([v2].map eInt).length, Spec Try.prog 45 [.aggp [.sl (v1.Vertices.map Vertex.enc), .sl (v1.Edges.map Edge.enc), .sl (v1.Depots.map eInt)], .pv (.sl ([v2].map eInt))] [] (.pv (.bool y3)) [], (!y3) = false, Spec Try.prog 40 [.aggp [.sl (v1.Vertices.map Vertex.enc), .sl (v1.Edges.map Edge.enc), .sl (v1.Depots.map eInt)]] [] (.pv (.mp false (y6.map mKey) (y6.map (mRow (eOpt eInt))))) [], AV.pv (.int .i64 ((v1.Vertices.map Vertex.enc).length : Nat)) = .pv (.int .i64 (v1.Vertices.length : Nat))]) (by kernel_rfl) ⟨rfl, rfl, rfl, forest_known.ok v1 [v2] e4, h5, forest_grow.ok v1 e7, lenOb, trivial⟩ (WK.enterLoop (forest_Side.l0.ok v2 y6 v1.Vertices ((v1.Vertices.length : Nat) : Int) _ _ _ _ e38 ?_))
  obtain rfl := sI hx
  exact WK.fin (fn := Try.f19) Try.func19 (an := [.reg []]) (kt := [4, 5]) (ko := [(101, 101)]) (frz := [101]) (ps := []) (qs := [(q37.map eInt).length = (q37.map eInt).length]) (by kernel_rfl) trivial ⟨rfl, trivial⟩
noncomputable abbrev b34 : Code := body Try.f34
noncomputable def r3Place.l0 (c3 : Int) (c4 : List Vertex) (c5 : List Edge) (c6 : List Int) (s : Int) : Option (Nx Int (Int ⊕ Unit)) :=
 br (decide (s < ((c4.length : Nat) : Int))) (
  getR c4 s fun a8 =>
  br (a8.ID == c3) (
   some (.done (.inl s))) (
   some (.cont (IntKind.i64.wrap (s + 1))))) (
  some (.done (.inr ())))
abbrev r3Place.l0.enc (c3 : Int) (c4 : List Vertex) (c5 : List Edge) (c6 : List Int) (s : Int) : St := ⟨22, [(1, .pv (.int .i64 c3)), (2, .ref 101 0 0 0), (5, .pv (.int .i64 s))], [(101, .varp [.sl (c4.map Vertex.enc), .sl (c5.map Edge.enc), .sl (c6.map eInt)])]⟩
abbrev r3Place.l0.post (c3 : Int) (c4 : List Vertex) (c5 : List Edge) (c6 : List Int) (r : AV) (outs : List AObj) (q : Int ⊕ Unit) : Prop := match q with | .inl q => WK Try.prog (34, 0) [.code (sub b34 [1, 0, 1, 0, 0, 1, 0, 0, 1, 0, 1]), .inBlock 1, .code (sub b34 [1, 0, 1, 0, 0, 1, 1]), .inLoop (sub b34 [1, 0, 1, 0, 0]), .inBlock 0, .code (sub b34 [1, 1])] ⟨22, [(4, .pv (.int .i64 q))], []⟩ r outs | .inr q => WK Try.prog (34, 0) [.code (sub b34 [1, 1, 0]), .code (sub b34 [1, 1, 1])] ⟨22, [], []⟩ r outs
theorem r3Place.l0.ok (c3 : Int) (c4 : List Vertex) (c5 : List Edge) (c6 : List Int) (r : AV) (outs : List AObj) (s : Int) (q : Int ⊕ Unit) (h : loopN fuel (r3Place.l0 c3 c4 c5 c6) s = some q) (hd : r3Place.l0.post c3 c4 c5 c6 r outs q) :
  WK Try.prog (34, 0) [.inLoop (sub b34 [1, 0, 1, 0, 0]), .inBlock 0, .code (sub b34 [1, 1])] (r3Place.l0.enc c3 c4 c5 c6 s) r outs := by
 refine WK.loop (r3Place.l0.enc c3 c4 c5 c6) (r3Place.l0 c3 c4 c5 c6) (r3Place.l0.post c3 c4 c5 c6 r outs) ?_ fuel s q h hd
 intro s x hx hn
 unfold r3Place.l0 at hx
 refine br_ok hx (fun h7 hx => ?_) (fun h7 hx => ?_)
 ·refine getR_ok hx fun a8 h9 h10 hx => ?_
  let Q11 : List Prop := [AV.pv (.int .i64 ((c4.map Vertex.enc).length : Nat)) = .pv (.int .i64 (c4.length : Nat)), (decide (s < ((c4.length : Nat) : Int))) = true, 0 ≤ (s : Int), (c4.map Vertex.enc)[(s : Int).toNat]? = some (Vertex.enc a8), (Vertex.enc a8).length = 2]
  have k12 : All Q11 := ⟨lenOb, h7, h9, rowOb h10, rfl, trivial⟩
  refine br_ok hx (fun h13 hx => ?_) (fun h13 hx => ?_)
  ·obtain rfl := sI hx
   exact WK.run (an := [.lp, .reg [(3, none, .val (.pv (.int .i64 ((c4.length : Nat) : Int))))], .br true, .reg [(3, none, .row (Vertex.enc a8))], .br true, .reg []]) (kt := [4]) (ko := []) (ps := (Q11 ++ [(a8.ID == c3) = true])) (by kernel_rfl) (All_append.2 ⟨k12, ⟨h13, trivial⟩⟩) hn
  ·obtain rfl := sI hx
   exact WK.run (an := [.lp, .reg [(3, none, .val (.pv (.int .i64 ((c4.length : Nat) : Int))))], .br true, .reg [(3, none, .row (Vertex.enc a8))], .br false, .reg []]) (kt := [1, 2, 5]) (ko := [(101, 101)]) (ps := (Q11 ++ [(a8.ID == c3) = false])) (by kernel_rfl) (All_append.2 ⟨k12, ⟨h13, trivial⟩⟩) hn
 ·obtain rfl := sI hx
  exact WK.run (an := [.lp, .reg [(3, none, .val (.pv (.int .i64 ((c4.length : Nat) : Int))))], .br false]) (kt := []) (ko := []) (ps := [AV.pv (.int .i64 ((c4.map Vertex.enc).length : Nat)) = .pv (.int .i64 (c4.length : Nat)), (decide (s < ((c4.length : Nat) : Int))) = false]) (by kernel_rfl) ⟨lenOb, h7, trivial⟩ hn
noncomputable def r3Place (v1 : Graph) (v2 : Int) : Option Int :=
 bd (loopN fuel (r3Place.l0 v2 v1.Vertices v1.Edges v1.Depots) 0) fun q14 =>
 match q14 with
 | .inl q14 =>
  some q14
 | .inr q14 =>
  some (-1)
theorem r3Place.ok (v1 : Graph) (v2 : Int) {x : Int} (hx : r3Place v1 v2 = some x) :
  Spec Try.prog 34 [.aggp [.sl (v1.Vertices.map Vertex.enc), .sl (v1.Edges.map Edge.enc), .sl (v1.Depots.map eInt)], .pv (.int .i64 v2)] [] (.pv (.int .i64 x)) [] := by
 refine Spec.of (c := b34) Try.func34 rfl rfl rfl ?_
 unfold r3Place at hx
 refine bd_ok hx fun q14 e15 hx => ?_
 refine WK.run (an := [.reg [(0, none, .nm 1003)], .reg []]) (kt := [1, 2, 5]) (ko := [(1003, 101)]) (ps := []) (by kernel_rfl) trivial (WK.enterLoop (r3Place.l0.ok v2 v1.Vertices v1.Edges v1.Depots _ _ _ _ e15 ?_))
 rcases q14 with (q14 | q14)
 ·obtain rfl := sI hx
  exact WK.fin (fn := Try.f34) Try.func34 (an := []) (kt := [4]) (ko := []) (frz := []) (ps := []) (qs := []) (by kernel_rfl) trivial trivial
 ·obtain rfl := sI hx
  exact WK.fin (fn := Try.f34) Try.func34 (an := [.reg []]) (kt := [4]) (ko := []) (frz := []) (ps := []) (qs := []) (by kernel_rfl) trivial trivial
noncomputable abbrev b55 : Code := body Try.f55
noncomputable def r3At.l0 (c3 : Int) (c4 : List Vertex) (c5 : List Edge) (c6 : List Int) (s : Int × (List Edge)) : Option (Nx (Int × (List Edge)) (List Edge)) :=
 br (decide (s.1 < ((c5.length : Nat) : Int))) (
  getR c5 s.1 fun a8 =>
  br (a8.From == c3) (
   getR c5 s.1 fun a14 =>
   gd ((s.2 ++ [a14]).length ≤ bigLen) <|
   some (.cont ((IntKind.i64.wrap (s.1 + 1)), (s.2 ++ [a14])))) (
   getR c5 s.1 fun a18 =>
   br (a18.To == c3) (
    getR c5 s.1 fun a22 =>
    gd ((s.2 ++ [a22]).length ≤ bigLen) <|
    some (.cont ((IntKind.i64.wrap (s.1 + 1)), (s.2 ++ [a22])))) (
    some (.cont ((IntKind.i64.wrap (s.1 + 1)), s.2))))) (
  some (.done s.2))
abbrev r3At.l0.enc (c3 : Int) (c4 : List Vertex) (c5 : List Edge) (c6 : List Int) (s : Int × (List Edge)) : St := ⟨41, [(1, .pv (.int .i64 c3)), (2, .ref 101 0 0 0), (5, .hd 103 0 ((s.2.map Edge.enc).length) 6), (6, .pv (.int .i64 s.1))], [(101, .varp [.sl (c4.map Vertex.enc), .sl (c5.map Edge.enc), .sl (c6.map eInt)]), (103, .sl false 6 (s.2.map Edge.enc))]⟩
abbrev r3At.l0.post (c3 : Int) (c4 : List Vertex) (c5 : List Edge) (c6 : List Int) (r : AV) (outs : List AObj) (q : (List Edge)) : Prop := WK Try.prog (55, 0) [.code (sub b55 [1, 1, 1, 0]), .code (sub b55 [1, 1, 1, 1])] ⟨41, [(5, .hd 101 0 ((q.map Edge.enc).length) 6)], [(101, .sl false 6 (q.map Edge.enc))]⟩ r outs
theorem r3At.l0.ok (c3 : Int) (c4 : List Vertex) (c5 : List Edge) (c6 : List Int) (r : AV) (outs : List AObj) (s : Int × (List Edge)) (q : (List Edge)) (h : loopN fuel (r3At.l0 c3 c4 c5 c6) s = some q) (hd : r3At.l0.post c3 c4 c5 c6 r outs q) :
  WK Try.prog (55, 0) [.inLoop (sub b55 [1, 1, 0, 1, 0, 0]), .inBlock 0, .code (sub b55 [1, 1, 1])] (r3At.l0.enc c3 c4 c5 c6 s) r outs := by
 refine WK.loop (r3At.l0.enc c3 c4 c5 c6) (r3At.l0 c3 c4 c5 c6) (r3At.l0.post c3 c4 c5 c6 r outs) ?_ fuel s q h hd
 intro s x hx hn
 unfold r3At.l0 at hx
 refine br_ok hx (fun h7 hx => ?_) (fun h7 hx => ?_)
 ·refine getR_ok hx fun a8 h9 h10 hx => ?_
  let Q11 : List Prop := [AV.pv (.int .i64 ((c5.map Edge.enc).length : Nat)) = .pv (.int .i64 (c5.length : Nat)), (decide (s.1 < ((c5.length : Nat) : Int))) = true, 0 ≤ (s.1 : Int), (c5.map Edge.enc)[(s.1 : Int).toNat]? = some (Edge.enc a8), (Edge.enc a8).length = 6]
  have k12 : All Q11 := ⟨lenOb, h7, h9, rowOb h10, rfl, trivial⟩
  refine br_ok hx (fun h13 hx => ?_) (fun h13 hx => ?_)
  ·refine getR_ok hx fun a14 h15 h16 hx => ?_
   refine gd_ok hx fun h17 hx => ?_
   obtain rfl := sI hx
   exact WK.run (an := [.lp, .reg [(3, none, .val (.pv (.int .i64 ((c5.length : Nat) : Int))))], .br true, .reg [(3, none, .row (Edge.enc a8)), (9, some true, .no)], .bk, .reg [(4, none, .row (Edge.enc a14)), (6, none, .nm 1015), (7, none, .app 1017 ((s.2 ++ [a14]).map Edge.enc))], .reg []]) (kt := [1, 2, 5, 6]) (ko := [(101, 101), (1017, 103)]) (ps := (Q11 ++ [(a8.From == c3) = true, 0 ≤ (s.1 : Int), (c5.map Edge.enc)[(s.1 : Int).toNat]? = some (Edge.enc a14), (Edge.enc a14).length = 6, 6 = 6, 6 = 6, 0 + 1 ≤ ([a14].map Edge.enc).length, 0 + ((s.2.map Edge.enc).length) = (s.2.map Edge.enc).length, (s.2.map Edge.enc).drop 0 ++ (cut1 ([a14].map Edge.enc) 0 1) = ((s.2 ++ [a14]).map Edge.enc), ((s.2 ++ [a14]).map Edge.enc).length ≤ bigLen, ∀ r ∈ (cut1 ([a14].map Edge.enc) 0 1), r.length = 6])) (by kernel_rfl) (All_append.2 ⟨k12, ⟨h13, h15, rowOb h16, rfl, rfl, rfl, Nat.le_of_eq (Nat.zero_add _), Nat.zero_add _, by simp [cut1, List.take_of_length_le], bigOb h17, one_len rfl, trivial⟩⟩) hn
  ·refine getR_ok hx fun a18 h19 h20 hx => ?_
   refine br_ok hx (fun h21 hx => ?_) (fun h21 hx => ?_)
   ·refine getR_ok hx fun a22 h23 h24 hx => ?_
    refine gd_ok hx fun h25 hx => ?_
    obtain rfl := sI hx
    exact WK.run (an := [.lp, .reg [(3, none, .val (.pv (.int .i64 ((c5.length : Nat) : Int))))], .br true, .reg [(3, none, .row (Edge.enc a8)), (9, some false, .no), (12, none, .row (Edge.enc a18))], .br true, .reg [(4, none, .row (Edge.enc a22)), (6, none, .nm 1019), (7, none, .app 1021 ((s.2 ++ [a22]).map Edge.enc))], .reg []]) (kt := [1, 2, 5, 6]) (ko := [(101, 101), (1021, 103)]) (ps := (Q11 ++ [(a8.From == c3) = false, 0 ≤ (s.1 : Int), (c5.map Edge.enc)[(s.1 : Int).toNat]? = some (Edge.enc a18), (Edge.enc a18).length = 6, (a18.To == c3) = true, 0 ≤ (s.1 : Int), (c5.map Edge.enc)[(s.1 : Int).toNat]? = some (Edge.enc a22), (Edge.enc a22).length = 6, 6 = 6, 6 = 6, 0 + 1 ≤ ([a22].map Edge.enc).length, 0 + ((s.2.map Edge.enc).length) = (s.2.map Edge.enc).length, (s.2.map Edge.enc).drop 0 ++ (cut1 ([a22].map Edge.enc) 0 1) = ((s.2 ++ [a22]).map Edge.enc), ((s.2 ++ [a22]).map Edge.enc).length ≤ bigLen, ∀ r ∈ (cut1 ([a22].map Edge.enc) 0 1), r.length = 6])) (by kernel_rfl) (All_append.2 ⟨k12, ⟨h13, h19, rowOb h20, rfl, h21, h23, rowOb h24, rfl, rfl, rfl, Nat.le_of_eq (Nat.zero_add _), Nat.zero_add _, by simp [cut1, List.take_of_length_le], bigOb h25, one_len rfl, trivial⟩⟩) hn
   ·obtain rfl := sI hx
    exact WK.run (an := [.lp, .reg [(3, none, .val (.pv (.int .i64 ((c5.length : Nat) : Int))))], .br true, .reg [(3, none, .row (Edge.enc a8)), (9, some false, .no), (12, none, .row (Edge.enc a18))], .br false, .reg []]) (kt := [1, 2, 5, 6]) (ko := [(101, 101), (103, 103)]) (ps := (Q11 ++ [(a8.From == c3) = false, 0 ≤ (s.1 : Int), (c5.map Edge.enc)[(s.1 : Int).toNat]? = some (Edge.enc a18), (Edge.enc a18).length = 6, (a18.To == c3) = false])) (by kernel_rfl) (All_append.2 ⟨k12, ⟨h13, h19, rowOb h20, rfl, h21, trivial⟩⟩) hn
 ·obtain rfl := sI hx
  exact WK.run (an := [.lp, .reg [(3, none, .val (.pv (.int .i64 ((c5.length : Nat) : Int))))], .br false]) (kt := [5]) (ko := [(103, 101)]) (ps := [AV.pv (.int .i64 ((c5.map Edge.enc).length : Nat)) = .pv (.int .i64 (c5.length : Nat)), (decide (s.1 < ((c5.length : Nat) : Int))) = false]) (by kernel_rfl) ⟨lenOb, h7, trivial⟩ hn
noncomputable def r3At (v1 : Graph) (v2 : Int) : Option (List Edge) :=
 bd (loopN fuel (r3At.l0 v2 v1.Vertices v1.Edges v1.Depots) (0, [])) fun q26 =>
 some q26
theorem r3At.ok (v1 : Graph) (v2 : Int) {x : (List Edge)} (hx : r3At v1 v2 = some x) :
  Spec Try.prog 55 [.aggp [.sl (v1.Vertices.map Vertex.enc), .sl (v1.Edges.map Edge.enc), .sl (v1.Depots.map eInt)], .pv (.int .i64 v2)] [] (.pv (.sl (x.map Edge.enc))) [] := by
 refine Spec.of (c := b55) Try.func55 rfl rfl rfl ?_
 unfold r3At at hx
 refine bd_ok hx fun q26 e27 hx => ?_
 refine WK.run (an := [.reg [(0, none, .nm 1003), (1, none, .val (.pv (.sl ([].map Edge.enc))))], .new 1005 6, .reg [(0, none, .val (.hd 1005 0 0 6))], .reg []]) (kt := [1, 2, 5, 6]) (ko := [(1003, 101), (1005, 103)]) (ps := []) (by kernel_rfl) trivial (WK.enterLoop (r3At.l0.ok v2 v1.Vertices v1.Edges v1.Depots _ _ _ _ e27 ?_))
 obtain rfl := sI hx
 exact WK.fin (fn := Try.f55) Try.func55 (an := [.reg []]) (kt := [4]) (ko := [(101, 101)]) (frz := [101]) (ps := []) (qs := [(q26.map Edge.enc).length = (q26.map Edge.enc).length]) (by kernel_rfl) trivial ⟨rfl, trivial⟩
noncomputable abbrev b44 : Code := body Try.f44
noncomputable def r3Other (v1 : Edge) (v2 : Int) : Option Int :=
 br (v1.From == v2) (
  some v1.To) (
  br (v1.To == v2) (
   some v1.From) (
   some (-1)))
theorem r3Other.ok (v1 : Edge) (v2 : Int) {x : Int} (hx : r3Other v1 v2 = some x) :
  Spec Try.prog 44 [.aggp [.int .i64 v1.ID, .int .i64 v1.From, .int .i64 v1.To, .bool v1.Directed, .int .i64 v1.Weight, .int .i64 v1.Cap], .pv (.int .i64 v2)] [] (.pv (.int .i64 x)) [] := by
 refine Spec.of (c := b44) Try.func44 rfl rfl rfl ?_
 unfold r3Other at hx
 refine br_ok hx (fun h3 hx => ?_) (fun h3 hx => ?_)
 ·obtain rfl := sI hx
  exact WK.fin (fn := Try.f44) Try.func44 (an := [.reg [(0, none, .nm 1003)], .reg [], .br true, .reg []]) (kt := [4]) (ko := []) (frz := []) (ps := [(v1.From == v2) = true]) (qs := []) (by kernel_rfl) ⟨h3, trivial⟩ trivial
 ·refine br_ok hx (fun h4 hx => ?_) (fun h4 hx => ?_)
  ·obtain rfl := sI hx
   exact WK.fin (fn := Try.f44) Try.func44 (an := [.reg [(0, none, .nm 1003)], .reg [], .br false, .reg [], .br true, .reg []]) (kt := [4]) (ko := []) (frz := []) (ps := [(v1.From == v2) = false, (v1.To == v2) = true]) (qs := []) (by kernel_rfl) ⟨h3, h4, trivial⟩ trivial
  ·obtain rfl := sI hx
   exact WK.fin (fn := Try.f44) Try.func44 (an := [.reg [(0, none, .nm 1003)], .reg [], .br false, .reg [], .br false, .reg []]) (kt := [4]) (ko := []) (frz := []) (ps := [(v1.From == v2) = false, (v1.To == v2) = false]) (qs := []) (by kernel_rfl) ⟨h3, h4, trivial⟩ trivial
noncomputable abbrev b27 : Code := body Try.f27
noncomputable def r7View.l0 (c26 : List Named) (c27 : Int) (c28 : Int) (c29 : Int) (c30 : Int) (c31 : List Edge) (c32 : List Int) (c33 : List Named) (s : Bool × Int) : Option (Nx (Bool × Int) Bool) :=
 br (decide (s.2 < ((c31.length : Nat) : Int))) (
  br s.1 (
   some (.cont (true, (IntKind.i64.wrap (s.2 + 1))))) (
   getR c31 s.2 fun a36 =>
   bd (r3Other a36 c27) fun y39 =>
   getR c26 c28 fun a41 =>
   some (.cont ((y39 == a41.ID), (IntKind.i64.wrap (s.2 + 1)))))) (
  some (.done s.1))
abbrev r7View.l0.enc (c26 : List Named) (c27 : Int) (c28 : Int) (c29 : Int) (c30 : Int) (c31 : List Edge) (c32 : List Int) (c33 : List Named) (s : Bool × Int) : St := ⟨87, [(1, .pv (.sl (c26.map Named.enc))), (2, .pv (.int .i64 c27)), (6, .ref 101 0 0 0), (8, .ref 103 0 0 0), (9, .pv (.int .i64 c28)), (10, .pv (.bool s.1)), (11, .pv (.int .i64 s.2))], [(101, .varp [.int .i64 0, .int .i64 0, .sl ([].map eInt), .sl ([].map Edge.enc), .sl ([].map Named.enc)]), (103, .var [.pv (.int .i64 c29), .pv (.int .i64 c30), .hd 105 0 ((c32.map eInt).length) 1, .pv (.sl (c31.map Edge.enc)), .hd 107 0 ((c33.map Named.enc).length) 2]), (105, .sl false 1 (c32.map eInt)), (107, .sl false 2 (c33.map Named.enc))]⟩
abbrev r7View.l0.post (c26 : List Named) (c27 : Int) (c28 : Int) (c29 : Int) (c30 : Int) (c31 : List Edge) (c32 : List Int) (c33 : List Named) (r : AV) (outs : List AObj) (q : Bool) : Prop := WK Try.prog (27, 0) [.code (sub b27 [1, 1, 1, 1, 0, 1, 0, 0, 1, 0, 0, 1, 1, 0]), .code (sub b27 [1, 1, 1, 1, 0, 1, 0, 0, 1, 0, 0, 1, 1, 1]), .inBlock 1, .code (sub b27 [1, 1, 1, 1, 0, 1, 0, 0, 1, 1]), .inLoop (sub b27 [1, 1, 1, 1, 0, 1, 0, 0]), .inBlock 0, .code (sub b27 [1, 1, 1, 1, 1])] ⟨87, [(1, .pv (.sl (c26.map Named.enc))), (2, .pv (.int .i64 c27)), (6, .ref 101 0 0 0), (8, .ref 103 0 0 0), (9, .pv (.int .i64 c28)), (10, .pv (.bool q))], [(101, .varp [.int .i64 0, .int .i64 0, .sl ([].map eInt), .sl ([].map Edge.enc), .sl ([].map Named.enc)]), (103, .var [.pv (.int .i64 c29), .pv (.int .i64 c30), .hd 105 0 ((c32.map eInt).length) 1, .pv (.sl (c31.map Edge.enc)), .hd 107 0 ((c33.map Named.enc).length) 2]), (105, .sl false 1 (c32.map eInt)), (107, .sl false 2 (c33.map Named.enc))]⟩ r outs
theorem r7View.l0.ok (c26 : List Named) (c27 : Int) (c28 : Int) (c29 : Int) (c30 : Int) (c31 : List Edge) (c32 : List Int) (c33 : List Named) (r : AV) (outs : List AObj) (s : Bool × Int) (q : Bool) (h : loopN fuel (r7View.l0 c26 c27 c28 c29 c30 c31 c32 c33) s = some q) (hd : r7View.l0.post c26 c27 c28 c29 c30 c31 c32 c33 r outs q) :
  WK Try.prog (27, 0) [.inLoop (sub b27 [1, 1, 1, 1, 0, 1, 0, 0, 1, 0, 0, 1, 0, 1, 0, 0]), .inBlock 2, .code (sub b27 [1, 1, 1, 1, 0, 1, 0, 0, 1, 0, 0, 1, 1]), .inBlock 1, .code (sub b27 [1, 1, 1, 1, 0, 1, 0, 0, 1, 1]), .inLoop (sub b27 [1, 1, 1, 1, 0, 1, 0, 0]), .inBlock 0, .code (sub b27 [1, 1, 1, 1, 1])] (r7View.l0.enc c26 c27 c28 c29 c30 c31 c32 c33 s) r outs := by
 refine WK.loop (r7View.l0.enc c26 c27 c28 c29 c30 c31 c32 c33) (r7View.l0 c26 c27 c28 c29 c30 c31 c32 c33) (r7View.l0.post c26 c27 c28 c29 c30 c31 c32 c33 r outs) ?_ fuel s q h hd
 intro s x hx hn
 unfold r7View.l0 at hx
 refine br_ok hx (fun h34 hx => ?_) (fun h34 hx => ?_)
 ·refine br_ok hx (fun h35 hx => ?_) (fun h35 hx => ?_)
  ·obtain rfl := sI hx
   exact WK.run (an := [.lp, .reg [(3, none, .val (.pv (.int .i64 ((c31.length : Nat) : Int))))], .br true, .draw [0, 1, 2, 3, 4, 5, 6, 7, 8, 9, 10, 11, 12, 13, 14, 15, 16] [(2, some true, .no), (3, some true, .no), (4, some true, .no), (5, some true, .no), (6, some true, .no), (7, some true, .no), (8, some true, .no), (9, some true, .no), (10, some true, .no), (11, some true, .no), (12, some true, .no), (13, some true, .no), (14, some true, .no), (15, none, .bit true)], .reg []]) (kt := [1, 2, 6, 8, 9, 10, 11]) (ko := [(101, 101), (103, 103), (105, 105), (107, 107)]) (ps := [AV.pv (.int .i64 ((c31.map Edge.enc).length : Nat)) = .pv (.int .i64 (c31.length : Nat)), (decide (s.2 < ((c31.length : Nat) : Int))) = true, s.1 = true, s.1 = true, s.1 = true, s.1 = true, s.1 = true, s.1 = true, s.1 = true, s.1 = true, s.1 = true, s.1 = true, s.1 = true, s.1 = true, s.1 = true, s.1 = true]) (by kernel_rfl) ⟨lenOb, h34, h35, h35, h35, h35, h35, h35, h35, h35, h35, h35, h35, h35, h35, h35, trivial⟩ hn
  ·refine getR_ok hx fun a36 h37 h38 hx => ?_
   refine bd_ok hx fun y39 e40 hx => ?_
   refine getR_ok hx fun a41 h42 h43 hx => ?_
   obtain rfl := sI hx
   exact WK.run (an := [.lp, .reg [(3, none, .val (.pv (.int .i64 ((c31.length : Nat) : Int))))], .br true, .draw [0, 1, 2, 3, 4, 5, 6, 7, 8, 9, 10, 11, 12, 13, 14, 15, 16] [(2, some false, .no), (3, some false, .no), (4, some false, .no), (5, some false, .row (Edge.enc a36)), (6, some false, .no), (7, some false, .no), (8, some false, .call [] [] (.pv (.int .i64 y39)) [] []), (9, some false, .no), (10, some false, .no), (11, some false, .row (Named.enc a41)), (12, some false, .no), (13, some false, .no), (14, some false, .no), (15, none, .bit false)], .reg []]) (kt := [1, 2, 6, 8, 9, 10, 11]) (ko := [(101, 101), (103, 103), (105, 105), (107, 107)]) (ps := [AV.pv (.int .i64 ((c31.map Edge.enc).length : Nat)) = .pv (.int .i64 (c31.length : Nat)), (decide (s.2 < ((c31.length : Nat) : Int))) = true, s.1 = false, s.1 = false, s.1 = false, s.1 = false, 0 ≤ (s.2 : Int), (c31.map Edge.enc)[(s.2 : Int).toNat]? = some (Edge.enc a36), (Edge.enc a36).length = 6, s.1 = false, s.1 = false, s.1 = false, Spec Try.prog 44 [.aggp [.int .i64 a36.ID, .int .i64 a36.From, .int .i64 a36.To, .bool a36.Directed, .int .i64 a36.Weight, .int .i64 a36.Cap], .pv (.int .i64 c27)] [] (.pv (.int .i64 y39)) [], s.1 = false, s.1 = false, s.1 = false, 0 ≤ (c28 : Int), (c26.map Named.enc)[(c28 : Int).toNat]? = some (Named.enc a41), (Named.enc a41).length = 2, s.1 = false, s.1 = false, s.1 = false, s.1 = false]) (by kernel_rfl) ⟨lenOb, h34, h35, h35, h35, h35, h37, rowOb h38, rfl, h35, h35, h35, r3Other.ok a36 c27 e40, h35, h35, h35, h42, rowOb h43, rfl, h35, h35, h35, h35, trivial⟩ hn
 ·obtain rfl := sI hx
  exact WK.run (an := [.lp, .reg [(3, none, .val (.pv (.int .i64 ((c31.length : Nat) : Int))))], .br false]) (kt := [1, 2, 6, 8, 9, 10]) (ko := [(101, 101), (103, 103), (105, 105), (107, 107)]) (ps := [AV.pv (.int .i64 ((c31.map Edge.enc).length : Nat)) = .pv (.int .i64 (c31.length : Nat)), (decide (s.2 < ((c31.length : Nat) : Int))) = false]) (by kernel_rfl) ⟨lenOb, h34, trivial⟩ hn
noncomputable def r7View.l1 (c16 : List Named) (c17 : Int) (c18 : Int) (c19 : Int) (c20 : List Edge) (c21 : List Int) (s : Int × (List Named)) : Option (Nx (Int × (List Named)) (List Named)) :=
 br (decide (s.1 < ((c16.length : Nat) : Int))) (
  getR c16 s.1 fun a23 =>
  bd (loopN fuel (r7View.l0 c16 c17 s.1 c18 c19 c20 c21 s.2) ((a23.ID == c17), 0)) fun q26 =>
  br q26 (
   getR c16 s.1 fun a29 =>
   getR c16 s.1 fun a32 =>
   gd (a32.Label.length ≤ bigLen) <|
   gd ((s.2 ++ [(Named.mk a29.ID a32.Label)]).length ≤ bigLen) <|
   some (.cont ((IntKind.i64.wrap (s.1 + 1)), (s.2 ++ [(Named.mk a29.ID a32.Label)])))) (
   some (.cont ((IntKind.i64.wrap (s.1 + 1)), s.2)))) (
  some (.done s.2))
abbrev r7View.l1.enc (c16 : List Named) (c17 : Int) (c18 : Int) (c19 : Int) (c20 : List Edge) (c21 : List Int) (s : Int × (List Named)) : St := ⟨87, [(1, .pv (.sl (c16.map Named.enc))), (2, .pv (.int .i64 c17)), (6, .ref 101 0 0 0), (8, .ref 103 0 0 0), (9, .pv (.int .i64 s.1))], [(101, .varp [.int .i64 0, .int .i64 0, .sl ([].map eInt), .sl ([].map Edge.enc), .sl ([].map Named.enc)]), (103, .var [.pv (.int .i64 c18), .pv (.int .i64 c19), .hd 105 0 ((c21.map eInt).length) 1, .pv (.sl (c20.map Edge.enc)), .hd 107 0 ((s.2.map Named.enc).length) 2]), (105, .sl false 1 (c21.map eInt)), (107, .sl false 2 (s.2.map Named.enc))]⟩
abbrev r7View.l1.post (c16 : List Named) (c17 : Int) (c18 : Int) (c19 : Int) (c20 : List Edge) (c21 : List Int) (r : AV) (outs : List AObj) (q : (List Named)) : Prop := WK Try.prog (27, 0) [.code (sub b27 [1, 1, 1, 1, 1, 0]), .code (sub b27 [1, 1, 1, 1, 1, 1])] ⟨87, [(6, .ref 101 0 0 0), (8, .ref 103 0 0 0)], [(101, .varp [.int .i64 0, .int .i64 0, .sl ([].map eInt), .sl ([].map Edge.enc), .sl ([].map Named.enc)]), (103, .var [.pv (.int .i64 c18), .pv (.int .i64 c19), .hd 105 0 ((c21.map eInt).length) 1, .pv (.sl (c20.map Edge.enc)), .hd 107 0 ((q.map Named.enc).length) 2]), (105, .sl false 1 (c21.map eInt)), (107, .sl false 2 (q.map Named.enc))]⟩ r outs
theorem r7View.l1.ok (c16 : List Named) (c17 : Int) (c18 : Int) (c19 : Int) (c20 : List Edge) (c21 : List Int) (r : AV) (outs : List AObj) (s : Int × (List Named)) (q : (List Named)) (h : loopN fuel (r7View.l1 c16 c17 c18 c19 c20 c21) s = some q) (hd : r7View.l1.post c16 c17 c18 c19 c20 c21 r outs q) :
  WK Try.prog (27, 0) [.inLoop (sub b27 [1, 1, 1, 1, 0, 1, 0, 0]), .inBlock 0, .code (sub b27 [1, 1, 1, 1, 1])] (r7View.l1.enc c16 c17 c18 c19 c20 c21 s) r outs := by
 refine WK.loop (r7View.l1.enc c16 c17 c18 c19 c20 c21) (r7View.l1 c16 c17 c18 c19 c20 c21) (r7View.l1.post c16 c17 c18 c19 c20 c21 r outs) ?_ fuel s q h hd
 intro s x hx hn
 unfold r7View.l1 at hx
 refine br_ok hx (fun h22 hx => ?_) (fun h22 hx => ?_)
 ·refine getR_ok hx fun a23 h24 h25 hx => ?_
  refine bd_ok hx fun q26 e27 hx => ?_
  refine WK.run (an := [.lp, .reg [(2, none, .val (.pv (.int .i64 ((c16.length : Nat) : Int))))], .br true, .reg [(2, none, .row (Named.enc a23))], .reg []]) (kt := [1, 2, 6, 8, 9, 10, 11]) (ko := [(101, 101), (103, 103), (105, 105), (107, 107)]) (ps := [AV.pv (.int .i64 ((c16.map Named.enc).length : Nat)) = .pv (.int .i64 (c16.length : Nat)), (decide (s.1 < ((c16.length : Nat) : Int))) = true, 0 ≤ (s.1 : Int), (c16.map Named.enc)[(s.1 : Int).toNat]? = some (Named.enc a23), (Named.enc a23).length = 2]) (by kernel_rfl) ⟨lenOb, h22, h24, rowOb h25, rfl, trivial⟩ (WK.enterLoop (r7View.l0.ok c16 c17 s.1 c18 c19 c20 c21 s.2 _ _ _ _ e27 ?_))
  refine br_ok hx (fun h28 hx => ?_) (fun h28 hx => ?_)
  ·refine getR_ok hx fun a29 h30 h31 hx => ?_
   refine getR_ok hx fun a32 h33 h34 hx => ?_
   refine gd_ok hx fun h35 hx => ?_
   refine gd_ok hx fun h36 hx => ?_
   obtain rfl := sI hx
   exact WK.run (an := [.reg [], .br true, .draw [0, 1, 2, 3, 4, 5, 6, 7, 8, 9, 10, 11, 12, 13, 14, 15, 16, 17, 18] [(4, none, .row (Named.enc a29)), (7, none, .nm 1023), (10, none, .row (Named.enc a32)), (13, none, .fz 1025 (.app 1025 (a32.Label.map eInt))), (15, none, .nm 1027), (16, none, .app 1029 ((s.2 ++ [(Named.mk a29.ID a32.Label)]).map Named.enc))], .reg []]) (kt := [1, 2, 6, 8, 9]) (ko := [(101, 101), (103, 103), (105, 105), (1029, 107)]) (ps := [q26 = true, 0 ≤ (s.1 : Int), (c16.map Named.enc)[(s.1 : Int).toNat]? = some (Named.enc a29), (Named.enc a29).length = 2, 1 = 1, 0 ≤ (s.1 : Int), (c16.map Named.enc)[(s.1 : Int).toNat]? = some (Named.enc a32), (Named.enc a32).length = 2, 0 + 0 = ([].map eInt).length, ([].map eInt).drop 0 ++ (a32.Label.map eInt) = (a32.Label.map eInt), (a32.Label.map eInt).length ≤ bigLen, ∀ r ∈ (a32.Label.map eInt), r.length = 1, (a32.Label.map eInt).length = (a32.Label.map eInt).length, 2 = 2, 2 = 2, 0 + 1 ≤ ([(Named.mk a29.ID a32.Label)].map Named.enc).length, 0 + ((s.2.map Named.enc).length) = (s.2.map Named.enc).length, (s.2.map Named.enc).drop 0 ++ (cut1 ([(Named.mk a29.ID a32.Label)].map Named.enc) 0 1) = ((s.2 ++ [(Named.mk a29.ID a32.Label)]).map Named.enc), ((s.2 ++ [(Named.mk a29.ID a32.Label)]).map Named.enc).length ≤ bigLen, ∀ r ∈ (cut1 ([(Named.mk a29.ID a32.Label)].map Named.enc) 0 1), r.length = 2, 1 = 1]) (by kernel_rfl) ⟨h28, h30, rowOb h31, rfl, rfl, h33, rowOb h34, rfl, Nat.zero_add _, by simp [cut1, List.take_of_length_le], bigOb h35, map_len fun _ => rfl, rfl, rfl, rfl, Nat.le_of_eq (Nat.zero_add _), Nat.zero_add _, by simp [cut1, List.take_of_length_le], bigOb h36, one_len rfl, rfl, trivial⟩ hn
  ·obtain rfl := sI hx
   exact WK.run (an := [.reg [], .br false, .reg []]) (kt := [1, 2, 6, 8, 9]) (ko := [(101, 101), (103, 103), (105, 105), (107, 107)]) (ps := [q26 = false]) (by kernel_rfl) ⟨h28, trivial⟩ hn
 ·obtain rfl := sI hx
  exact WK.run (an := [.lp, .reg [(2, none, .val (.pv (.int .i64 ((c16.length : Nat) : Int))))], .br false]) (kt := [6, 8]) (ko := [(101, 101), (103, 103), (105, 105), (107, 107)]) (ps := [AV.pv (.int .i64 ((c16.map Named.enc).length : Nat)) = .pv (.int .i64 (c16.length : Nat)), (decide (s.1 < ((c16.length : Nat) : Int))) = false]) (by kernel_rfl) ⟨lenOb, h22, trivial⟩ hn
noncomputable def r7View (v1 : Graph) (v2 : List Named) (v3 : Int) : Option View :=
 bd (r3Place v1 v3) fun y4 =>
 gd (v1.Depots.length ≤ bigLen) <|
 bd (r3At v1 v3) fun y7 =>
 br (decide (y4 ≥ 0)) (
  getR v1.Vertices y4 fun a13 =>
  bd (loopN fuel (r7View.l1 v2 v3 a13.ID a13.Side y7 v1.Depots) (0, [])) fun q37 =>
  some (View.mk a13 v1.Depots y7 q37)) (
  bd (loopN fuel (r7View.l1 v2 v3 0 0 y7 v1.Depots) (0, [])) fun q39 =>
  some (View.mk (Vertex.mk 0 0) v1.Depots y7 q39))
theorem r7View.ok (v1 : Graph) (v2 : List Named) (v3 : Int) {x : View} (hx : r7View v1 v2 v3 = some x) :
  Spec Try.prog 27 [.aggp [.sl (v1.Vertices.map Vertex.enc), .sl (v1.Edges.map Edge.enc), .sl (v1.Depots.map eInt)], .pv (.sl (v2.map Named.enc)), .pv (.int .i64 v3)] [] (.aggp [.int .i64 x.Vertex.ID, .int .i64 x.Vertex.Side, .sl (x.Depots.map eInt), .sl (x.Edges.map Edge.enc), .sl (x.Labels.map Named.enc)]) [] := by
 refine Spec.of (c := b27) Try.func27 rfl rfl rfl ?_
 unfold r7View at hx
 refine bd_ok hx fun y4 e5 hx => ?_
 refine gd_ok hx fun h6 hx => ?_
 refine bd_ok hx fun y7 e8 hx => ?_
 let A9 : List An := [.reg [(0, none, .nm 1003), (1, none, .nmv 1005 (.aggp [.int .i64 0, .int .i64 0, .sl ([].map eInt), .sl ([].map Edge.enc), .sl ([].map Named.enc)]))], .reg [(2, none, .call [] [] (.pv (.int .i64 y4)) [] [])], .new 1011 2, .draw [0, 1, 2, 3, 4, 5, 6, 7, 8, 9] [(0, none, .nm 1007), (3, none, .app 1009 (v1.Depots.map eInt)), (6, none, .call [] [] (.pv (.sl (y7.map Edge.enc))) [] []), (7, none, .val (.agg [.pv (.int .i64 0), .pv (.int .i64 0), .hd 1009 0 ((v1.Depots.map eInt).length) 1, .pv (.sl (y7.map Edge.enc)), .hd 1011 0 0 2])), (8, none, .nmv 1013 (.aggp [.int .i64 0, .int .i64 0, .sl ([].map eInt), .sl ([].map Edge.enc), .sl ([].map Named.enc)]))], .reg []]
 let Q10 : List Prop := [AV.pv (.int .i64 0) = .pv (.int .i64 0), AV.pv (.int .i64 0) = .pv (.int .i64 0), Spec Try.prog 34 [.aggp [.sl (v1.Vertices.map Vertex.enc), .sl (v1.Edges.map Edge.enc), .sl (v1.Depots.map eInt)], .pv (.int .i64 v3)] [] (.pv (.int .i64 y4)) [], 1 = 1, 0 + 0 = ([].map eInt).length, ([].map eInt).drop 0 ++ (v1.Depots.map eInt) = (v1.Depots.map eInt), (v1.Depots.map eInt).length ≤ bigLen, ∀ r ∈ (v1.Depots.map eInt), r.length = 1, Spec Try.prog 55 [.aggp [.sl (v1.Vertices.map Vertex.enc), .sl (v1.Edges.map Edge.enc), .sl (v1.Depots.map eInt)], .pv (.int .i64 v3)] [] (.pv (.sl (y7.map Edge.enc))) [], AV.pv (.int .i64 0) = .pv (.int .i64 0), AV.pv (.int .i64 0) = .pv (.int .i64 0), AV.hd 1009 0 ((v1.Depots.map eInt).length) 1 = .hd 1009 0 ((v1.Depots.map eInt).length) 1, AV.pv (.sl (y7.map Edge.enc)) = .pv (.sl (y7.map Edge.enc)), AV.pv (.int .i64 0) = .pv (.int .i64 0), AV.pv (.int .i64 0) = .pv (.int .i64 0), 5 = 5]
 have k11 : All Q10 := ⟨rfl, rfl, r3Place.ok v1 v3 e5, rfl, Nat.zero_add _, by simp [cut1, List.take_of_length_le], bigOb h6, map_len fun _ => rfl, r3At.ok v1 v3 e8, rfl, rfl, rfl, rfl, rfl, rfl, rfl, trivial⟩
 refine br_ok hx (fun h12 hx => ?_) (fun h12 hx => ?_)
 ·refine getR_ok hx fun a13 h14 h15 hx => ?_
  refine bd_ok hx fun q37 e38 hx => ?_
  refine WK.run (an := (A9 ++ [.br true, .reg [(3, none, .row (Vertex.enc a13))], .reg []])) (kt := [1, 2, 6, 8, 9]) (ko := [(1005, 101), (1013, 103), (1009, 105), (1011, 107)]) (ps := (Q10 ++ [(decide (y4 ≥ 0)) = true, 0 ≤ (y4 : Int), (v1.Vertices.map Vertex.enc)[(y4 : Int).toNat]? = some (Vertex.enc a13), (Vertex.enc a13).length = 2, 2 = 2])) (by kernel_rfl) (All_append.2 ⟨k11, ⟨h12, h14, rowOb h15, rfl, rfl, trivial⟩⟩) (WK.enterLoop (r7View.l1.ok v2 v3 a13.ID a13.Side y7 v1.Depots _ _ _ _ e38 ?_))
  obtain rfl := sI hx
  exact WK.fin (fn := Try.f27) Try.func27 (an := [.reg []]) (kt := [6]) (ko := [(101, 101), (105, 103), (107, 105)]) (frz := [103, 105]) (ps := [5 = 5]) (qs := [(v1.Depots.map eInt).length = (v1.Depots.map eInt).length, (q37.map Named.enc).length = (q37.map Named.enc).length]) (by kernel_rfl) ⟨rfl, trivial⟩ ⟨rfl, rfl, trivial⟩
 ·refine bd_ok hx fun q39 e40 hx => ?_
  refine WK.run (an := (A9 ++ [.br false, .reg []])) (kt := [1, 2, 6, 8, 9]) (ko := [(1005, 101), (1013, 103), (1009, 105), (1011, 107)]) (ps := (Q10 ++ [(decide (y4 ≥ 0)) = false])) (by kernel_rfl) (All_append.2 ⟨k11, ⟨h12, trivial⟩⟩) (WK.enterLoop (r7View.l1.ok v2 v3 0 0 y7 v1.Depots _ _ _ _ e40 ?_))
  obtain rfl := sI hx
  exact WK.fin (fn := Try.f27) Try.func27 (an := [.reg []]) (kt := [6]) (ko := [(101, 101), (105, 103), (107, 105)]) (frz := [103, 105]) (ps := [5 = 5]) (qs := [(v1.Depots.map eInt).length = (v1.Depots.map eInt).length, (q39.map Named.enc).length = (q39.map Named.enc).length]) (by kernel_rfl) ⟨rfl, trivial⟩ ⟨rfl, rfl, trivial⟩
noncomputable abbrev b56 : Code := body Try.f56
noncomputable def r7pick (v1 : Int) (v2 : Int) : Option Int :=
 br (decide (v1 < 0)) (
  gd (v2 ≠ 0) <|
  some ((IntKind.i64.wrap (0 - (IntKind.i64.wrap (v1 + 1)))).tmod v2)) (
  gd (v2 ≠ 0) <|
  some (v1.tmod v2))
theorem r7pick.ok (v1 : Int) (v2 : Int) {x : Int} (hx : r7pick v1 v2 = some x) :
  Spec Try.prog 56 [.pv (.int .i64 v1), .pv (.int .i64 v2)] [] (.pv (.int .i64 x)) [] := by
 refine Spec.of (c := b56) Try.func56 rfl rfl rfl ?_
 unfold r7pick at hx
 refine br_ok hx (fun h3 hx => ?_) (fun h3 hx => ?_)
 ·refine gd_ok hx fun h4 hx => ?_
  obtain rfl := sI hx
  exact WK.fin (fn := Try.f56) Try.func56 (an := [.reg [], .reg [], .br true, .reg [], .reg []]) (kt := [4]) (ko := []) (frz := []) (ps := [(decide (v1 < 0)) = true, v2 ≠ 0]) (qs := []) (by kernel_rfl) ⟨h3, h4, trivial⟩ trivial
 ·refine gd_ok hx fun h5 hx => ?_
  obtain rfl := sI hx
  exact WK.fin (fn := Try.f56) Try.func56 (an := [.reg [], .reg [], .br false, .reg []]) (kt := [4]) (ko := []) (frz := []) (ps := [(decide (v1 < 0)) = false, v2 ≠ 0]) (qs := []) (by kernel_rfl) ⟨h3, h5, trivial⟩ trivial
end Go.Fw.Gen
