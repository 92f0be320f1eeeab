/- Plain functions, and the proofs that the program computes them; printed by a program of our own. -/
import Derived.Test.YtpkjgdngkhnhpaaG3
set_option linter.unusedVariables false
namespace Go.Fw.Gen
open Go.Proofs Go.Fw

noncomputable abbrev b5 : Code := body Try.f5
noncomputable def clearwaylaw07_ForestCounts.l0 (c42 : List Named) (c43 : Int) (c44 : Int) (c45 : Int) (c46 : Int) (c47 : List Edge) (c48 : List Vertex) (c49 : List Edge) (c50 : List Int) (s : Int × Int) : Option (Nx (Int × Int) (Unit ⊕ Int)) :=
  br (decide (s.2 < ((c47.length : Nat) : Int))) (
    getR c47 s.2 fun a52 =>
    getR c42 c45 fun a55 =>
    getR a55.Label 2 fun a58 =>
    br (a52.ID != a58) (
      some (.cont (s.1, (IntKind.i64.wrap (s.2 + 1))))) (
      getR c47 s.2 fun a62 =>
      bd (graph_Other a62 c46) fun y65 =>
      bd (clearwayref03_Place (Graph.mk c48 c49 c50) y65) fun y67 =>
      br (decide (y67 < 0)) (
        some (.done (.inl ()))) (
        getR c42 y67 fun a70 =>
        getR a70.Label 1 fun a73 =>
        getR c42 c45 fun a76 =>
        getR a76.Label 1 fun a79 =>
        br (decide (a73 ≥ a79)) (
          some (.done (.inl ()))) (
          some (.cont ((IntKind.i64.wrap (s.1 + 1)), (IntKind.i64.wrap (s.2 + 1)))))))) (
    some (.done (.inr s.1)))

abbrev clearwaylaw07_ForestCounts.l0.enc (c42 : List Named) (c43 : Int) (c44 : Int) (c45 : Int) (c46 : Int) (c47 : List Edge) (c48 : List Vertex) (c49 : List Edge) (c50 : List Int) (s : Int × Int) : St := ⟨148, [(7, .ref 101 0 0 0), (8, .pv (.sl (c42.map Named.enc))), (10, .pv (.int .i64 c43)), (11, .pv (.int .i64 s.1)), (12, .pv (.int .i64 c44)), (13, .pv (.int .i64 c45)), (14, .pv (.int .i64 c46)), (15, .pv (.sl (c47.map Edge.enc))), (16, .pv (.int .i64 s.2))], [(101, .varp [.sl (c48.map Vertex.enc), .sl (c49.map Edge.enc), .sl (c50.map eInt)])]⟩

abbrev clearwaylaw07_ForestCounts.l0.post (c42 : List Named) (c43 : Int) (c44 : Int) (c45 : Int) (c46 : Int) (c47 : List Edge) (c48 : List Vertex) (c49 : List Edge) (c50 : List Int) (r : AV) (outs : List AObj) (q : Unit ⊕ Int) : Prop := match q with | .inl q => WK Try.prog (5, 0) [.code (sub b5 [1, 1, 1, 1, 1, 1, 1, 1, 0, 1, 0, 0, 1, 0, 0, 1, 1, 1, 1, 1, 1, 0, 0, 1, 0, 0, 1, 1, 1, 1, 0, 1]), .inBlock 3, .code (sub b5 [1, 1, 1, 1, 1, 1, 1, 1, 0, 1, 0, 0, 1, 0, 0, 1, 1, 1, 1, 1, 1, 0, 0, 1, 1]), .inLoop (sub b5 [1, 1, 1, 1, 1, 1, 1, 1, 0, 1, 0, 0, 1, 0, 0, 1, 1, 1, 1, 1, 1, 0, 0]), .inBlock 2, .inBlock 1, .code (sub b5 [1, 1, 1, 1, 1, 1, 1, 1, 0, 1, 0, 0, 1, 1]), .inLoop (sub b5 [1, 1, 1, 1, 1, 1, 1, 1, 0, 1, 0, 0]), .inBlock 0, .code (sub b5 [1, 1, 1, 1, 1, 1, 1, 1, 1])] ⟨148, [(6, .pv (.bool false))], []⟩ r outs | .inr q => WK Try.prog (5, 0) [.code (sub b5 [1, 1, 1, 1, 1, 1, 1, 1, 0, 1, 0, 0, 1, 1]), .inLoop (sub b5 [1, 1, 1, 1, 1, 1, 1, 1, 0, 1, 0, 0]), .inBlock 0, .code (sub b5 [1, 1, 1, 1, 1, 1, 1, 1, 1])] ⟨148, [(7, .ref 101 0 0 0), (8, .pv (.sl (c42.map Named.enc))), (10, .pv (.int .i64 c43)), (11, .pv (.int .i64 q)), (12, .pv (.int .i64 c44)), (13, .pv (.int .i64 c45))], [(101, .varp [.sl (c48.map Vertex.enc), .sl (c49.map Edge.enc), .sl (c50.map eInt)])]⟩ r outs

theorem clearwaylaw07_ForestCounts.l0.ok (c42 : List Named) (c43 : Int) (c44 : Int) (c45 : Int) (c46 : Int) (c47 : List Edge) (c48 : List Vertex) (c49 : List Edge) (c50 : List Int) (r : AV) (outs : List AObj) (s : Int × Int) (q : Unit ⊕ Int) (h : loopN fuel (clearwaylaw07_ForestCounts.l0 c42 c43 c44 c45 c46 c47 c48 c49 c50) s = some q) (hd : clearwaylaw07_ForestCounts.l0.post c42 c43 c44 c45 c46 c47 c48 c49 c50 r outs q) :
    WK Try.prog (5, 0) [.inLoop (sub b5 [1, 1, 1, 1, 1, 1, 1, 1, 0, 1, 0, 0, 1, 0, 0, 1, 1, 1, 1, 1, 1, 0, 0]), .inBlock 2, .inBlock 1, .code (sub b5 [1, 1, 1, 1, 1, 1, 1, 1, 0, 1, 0, 0, 1, 1]), .inLoop (sub b5 [1, 1, 1, 1, 1, 1, 1, 1, 0, 1, 0, 0]), .inBlock 0, .code (sub b5 [1, 1, 1, 1, 1, 1, 1, 1, 1])] (clearwaylaw07_ForestCounts.l0.enc c42 c43 c44 c45 c46 c47 c48 c49 c50 s) r outs := by
  refine WK.loop (clearwaylaw07_ForestCounts.l0.enc c42 c43 c44 c45 c46 c47 c48 c49 c50) (clearwaylaw07_ForestCounts.l0 c42 c43 c44 c45 c46 c47 c48 c49 c50) (clearwaylaw07_ForestCounts.l0.post c42 c43 c44 c45 c46 c47 c48 c49 c50 r outs) ?_ fuel s q h hd
  intro s x hx hn
  unfold clearwaylaw07_ForestCounts.l0 at hx
  refine br_ok hx (fun h51 hx => ?_) (fun h51 hx => ?_)
  · refine getR_ok hx fun a52 h53 h54 hx => ?_
    refine getR_ok hx fun a55 h56 h57 hx => ?_
    refine getR_ok hx fun a58 h59 h60 hx => ?_
    refine br_ok hx (fun h61 hx => ?_) (fun h61 hx => ?_)
    · have hx := Option.some.inj hx
      subst hx
      refine WK.run (an := [.lp, .reg [(2, none, .val (.pv (.int .i64 ((c47.length : Nat) : Int))))], .br true, .draw [0, 1, 2, 3, 4, 5, 6, 7, 8, 9, 10, 11, 12] [(2, none, .row (Edge.enc a52)), (7, none, .row (Named.enc a55)), (10, none, .row (eInt a58))], .br true, .reg []]) (kt := [7, 8, 10, 11, 12, 13, 14, 15, 16]) (ko := [(101, 101)]) (k' := [.inLoop (sub b5 [1, 1, 1, 1, 1, 1, 1, 1, 0, 1, 0, 0, 1, 0, 0, 1, 1, 1, 1, 1, 1, 0, 0]), .inBlock 2, .inBlock 1, .code (sub b5 [1, 1, 1, 1, 1, 1, 1, 1, 0, 1, 0, 0, 1, 1]), .inLoop (sub b5 [1, 1, 1, 1, 1, 1, 1, 1, 0, 1, 0, 0]), .inBlock 0, .code (sub b5 [1, 1, 1, 1, 1, 1, 1, 1, 1])]) (σ' := clearwaylaw07_ForestCounts.l0.enc c42 c43 c44 c45 c46 c47 c48 c49 c50 (s.1, (IntKind.i64.wrap (s.2 + 1)))) (ps := [AV.pv (.int .i64 ((c47.map Edge.enc).length : Nat)) = .pv (.int .i64 (c47.length : Nat)), (decide (s.2 < ((c47.length : Nat) : Int))) = true, 0 ≤ (s.2 : Int), (c47.map Edge.enc)[(s.2 : Int).toNat]? = some (Edge.enc a52), (Edge.enc a52).length = 6, 0 ≤ (c45 : Int), (c42.map Named.enc)[(c45 : Int).toNat]? = some (Named.enc a55), (Named.enc a55).length = 2, 0 ≤ (2 : Int), (a55.Label.map eInt)[(2 : Int).toNat]? = some (eInt a58), (eInt a58).length = 1, (a52.ID != a58) = true])
        (by kernel_rfl) ⟨lenOb, h51, h53, rowOb h54, rfl, h56, rowOb h57, rfl, h59, rowOb h60, rfl, h61, trivial⟩ ?_
      exact hn
    · refine getR_ok hx fun a62 h63 h64 hx => ?_
      refine bd_ok hx fun y65 e66 hx => ?_
      refine bd_ok hx fun y67 e68 hx => ?_
      refine br_ok hx (fun h69 hx => ?_) (fun h69 hx => ?_)
      · have hx := Option.some.inj hx
        subst hx
        refine WK.run (an := [.lp, .reg [(2, none, .val (.pv (.int .i64 ((c47.length : Nat) : Int))))], .br true, .draw [0, 1, 2, 3, 4, 5, 6, 7, 8, 9, 10, 11, 12] [(2, none, .row (Edge.enc a52)), (7, none, .row (Named.enc a55)), (10, none, .row (eInt a58))], .br false, .reg [], .draw [0, 1, 2, 3, 4, 5, 6, 7, 8] [(3, none, .row (Edge.enc a62)), (6, none, .call [] [] (.pv (.int .i64 y65)) [] []), (7, none, .call [] [] (.pv (.int .i64 y67)) [] [])], .draw [0, 1, 2, 3, 4, 5, 6, 7, 8, 9, 10, 11, 12, 13, 14, 15, 16, 17, 18] [(3, some true, .no), (4, some true, .no), (5, some true, .no), (6, some true, .no), (7, some true, .no), (8, some true, .no), (9, some true, .no), (10, some true, .no), (11, some true, .no), (12, some true, .no), (13, some true, .no), (14, some true, .no), (15, some true, .no), (16, some true, .no), (17, some true, .no), (18, none, .bit true)], .bk, .reg []]) (kt := [6]) (ko := []) (k' := [.code (sub b5 [1, 1, 1, 1, 1, 1, 1, 1, 0, 1, 0, 0, 1, 0, 0, 1, 1, 1, 1, 1, 1, 0, 0, 1, 0, 0, 1, 1, 1, 1, 0, 1]), .inBlock 3, .code (sub b5 [1, 1, 1, 1, 1, 1, 1, 1, 0, 1, 0, 0, 1, 0, 0, 1, 1, 1, 1, 1, 1, 0, 0, 1, 1]), .inLoop (sub b5 [1, 1, 1, 1, 1, 1, 1, 1, 0, 1, 0, 0, 1, 0, 0, 1, 1, 1, 1, 1, 1, 0, 0]), .inBlock 2, .inBlock 1, .code (sub b5 [1, 1, 1, 1, 1, 1, 1, 1, 0, 1, 0, 0, 1, 1]), .inLoop (sub b5 [1, 1, 1, 1, 1, 1, 1, 1, 0, 1, 0, 0]), .inBlock 0, .code (sub b5 [1, 1, 1, 1, 1, 1, 1, 1, 1])]) (σ' := ⟨148, [(6, .pv (.bool false))], []⟩) (ps := [AV.pv (.int .i64 ((c47.map Edge.enc).length : Nat)) = .pv (.int .i64 (c47.length : Nat)), (decide (s.2 < ((c47.length : Nat) : Int))) = true, 0 ≤ (s.2 : Int), (c47.map Edge.enc)[(s.2 : Int).toNat]? = some (Edge.enc a52), (Edge.enc a52).length = 6, 0 ≤ (c45 : Int), (c42.map Named.enc)[(c45 : Int).toNat]? = some (Named.enc a55), (Named.enc a55).length = 2, 0 ≤ (2 : Int), (a55.Label.map eInt)[(2 : Int).toNat]? = some (eInt a58), (eInt a58).length = 1, (a52.ID != a58) = false, 0 ≤ (s.2 : Int), (c47.map Edge.enc)[(s.2 : Int).toNat]? = some (Edge.enc a62), (Edge.enc a62).length = 6, Spec Try.prog 35 [.aggp [.int .i64 a62.ID, .int .i64 a62.From, .int .i64 a62.To, .bool a62.Directed, .int .i64 a62.Weight, .int .i64 a62.Cap], .pv (.int .i64 c46)] [] (.pv (.int .i64 y65)) [], Spec Try.prog 34 [.aggp [.sl (c48.map Vertex.enc), .sl (c49.map Edge.enc), .sl (c50.map eInt)], .pv (.int .i64 y65)] [] (.pv (.int .i64 y67)) [], (decide (y67 < 0)) = true, (decide (y67 < 0)) = true, (decide (y67 < 0)) = true, (decide (y67 < 0)) = true, (decide (y67 < 0)) = true, (decide (y67 < 0)) = true, (decide (y67 < 0)) = true, (decide (y67 < 0)) = true, (decide (y67 < 0)) = true, (decide (y67 < 0)) = true, (decide (y67 < 0)) = true, (decide (y67 < 0)) = true, (decide (y67 < 0)) = true, (decide (y67 < 0)) = true, (decide (y67 < 0)) = true, (decide (y67 < 0)) = true])
          (by kernel_rfl) ⟨lenOb, h51, h53, rowOb h54, rfl, h56, rowOb h57, rfl, h59, rowOb h60, rfl, h61, h63, rowOb h64, rfl, graph_Other.ok a62 c46 e66, clearwayref03_Place.ok (Graph.mk c48 c49 c50) y65 e68, h69, h69, h69, h69, h69, h69, h69, h69, h69, h69, h69, h69, h69, h69, h69, h69, trivial⟩ ?_
        exact hn
      · refine getR_ok hx fun a70 h71 h72 hx => ?_
        refine getR_ok hx fun a73 h74 h75 hx => ?_
        refine getR_ok hx fun a76 h77 h78 hx => ?_
        refine getR_ok hx fun a79 h80 h81 hx => ?_
        refine br_ok hx (fun h82 hx => ?_) (fun h82 hx => ?_)
        · have hx := Option.some.inj hx
          subst hx
          refine WK.run (an := [.lp, .reg [(2, none, .val (.pv (.int .i64 ((c47.length : Nat) : Int))))], .br true, .draw [0, 1, 2, 3, 4, 5, 6, 7, 8, 9, 10, 11, 12] [(2, none, .row (Edge.enc a52)), (7, none, .row (Named.enc a55)), (10, none, .row (eInt a58))], .br false, .reg [], .draw [0, 1, 2, 3, 4, 5, 6, 7, 8] [(3, none, .row (Edge.enc a62)), (6, none, .call [] [] (.pv (.int .i64 y65)) [] []), (7, none, .call [] [] (.pv (.int .i64 y67)) [] [])], .draw [0, 1, 2, 3, 4, 5, 6, 7, 8, 9, 10, 11, 12, 13, 14, 15, 16, 17, 18] [(3, some false, .no), (4, some false, .no), (5, some false, .row (Named.enc a70)), (6, some false, .no), (7, some false, .no), (8, some false, .row (eInt a73)), (9, some false, .no), (10, some false, .no), (11, some false, .no), (12, some false, .row (Named.enc a76)), (13, some false, .no), (14, some false, .no), (15, some false, .row (eInt a79)), (16, some false, .no), (17, some false, .no), (18, none, .bit false)], .br true, .reg []]) (kt := [6]) (ko := []) (k' := [.code (sub b5 [1, 1, 1, 1, 1, 1, 1, 1, 0, 1, 0, 0, 1, 0, 0, 1, 1, 1, 1, 1, 1, 0, 0, 1, 0, 0, 1, 1, 1, 1, 0, 1]), .inBlock 3, .code (sub b5 [1, 1, 1, 1, 1, 1, 1, 1, 0, 1, 0, 0, 1, 0, 0, 1, 1, 1, 1, 1, 1, 0, 0, 1, 1]), .inLoop (sub b5 [1, 1, 1, 1, 1, 1, 1, 1, 0, 1, 0, 0, 1, 0, 0, 1, 1, 1, 1, 1, 1, 0, 0]), .inBlock 2, .inBlock 1, .code (sub b5 [1, 1, 1, 1, 1, 1, 1, 1, 0, 1, 0, 0, 1, 1]), .inLoop (sub b5 [1, 1, 1, 1, 1, 1, 1, 1, 0, 1, 0, 0]), .inBlock 0, .code (sub b5 [1, 1, 1, 1, 1, 1, 1, 1, 1])]) (σ' := ⟨148, [(6, .pv (.bool false))], []⟩) (ps := [AV.pv (.int .i64 ((c47.map Edge.enc).length : Nat)) = .pv (.int .i64 (c47.length : Nat)), (decide (s.2 < ((c47.length : Nat) : Int))) = true, 0 ≤ (s.2 : Int), (c47.map Edge.enc)[(s.2 : Int).toNat]? = some (Edge.enc a52), (Edge.enc a52).length = 6, 0 ≤ (c45 : Int), (c42.map Named.enc)[(c45 : Int).toNat]? = some (Named.enc a55), (Named.enc a55).length = 2, 0 ≤ (2 : Int), (a55.Label.map eInt)[(2 : Int).toNat]? = some (eInt a58), (eInt a58).length = 1, (a52.ID != a58) = false, 0 ≤ (s.2 : Int), (c47.map Edge.enc)[(s.2 : Int).toNat]? = some (Edge.enc a62), (Edge.enc a62).length = 6, Spec Try.prog 35 [.aggp [.int .i64 a62.ID, .int .i64 a62.From, .int .i64 a62.To, .bool a62.Directed, .int .i64 a62.Weight, .int .i64 a62.Cap], .pv (.int .i64 c46)] [] (.pv (.int .i64 y65)) [], Spec Try.prog 34 [.aggp [.sl (c48.map Vertex.enc), .sl (c49.map Edge.enc), .sl (c50.map eInt)], .pv (.int .i64 y65)] [] (.pv (.int .i64 y67)) [], (decide (y67 < 0)) = false, (decide (y67 < 0)) = false, (decide (y67 < 0)) = false, 0 ≤ (y67 : Int), (c42.map Named.enc)[(y67 : Int).toNat]? = some (Named.enc a70), (Named.enc a70).length = 2, (decide (y67 < 0)) = false, (decide (y67 < 0)) = false, (decide (y67 < 0)) = false, 0 ≤ (1 : Int), (a70.Label.map eInt)[(1 : Int).toNat]? = some (eInt a73), (eInt a73).length = 1, (decide (y67 < 0)) = false, (decide (y67 < 0)) = false, (decide (y67 < 0)) = false, (decide (y67 < 0)) = false, 0 ≤ (c45 : Int), (c42.map Named.enc)[(c45 : Int).toNat]? = some (Named.enc a76), (Named.enc a76).length = 2, (decide (y67 < 0)) = false, (decide (y67 < 0)) = false, (decide (y67 < 0)) = false, 0 ≤ (1 : Int), (a76.Label.map eInt)[(1 : Int).toNat]? = some (eInt a79), (eInt a79).length = 1, (decide (y67 < 0)) = false, (decide (y67 < 0)) = false, (decide (y67 < 0)) = false, (decide (a73 ≥ a79)) = true])
            (by kernel_rfl) ⟨lenOb, h51, h53, rowOb h54, rfl, h56, rowOb h57, rfl, h59, rowOb h60, rfl, h61, h63, rowOb h64, rfl, graph_Other.ok a62 c46 e66, clearwayref03_Place.ok (Graph.mk c48 c49 c50) y65 e68, h69, h69, h69, h71, rowOb h72, rfl, h69, h69, h69, h74, rowOb h75, rfl, h69, h69, h69, h69, h77, rowOb h78, rfl, h69, h69, h69, h80, rowOb h81, rfl, h69, h69, h69, h82, trivial⟩ ?_
          exact hn
        · have hx := Option.some.inj hx
          subst hx
          refine WK.run (an := [.lp, .reg [(2, none, .val (.pv (.int .i64 ((c47.length : Nat) : Int))))], .br true, .draw [0, 1, 2, 3, 4, 5, 6, 7, 8, 9, 10, 11, 12] [(2, none, .row (Edge.enc a52)), (7, none, .row (Named.enc a55)), (10, none, .row (eInt a58))], .br false, .reg [], .draw [0, 1, 2, 3, 4, 5, 6, 7, 8] [(3, none, .row (Edge.enc a62)), (6, none, .call [] [] (.pv (.int .i64 y65)) [] []), (7, none, .call [] [] (.pv (.int .i64 y67)) [] [])], .draw [0, 1, 2, 3, 4, 5, 6, 7, 8, 9, 10, 11, 12, 13, 14, 15, 16, 17, 18] [(3, some false, .no), (4, some false, .no), (5, some false, .row (Named.enc a70)), (6, some false, .no), (7, some false, .no), (8, some false, .row (eInt a73)), (9, some false, .no), (10, some false, .no), (11, some false, .no), (12, some false, .row (Named.enc a76)), (13, some false, .no), (14, some false, .no), (15, some false, .row (eInt a79)), (16, some false, .no), (17, some false, .no), (18, none, .bit false)], .br false, .reg []]) (kt := [7, 8, 10, 11, 12, 13, 14, 15, 16]) (ko := [(101, 101)]) (k' := [.inLoop (sub b5 [1, 1, 1, 1, 1, 1, 1, 1, 0, 1, 0, 0, 1, 0, 0, 1, 1, 1, 1, 1, 1, 0, 0]), .inBlock 2, .inBlock 1, .code (sub b5 [1, 1, 1, 1, 1, 1, 1, 1, 0, 1, 0, 0, 1, 1]), .inLoop (sub b5 [1, 1, 1, 1, 1, 1, 1, 1, 0, 1, 0, 0]), .inBlock 0, .code (sub b5 [1, 1, 1, 1, 1, 1, 1, 1, 1])]) (σ' := clearwaylaw07_ForestCounts.l0.enc c42 c43 c44 c45 c46 c47 c48 c49 c50 ((IntKind.i64.wrap (s.1 + 1)), (IntKind.i64.wrap (s.2 + 1)))) (ps := [AV.pv (.int .i64 ((c47.map Edge.enc).length : Nat)) = .pv (.int .i64 (c47.length : Nat)), (decide (s.2 < ((c47.length : Nat) : Int))) = true, 0 ≤ (s.2 : Int), (c47.map Edge.enc)[(s.2 : Int).toNat]? = some (Edge.enc a52), (Edge.enc a52).length = 6, 0 ≤ (c45 : Int), (c42.map Named.enc)[(c45 : Int).toNat]? = some (Named.enc a55), (Named.enc a55).length = 2, 0 ≤ (2 : Int), (a55.Label.map eInt)[(2 : Int).toNat]? = some (eInt a58), (eInt a58).length = 1, (a52.ID != a58) = false, 0 ≤ (s.2 : Int), (c47.map Edge.enc)[(s.2 : Int).toNat]? = some (Edge.enc a62), (Edge.enc a62).length = 6, Spec Try.prog 35 [.aggp [.int .i64 a62.ID, .int .i64 a62.From, .int .i64 a62.To, .bool a62.Directed, .int .i64 a62.Weight, .int .i64 a62.Cap], .pv (.int .i64 c46)] [] (.pv (.int .i64 y65)) [], Spec Try.prog 34 [.aggp [.sl (c48.map Vertex.enc), .sl (c49.map Edge.enc), .sl (c50.map eInt)], .pv (.int .i64 y65)] [] (.pv (.int .i64 y67)) [], (decide (y67 < 0)) = false, (decide (y67 < 0)) = false, (decide (y67 < 0)) = false, 0 ≤ (y67 : Int), (c42.map Named.enc)[(y67 : Int).toNat]? = some (Named.enc a70), (Named.enc a70).length = 2, (decide (y67 < 0)) = false, (decide (y67 < 0)) = false, (decide (y67 < 0)) = false, 0 ≤ (1 : Int), (a70.Label.map eInt)[(1 : Int).toNat]? = some (eInt a73), (eInt a73).length = 1, (decide (y67 < 0)) = false, (decide (y67 < 0)) = false, (decide (y67 < 0)) = false, (decide (y67 < 0)) = false, 0 ≤ (c45 : Int), (c42.map Named.enc)[(c45 : Int).toNat]? = some (Named.enc a76), (Named.enc a76).length = 2, (decide (y67 < 0)) = false, (decide (y67 < 0)) = false, (decide (y67 < 0)) = false, 0 ≤ (1 : Int), (a76.Label.map eInt)[(1 : Int).toNat]? = some (eInt a79), (eInt a79).length = 1, (decide (y67 < 0)) = false, (decide (y67 < 0)) = false, (decide (y67 < 0)) = false, (decide (a73 ≥ a79)) = false])
            (by kernel_rfl) ⟨lenOb, h51, h53, rowOb h54, rfl, h56, rowOb h57, rfl, h59, rowOb h60, rfl, h61, h63, rowOb h64, rfl, graph_Other.ok a62 c46 e66, clearwayref03_Place.ok (Graph.mk c48 c49 c50) y65 e68, h69, h69, h69, h71, rowOb h72, rfl, h69, h69, h69, h74, rowOb h75, rfl, h69, h69, h69, h69, h77, rowOb h78, rfl, h69, h69, h69, h80, rowOb h81, rfl, h69, h69, h69, h82, trivial⟩ ?_
          exact hn
  · have hx := Option.some.inj hx
    subst hx
    refine WK.run (an := [.lp, .reg [(2, none, .val (.pv (.int .i64 ((c47.length : Nat) : Int))))], .br false]) (kt := [7, 8, 10, 11, 12, 13]) (ko := [(101, 101)]) (k' := [.code (sub b5 [1, 1, 1, 1, 1, 1, 1, 1, 0, 1, 0, 0, 1, 1]), .inLoop (sub b5 [1, 1, 1, 1, 1, 1, 1, 1, 0, 1, 0, 0]), .inBlock 0, .code (sub b5 [1, 1, 1, 1, 1, 1, 1, 1, 1])]) (σ' := ⟨148, [(7, .ref 101 0 0 0), (8, .pv (.sl (c42.map Named.enc))), (10, .pv (.int .i64 c43)), (11, .pv (.int .i64 s.1)), (12, .pv (.int .i64 c44)), (13, .pv (.int .i64 c45))], [(101, .varp [.sl (c48.map Vertex.enc), .sl (c49.map Edge.enc), .sl (c50.map eInt)])]⟩) (ps := [AV.pv (.int .i64 ((c47.map Edge.enc).length : Nat)) = .pv (.int .i64 (c47.length : Nat)), (decide (s.2 < ((c47.length : Nat) : Int))) = false])
      (by kernel_rfl) ⟨lenOb, h51, trivial⟩ ?_
    exact hn

noncomputable def clearwaylaw07_ForestCounts.l1 (c13 : List Named) (c14 : List Vertex) (c15 : List Edge) (c16 : List Int) (s : Int × Int × Int × Int) : Option (Nx (Int × Int × Int × Int) (Unit ⊕ Unit ⊕ (Int × Int × Int))) :=
  br (decide (s.2.2.2 < ((c13.length : Nat) : Int))) (
    getR c14 s.2.2.2 fun a18 =>
    bd (clearwayref07_View (Graph.mk c14 c15 c16) c13 a18.ID) fun y21 =>
    bd (forest_Count y21) fun y23 =>
    getR c13 s.2.2.2 fun a25 =>
    br (a25.ID != a18.ID) (
      some (.done (.inl ()))) (
      getR c13 s.2.2.2 fun a29 =>
      br (((a29.Label.length : Nat) : Int) != 3) (
        some (.done (.inl ()))) (
        getR c13 s.2.2.2 fun a33 =>
        getR a33.Label 0 fun a36 =>
        br (a36 == a18.ID) (
          bd (graph_At (Graph.mk c14 c15 c16) a18.ID) fun y40 =>
          bd (loopN fuel (clearwaylaw07_ForestCounts.l0 c13 (IntKind.i64.wrap (s.1 + y23)) (IntKind.i64.wrap (s.2.2.1 + 1)) s.2.2.2 a18.ID y40 c14 c15 c16) (s.2.1, 0)) fun q42 =>
          match q42 with
          | .inl q42 =>
            some (.done (.inr (.inl ())))
          | .inr q42 =>
            some (.cont ((IntKind.i64.wrap (s.1 + y23)), q42, (IntKind.i64.wrap (s.2.2.1 + 1)), (IntKind.i64.wrap (s.2.2.2 + 1))))) (
          bd (graph_At (Graph.mk c14 c15 c16) a18.ID) fun y44 =>
          bd (loopN fuel (clearwaylaw07_ForestCounts.l0 c13 (IntKind.i64.wrap (s.1 + y23)) s.2.2.1 s.2.2.2 a18.ID y44 c14 c15 c16) (s.2.1, 0)) fun q46 =>
          match q46 with
          | .inl q46 =>
            some (.done (.inr (.inl ())))
          | .inr q46 =>
            some (.cont ((IntKind.i64.wrap (s.1 + y23)), q46, s.2.2.1, (IntKind.i64.wrap (s.2.2.2 + 1)))))))) (
    some (.done (.inr (.inr (s.1, s.2.1, s.2.2.1)))))

abbrev clearwaylaw07_ForestCounts.l1.enc (c13 : List Named) (c14 : List Vertex) (c15 : List Edge) (c16 : List Int) (s : Int × Int × Int × Int) : St := ⟨148, [(7, .ref 101 0 0 0), (8, .pv (.sl (c13.map Named.enc))), (10, .pv (.int .i64 s.1)), (11, .pv (.int .i64 s.2.1)), (12, .pv (.int .i64 s.2.2.1)), (13, .pv (.int .i64 s.2.2.2))], [(101, .varp [.sl (c14.map Vertex.enc), .sl (c15.map Edge.enc), .sl (c16.map eInt)])]⟩

abbrev clearwaylaw07_ForestCounts.l1.post (c13 : List Named) (c14 : List Vertex) (c15 : List Edge) (c16 : List Int) (r : AV) (outs : List AObj) (q : Unit ⊕ Unit ⊕ (Int × Int × Int)) : Prop := match q with | .inl q => WK Try.prog (5, 0) [.code (sub b5 [1, 1, 1, 1, 1, 1, 1, 1, 0, 1, 0, 0, 1, 0, 0, 1, 1, 0, 1, 0, 1]), .code (sub b5 [1, 1, 1, 1, 1, 1, 1, 1, 0, 1, 0, 0, 1, 0, 0, 1, 1, 1]), .inBlock 1, .code (sub b5 [1, 1, 1, 1, 1, 1, 1, 1, 0, 1, 0, 0, 1, 1]), .inLoop (sub b5 [1, 1, 1, 1, 1, 1, 1, 1, 0, 1, 0, 0]), .inBlock 0, .code (sub b5 [1, 1, 1, 1, 1, 1, 1, 1, 1])] ⟨148, [(6, .pv (.bool false))], []⟩ r outs | .inr (.inl q) => WK Try.prog (5, 0) [.code (sub b5 [1, 1, 1, 1, 1, 1, 1, 1, 0, 1, 0, 0, 1, 0, 0, 1, 1, 1, 1, 1, 1, 0, 0, 1, 0, 0, 1, 1, 1, 1, 0, 1]), .inBlock 3, .code (sub b5 [1, 1, 1, 1, 1, 1, 1, 1, 0, 1, 0, 0, 1, 0, 0, 1, 1, 1, 1, 1, 1, 0, 0, 1, 1]), .inLoop (sub b5 [1, 1, 1, 1, 1, 1, 1, 1, 0, 1, 0, 0, 1, 0, 0, 1, 1, 1, 1, 1, 1, 0, 0]), .inBlock 2, .inBlock 1, .code (sub b5 [1, 1, 1, 1, 1, 1, 1, 1, 0, 1, 0, 0, 1, 1]), .inLoop (sub b5 [1, 1, 1, 1, 1, 1, 1, 1, 0, 1, 0, 0]), .inBlock 0, .code (sub b5 [1, 1, 1, 1, 1, 1, 1, 1, 1])] ⟨148, [(6, .pv (.bool false))], []⟩ r outs | .inr (.inr q) => WK Try.prog (5, 0) [.code (sub b5 [1, 1, 1, 1, 1, 1, 1, 1, 1, 0]), .code (sub b5 [1, 1, 1, 1, 1, 1, 1, 1, 1, 1])] ⟨148, [(7, .ref 101 0 0 0), (10, .pv (.int .i64 q.1)), (11, .pv (.int .i64 q.2.1)), (12, .pv (.int .i64 q.2.2))], [(101, .varp [.sl (c14.map Vertex.enc), .sl (c15.map Edge.enc), .sl (c16.map eInt)])]⟩ r outs

theorem clearwaylaw07_ForestCounts.l1.ok (c13 : List Named) (c14 : List Vertex) (c15 : List Edge) (c16 : List Int) (r : AV) (outs : List AObj) (s : Int × Int × Int × Int) (q : Unit ⊕ Unit ⊕ (Int × Int × Int)) (h : loopN fuel (clearwaylaw07_ForestCounts.l1 c13 c14 c15 c16) s = some q) (hd : clearwaylaw07_ForestCounts.l1.post c13 c14 c15 c16 r outs q) :
    WK Try.prog (5, 0) [.inLoop (sub b5 [1, 1, 1, 1, 1, 1, 1, 1, 0, 1, 0, 0]), .inBlock 0, .code (sub b5 [1, 1, 1, 1, 1, 1, 1, 1, 1])] (clearwaylaw07_ForestCounts.l1.enc c13 c14 c15 c16 s) r outs := by
  refine WK.loop (clearwaylaw07_ForestCounts.l1.enc c13 c14 c15 c16) (clearwaylaw07_ForestCounts.l1 c13 c14 c15 c16) (clearwaylaw07_ForestCounts.l1.post c13 c14 c15 c16 r outs) ?_ fuel s q h hd
  intro s x hx hn
  unfold clearwaylaw07_ForestCounts.l1 at hx
  refine br_ok hx (fun h17 hx => ?_) (fun h17 hx => ?_)
  · refine getR_ok hx fun a18 h19 h20 hx => ?_
    refine bd_ok hx fun y21 e22 hx => ?_
    refine bd_ok hx fun y23 e24 hx => ?_
    refine getR_ok hx fun a25 h26 h27 hx => ?_
    refine br_ok hx (fun h28 hx => ?_) (fun h28 hx => ?_)
    · have hx := Option.some.inj hx
      subst hx
      refine WK.run (an := [.lp, .reg [(2, none, .val (.pv (.int .i64 ((c13.length : Nat) : Int))))], .br true, .reg [(3, none, .row (Vertex.enc a18))], .reg [(4, none, .call [] [] (.aggp [.int .i64 y21.Vertex.ID, .int .i64 y21.Vertex.Side, .sl (y21.Depots.map eInt), .sl (y21.Edges.map Edge.enc), .sl (y21.Labels.map Named.enc)]) [] []), (5, none, .call [] [] (.pv (.int .i64 y23)) [] [])], .reg [(2, none, .row (Named.enc a25)), (8, some true, .no)], .bk, .reg []]) (kt := [6]) (ko := []) (k' := [.code (sub b5 [1, 1, 1, 1, 1, 1, 1, 1, 0, 1, 0, 0, 1, 0, 0, 1, 1, 0, 1, 0, 1]), .code (sub b5 [1, 1, 1, 1, 1, 1, 1, 1, 0, 1, 0, 0, 1, 0, 0, 1, 1, 1]), .inBlock 1, .code (sub b5 [1, 1, 1, 1, 1, 1, 1, 1, 0, 1, 0, 0, 1, 1]), .inLoop (sub b5 [1, 1, 1, 1, 1, 1, 1, 1, 0, 1, 0, 0]), .inBlock 0, .code (sub b5 [1, 1, 1, 1, 1, 1, 1, 1, 1])]) (σ' := ⟨148, [(6, .pv (.bool false))], []⟩) (ps := [AV.pv (.int .i64 ((c13.map Named.enc).length : Nat)) = .pv (.int .i64 (c13.length : Nat)), (decide (s.2.2.2 < ((c13.length : Nat) : Int))) = true, 0 ≤ (s.2.2.2 : Int), (c14.map Vertex.enc)[(s.2.2.2 : Int).toNat]? = some (Vertex.enc a18), (Vertex.enc a18).length = 2, Spec Try.prog 27 [.aggp [.sl (c14.map Vertex.enc), .sl (c15.map Edge.enc), .sl (c16.map eInt)], .pv (.sl (c13.map Named.enc)), .pv (.int .i64 a18.ID)] [] (.aggp [.int .i64 y21.Vertex.ID, .int .i64 y21.Vertex.Side, .sl (y21.Depots.map eInt), .sl (y21.Edges.map Edge.enc), .sl (y21.Labels.map Named.enc)]) [], Spec Try.prog 31 [.aggp [.int .i64 y21.Vertex.ID, .int .i64 y21.Vertex.Side, .sl (y21.Depots.map eInt), .sl (y21.Edges.map Edge.enc), .sl (y21.Labels.map Named.enc)]] [] (.pv (.int .i64 y23)) [], 0 ≤ (s.2.2.2 : Int), (c13.map Named.enc)[(s.2.2.2 : Int).toNat]? = some (Named.enc a25), (Named.enc a25).length = 2, (a25.ID != a18.ID) = true])
        (by kernel_rfl) ⟨lenOb, h17, h19, rowOb h20, rfl, clearwayref07_View.ok (Graph.mk c14 c15 c16) c13 a18.ID e22, forest_Count.ok y21 e24, h26, rowOb h27, rfl, h28, trivial⟩ ?_
      exact hn
    · refine getR_ok hx fun a29 h30 h31 hx => ?_
      refine br_ok hx (fun h32 hx => ?_) (fun h32 hx => ?_)
      · have hx := Option.some.inj hx
        subst hx
        refine WK.run (an := [.lp, .reg [(2, none, .val (.pv (.int .i64 ((c13.length : Nat) : Int))))], .br true, .reg [(3, none, .row (Vertex.enc a18))], .reg [(4, none, .call [] [] (.aggp [.int .i64 y21.Vertex.ID, .int .i64 y21.Vertex.Side, .sl (y21.Depots.map eInt), .sl (y21.Edges.map Edge.enc), .sl (y21.Labels.map Named.enc)]) [] []), (5, none, .call [] [] (.pv (.int .i64 y23)) [] [])], .reg [(2, none, .row (Named.enc a25)), (8, some false, .no), (10, none, .row (Named.enc a29)), (13, none, .val (.pv (.int .i64 ((a29.Label.length : Nat) : Int))))], .br true, .reg []]) (kt := [6]) (ko := []) (k' := [.code (sub b5 [1, 1, 1, 1, 1, 1, 1, 1, 0, 1, 0, 0, 1, 0, 0, 1, 1, 0, 1, 0, 1]), .code (sub b5 [1, 1, 1, 1, 1, 1, 1, 1, 0, 1, 0, 0, 1, 0, 0, 1, 1, 1]), .inBlock 1, .code (sub b5 [1, 1, 1, 1, 1, 1, 1, 1, 0, 1, 0, 0, 1, 1]), .inLoop (sub b5 [1, 1, 1, 1, 1, 1, 1, 1, 0, 1, 0, 0]), .inBlock 0, .code (sub b5 [1, 1, 1, 1, 1, 1, 1, 1, 1])]) (σ' := ⟨148, [(6, .pv (.bool false))], []⟩) (ps := [AV.pv (.int .i64 ((c13.map Named.enc).length : Nat)) = .pv (.int .i64 (c13.length : Nat)), (decide (s.2.2.2 < ((c13.length : Nat) : Int))) = true, 0 ≤ (s.2.2.2 : Int), (c14.map Vertex.enc)[(s.2.2.2 : Int).toNat]? = some (Vertex.enc a18), (Vertex.enc a18).length = 2, Spec Try.prog 27 [.aggp [.sl (c14.map Vertex.enc), .sl (c15.map Edge.enc), .sl (c16.map eInt)], .pv (.sl (c13.map Named.enc)), .pv (.int .i64 a18.ID)] [] (.aggp [.int .i64 y21.Vertex.ID, .int .i64 y21.Vertex.Side, .sl (y21.Depots.map eInt), .sl (y21.Edges.map Edge.enc), .sl (y21.Labels.map Named.enc)]) [], Spec Try.prog 31 [.aggp [.int .i64 y21.Vertex.ID, .int .i64 y21.Vertex.Side, .sl (y21.Depots.map eInt), .sl (y21.Edges.map Edge.enc), .sl (y21.Labels.map Named.enc)]] [] (.pv (.int .i64 y23)) [], 0 ≤ (s.2.2.2 : Int), (c13.map Named.enc)[(s.2.2.2 : Int).toNat]? = some (Named.enc a25), (Named.enc a25).length = 2, (a25.ID != a18.ID) = false, 0 ≤ (s.2.2.2 : Int), (c13.map Named.enc)[(s.2.2.2 : Int).toNat]? = some (Named.enc a29), (Named.enc a29).length = 2, AV.pv (.int .i64 ((a29.Label.map eInt).length : Nat)) = .pv (.int .i64 (a29.Label.length : Nat)), (((a29.Label.length : Nat) : Int) != 3) = true])
          (by kernel_rfl) ⟨lenOb, h17, h19, rowOb h20, rfl, clearwayref07_View.ok (Graph.mk c14 c15 c16) c13 a18.ID e22, forest_Count.ok y21 e24, h26, rowOb h27, rfl, h28, h30, rowOb h31, rfl, lenOb, h32, trivial⟩ ?_
        exact hn
      · refine getR_ok hx fun a33 h34 h35 hx => ?_
        refine getR_ok hx fun a36 h37 h38 hx => ?_
        refine br_ok hx (fun h39 hx => ?_) (fun h39 hx => ?_)
        · refine bd_ok hx fun y40 e41 hx => ?_
          refine bd_ok hx fun q42 e43 hx => ?_
          refine WK.run (an := [.lp, .reg [(2, none, .val (.pv (.int .i64 ((c13.length : Nat) : Int))))], .br true, .reg [(3, none, .row (Vertex.enc a18))], .reg [(4, none, .call [] [] (.aggp [.int .i64 y21.Vertex.ID, .int .i64 y21.Vertex.Side, .sl (y21.Depots.map eInt), .sl (y21.Edges.map Edge.enc), .sl (y21.Labels.map Named.enc)]) [] []), (5, none, .call [] [] (.pv (.int .i64 y23)) [] [])], .reg [(2, none, .row (Named.enc a25)), (8, some false, .no), (10, none, .row (Named.enc a29)), (13, none, .val (.pv (.int .i64 ((a29.Label.length : Nat) : Int))))], .br false, .reg [(2, none, .row (Named.enc a33)), (5, none, .row (eInt a36))], .br true, .reg [], .reg [(2, none, .call [] [] (.pv (.sl (y40.map Edge.enc))) [] [])], .reg []]) (kt := [7, 8, 10, 11, 12, 13, 14, 15, 16]) (ko := [(101, 101)]) (k' := [.code (sub b5 [1, 1, 1, 1, 1, 1, 1, 1, 0, 1, 0, 0, 1, 0, 0, 1, 1, 1, 1, 1, 1, 0]), .inBlock 2, .inBlock 1, .code (sub b5 [1, 1, 1, 1, 1, 1, 1, 1, 0, 1, 0, 0, 1, 1]), .inLoop (sub b5 [1, 1, 1, 1, 1, 1, 1, 1, 0, 1, 0, 0]), .inBlock 0, .code (sub b5 [1, 1, 1, 1, 1, 1, 1, 1, 1])]) (σ' := clearwaylaw07_ForestCounts.l0.enc c13 (IntKind.i64.wrap (s.1 + y23)) (IntKind.i64.wrap (s.2.2.1 + 1)) s.2.2.2 a18.ID y40 c14 c15 c16 (s.2.1, 0)) (ps := [AV.pv (.int .i64 ((c13.map Named.enc).length : Nat)) = .pv (.int .i64 (c13.length : Nat)), (decide (s.2.2.2 < ((c13.length : Nat) : Int))) = true, 0 ≤ (s.2.2.2 : Int), (c14.map Vertex.enc)[(s.2.2.2 : Int).toNat]? = some (Vertex.enc a18), (Vertex.enc a18).length = 2, Spec Try.prog 27 [.aggp [.sl (c14.map Vertex.enc), .sl (c15.map Edge.enc), .sl (c16.map eInt)], .pv (.sl (c13.map Named.enc)), .pv (.int .i64 a18.ID)] [] (.aggp [.int .i64 y21.Vertex.ID, .int .i64 y21.Vertex.Side, .sl (y21.Depots.map eInt), .sl (y21.Edges.map Edge.enc), .sl (y21.Labels.map Named.enc)]) [], Spec Try.prog 31 [.aggp [.int .i64 y21.Vertex.ID, .int .i64 y21.Vertex.Side, .sl (y21.Depots.map eInt), .sl (y21.Edges.map Edge.enc), .sl (y21.Labels.map Named.enc)]] [] (.pv (.int .i64 y23)) [], 0 ≤ (s.2.2.2 : Int), (c13.map Named.enc)[(s.2.2.2 : Int).toNat]? = some (Named.enc a25), (Named.enc a25).length = 2, (a25.ID != a18.ID) = false, 0 ≤ (s.2.2.2 : Int), (c13.map Named.enc)[(s.2.2.2 : Int).toNat]? = some (Named.enc a29), (Named.enc a29).length = 2, AV.pv (.int .i64 ((a29.Label.map eInt).length : Nat)) = .pv (.int .i64 (a29.Label.length : Nat)), (((a29.Label.length : Nat) : Int) != 3) = false, 0 ≤ (s.2.2.2 : Int), (c13.map Named.enc)[(s.2.2.2 : Int).toNat]? = some (Named.enc a33), (Named.enc a33).length = 2, 0 ≤ (0 : Int), (a33.Label.map eInt)[(0 : Int).toNat]? = some (eInt a36), (eInt a36).length = 1, (a36 == a18.ID) = true, Spec Try.prog 33 [.aggp [.sl (c14.map Vertex.enc), .sl (c15.map Edge.enc), .sl (c16.map eInt)], .pv (.int .i64 a18.ID)] [] (.pv (.sl (y40.map Edge.enc))) []])
            (by kernel_rfl) ⟨lenOb, h17, h19, rowOb h20, rfl, clearwayref07_View.ok (Graph.mk c14 c15 c16) c13 a18.ID e22, forest_Count.ok y21 e24, h26, rowOb h27, rfl, h28, h30, rowOb h31, rfl, lenOb, h32, h34, rowOb h35, rfl, h37, rowOb h38, rfl, h39, graph_At.ok (Graph.mk c14 c15 c16) a18.ID e41, trivial⟩ ?_
          refine WK.enterLoop (clearwaylaw07_ForestCounts.l0.ok c13 (IntKind.i64.wrap (s.1 + y23)) (IntKind.i64.wrap (s.2.2.1 + 1)) s.2.2.2 a18.ID y40 c14 c15 c16 _ _ _ _ e43 ?_)
          rcases q42 with (q42 | q42)
          · have hx := Option.some.inj hx
            subst hx
            refine WK.run (an := []) (kt := [6]) (ko := []) (k' := [.code (sub b5 [1, 1, 1, 1, 1, 1, 1, 1, 0, 1, 0, 0, 1, 0, 0, 1, 1, 1, 1, 1, 1, 0, 0, 1, 0, 0, 1, 1, 1, 1, 0, 1]), .inBlock 3, .code (sub b5 [1, 1, 1, 1, 1, 1, 1, 1, 0, 1, 0, 0, 1, 0, 0, 1, 1, 1, 1, 1, 1, 0, 0, 1, 1]), .inLoop (sub b5 [1, 1, 1, 1, 1, 1, 1, 1, 0, 1, 0, 0, 1, 0, 0, 1, 1, 1, 1, 1, 1, 0, 0]), .inBlock 2, .inBlock 1, .code (sub b5 [1, 1, 1, 1, 1, 1, 1, 1, 0, 1, 0, 0, 1, 1]), .inLoop (sub b5 [1, 1, 1, 1, 1, 1, 1, 1, 0, 1, 0, 0]), .inBlock 0, .code (sub b5 [1, 1, 1, 1, 1, 1, 1, 1, 1])]) (σ' := ⟨148, [(6, .pv (.bool false))], []⟩) (ps := [])
              (by kernel_rfl) trivial ?_
            exact hn
          · have hx := Option.some.inj hx
            subst hx
            refine WK.run (an := [.reg []]) (kt := [7, 8, 10, 11, 12, 13]) (ko := [(101, 101)]) (k' := [.inLoop (sub b5 [1, 1, 1, 1, 1, 1, 1, 1, 0, 1, 0, 0]), .inBlock 0, .code (sub b5 [1, 1, 1, 1, 1, 1, 1, 1, 1])]) (σ' := clearwaylaw07_ForestCounts.l1.enc c13 c14 c15 c16 ((IntKind.i64.wrap (s.1 + y23)), q42, (IntKind.i64.wrap (s.2.2.1 + 1)), (IntKind.i64.wrap (s.2.2.2 + 1)))) (ps := [])
              (by kernel_rfl) trivial ?_
            exact hn
        · refine bd_ok hx fun y44 e45 hx => ?_
          refine bd_ok hx fun q46 e47 hx => ?_
          refine WK.run (an := [.lp, .reg [(2, none, .val (.pv (.int .i64 ((c13.length : Nat) : Int))))], .br true, .reg [(3, none, .row (Vertex.enc a18))], .reg [(4, none, .call [] [] (.aggp [.int .i64 y21.Vertex.ID, .int .i64 y21.Vertex.Side, .sl (y21.Depots.map eInt), .sl (y21.Edges.map Edge.enc), .sl (y21.Labels.map Named.enc)]) [] []), (5, none, .call [] [] (.pv (.int .i64 y23)) [] [])], .reg [(2, none, .row (Named.enc a25)), (8, some false, .no), (10, none, .row (Named.enc a29)), (13, none, .val (.pv (.int .i64 ((a29.Label.length : Nat) : Int))))], .br false, .reg [(2, none, .row (Named.enc a33)), (5, none, .row (eInt a36))], .br false, .reg [(2, none, .call [] [] (.pv (.sl (y44.map Edge.enc))) [] [])], .reg []]) (kt := [7, 8, 10, 11, 12, 13, 14, 15, 16]) (ko := [(101, 101)]) (k' := [.code (sub b5 [1, 1, 1, 1, 1, 1, 1, 1, 0, 1, 0, 0, 1, 0, 0, 1, 1, 1, 1, 1, 1, 0]), .inBlock 2, .inBlock 1, .code (sub b5 [1, 1, 1, 1, 1, 1, 1, 1, 0, 1, 0, 0, 1, 1]), .inLoop (sub b5 [1, 1, 1, 1, 1, 1, 1, 1, 0, 1, 0, 0]), .inBlock 0, .code (sub b5 [1, 1, 1, 1, 1, 1, 1, 1, 1])]) (σ' := clearwaylaw07_ForestCounts.l0.enc c13 (IntKind.i64.wrap (s.1 + y23)) s.2.2.1 s.2.2.2 a18.ID y44 c14 c15 c16 (s.2.1, 0)) (ps := [AV.pv (.int .i64 ((c13.map Named.enc).length : Nat)) = .pv (.int .i64 (c13.length : Nat)), (decide (s.2.2.2 < ((c13.length : Nat) : Int))) = true, 0 ≤ (s.2.2.2 : Int), (c14.map Vertex.enc)[(s.2.2.2 : Int).toNat]? = some (Vertex.enc a18), (Vertex.enc a18).length = 2, Spec Try.prog 27 [.aggp [.sl (c14.map Vertex.enc), .sl (c15.map Edge.enc), .sl (c16.map eInt)], .pv (.sl (c13.map Named.enc)), .pv (.int .i64 a18.ID)] [] (.aggp [.int .i64 y21.Vertex.ID, .int .i64 y21.Vertex.Side, .sl (y21.Depots.map eInt), .sl (y21.Edges.map Edge.enc), .sl (y21.Labels.map Named.enc)]) [], Spec Try.prog 31 [.aggp [.int .i64 y21.Vertex.ID, .int .i64 y21.Vertex.Side, .sl (y21.Depots.map eInt), .sl (y21.Edges.map Edge.enc), .sl (y21.Labels.map Named.enc)]] [] (.pv (.int .i64 y23)) [], 0 ≤ (s.2.2.2 : Int), (c13.map Named.enc)[(s.2.2.2 : Int).toNat]? = some (Named.enc a25), (Named.enc a25).length = 2, (a25.ID != a18.ID) = false, 0 ≤ (s.2.2.2 : Int), (c13.map Named.enc)[(s.2.2.2 : Int).toNat]? = some (Named.enc a29), (Named.enc a29).length = 2, AV.pv (.int .i64 ((a29.Label.map eInt).length : Nat)) = .pv (.int .i64 (a29.Label.length : Nat)), (((a29.Label.length : Nat) : Int) != 3) = false, 0 ≤ (s.2.2.2 : Int), (c13.map Named.enc)[(s.2.2.2 : Int).toNat]? = some (Named.enc a33), (Named.enc a33).length = 2, 0 ≤ (0 : Int), (a33.Label.map eInt)[(0 : Int).toNat]? = some (eInt a36), (eInt a36).length = 1, (a36 == a18.ID) = false, Spec Try.prog 33 [.aggp [.sl (c14.map Vertex.enc), .sl (c15.map Edge.enc), .sl (c16.map eInt)], .pv (.int .i64 a18.ID)] [] (.pv (.sl (y44.map Edge.enc))) []])
            (by kernel_rfl) ⟨lenOb, h17, h19, rowOb h20, rfl, clearwayref07_View.ok (Graph.mk c14 c15 c16) c13 a18.ID e22, forest_Count.ok y21 e24, h26, rowOb h27, rfl, h28, h30, rowOb h31, rfl, lenOb, h32, h34, rowOb h35, rfl, h37, rowOb h38, rfl, h39, graph_At.ok (Graph.mk c14 c15 c16) a18.ID e45, trivial⟩ ?_
          refine WK.enterLoop (clearwaylaw07_ForestCounts.l0.ok c13 (IntKind.i64.wrap (s.1 + y23)) s.2.2.1 s.2.2.2 a18.ID y44 c14 c15 c16 _ _ _ _ e47 ?_)
          rcases q46 with (q46 | q46)
          · have hx := Option.some.inj hx
            subst hx
            refine WK.run (an := []) (kt := [6]) (ko := []) (k' := [.code (sub b5 [1, 1, 1, 1, 1, 1, 1, 1, 0, 1, 0, 0, 1, 0, 0, 1, 1, 1, 1, 1, 1, 0, 0, 1, 0, 0, 1, 1, 1, 1, 0, 1]), .inBlock 3, .code (sub b5 [1, 1, 1, 1, 1, 1, 1, 1, 0, 1, 0, 0, 1, 0, 0, 1, 1, 1, 1, 1, 1, 0, 0, 1, 1]), .inLoop (sub b5 [1, 1, 1, 1, 1, 1, 1, 1, 0, 1, 0, 0, 1, 0, 0, 1, 1, 1, 1, 1, 1, 0, 0]), .inBlock 2, .inBlock 1, .code (sub b5 [1, 1, 1, 1, 1, 1, 1, 1, 0, 1, 0, 0, 1, 1]), .inLoop (sub b5 [1, 1, 1, 1, 1, 1, 1, 1, 0, 1, 0, 0]), .inBlock 0, .code (sub b5 [1, 1, 1, 1, 1, 1, 1, 1, 1])]) (σ' := ⟨148, [(6, .pv (.bool false))], []⟩) (ps := [])
              (by kernel_rfl) trivial ?_
            exact hn
          · have hx := Option.some.inj hx
            subst hx
            refine WK.run (an := [.reg []]) (kt := [7, 8, 10, 11, 12, 13]) (ko := [(101, 101)]) (k' := [.inLoop (sub b5 [1, 1, 1, 1, 1, 1, 1, 1, 0, 1, 0, 0]), .inBlock 0, .code (sub b5 [1, 1, 1, 1, 1, 1, 1, 1, 1])]) (σ' := clearwaylaw07_ForestCounts.l1.enc c13 c14 c15 c16 ((IntKind.i64.wrap (s.1 + y23)), q46, s.2.2.1, (IntKind.i64.wrap (s.2.2.2 + 1)))) (ps := [])
              (by kernel_rfl) trivial ?_
            exact hn
  · have hx := Option.some.inj hx
    subst hx
    refine WK.run (an := [.lp, .reg [(2, none, .val (.pv (.int .i64 ((c13.length : Nat) : Int))))], .br false]) (kt := [7, 10, 11, 12]) (ko := [(101, 101)]) (k' := [.code (sub b5 [1, 1, 1, 1, 1, 1, 1, 1, 1, 0]), .code (sub b5 [1, 1, 1, 1, 1, 1, 1, 1, 1, 1])]) (σ' := ⟨148, [(7, .ref 101 0 0 0), (10, .pv (.int .i64 s.1)), (11, .pv (.int .i64 s.2.1)), (12, .pv (.int .i64 s.2.2.1))], [(101, .varp [.sl (c14.map Vertex.enc), .sl (c15.map Edge.enc), .sl (c16.map eInt)])]⟩) (ps := [AV.pv (.int .i64 ((c13.map Named.enc).length : Nat)) = .pv (.int .i64 (c13.length : Nat)), (decide (s.2.2.2 < ((c13.length : Nat) : Int))) = false])
      (by kernel_rfl) ⟨lenOb, h17, trivial⟩ ?_
    exact hn

noncomputable def clearwaylaw07_ForestCounts (v1 : Int) (v2 : List A5_Int) (v3 : Bool) : Option Bool :=
  bd (clearwaylaw07_sane) fun y4 =>
  br (!y4) (
    some false) (
    bd (clearwayref03_Made v1 v2 v3) fun y7 =>
    bd (forest_Labels y7) fun y9 =>
    br (y9.2 != 0) (
      some false) (
      br (((y9.1.length : Nat) : Int) != ((y7.Vertices.length : Nat) : Int)) (
        some false) (
        bd (loopN fuel (clearwaylaw07_ForestCounts.l1 y9.1 y7.Vertices y7.Edges y7.Depots) (0, 0, 0, 0)) fun q48 =>
        match q48 with
        | .inl q48 =>
          some false
        | .inr (.inl q48) =>
          some false
        | .inr (.inr q48) =>
          br (q48.1 == q48.2.2) (
            some (q48.2.1 == (IntKind.i64.wrap (((y7.Vertices.length : Nat) : Int) - q48.2.2)))) (
            some false))))

theorem clearwaylaw07_ForestCounts.ok (v1 : Int) (v2 : List A5_Int) (v3 : Bool) {x : Bool} (hx : clearwaylaw07_ForestCounts v1 v2 v3 = some x) :
    Spec Try.prog 5 [.pv (.int .i64 v1), .pv (.sl (v2.map A5_Int.enc)), .pv (.bool v3)] [] (.pv (.bool x)) [] := by
  refine Spec.of (c := b5) Try.func5 rfl rfl rfl ?_
  unfold clearwaylaw07_ForestCounts at hx
  refine bd_ok hx fun y4 e5 hx => ?_
  refine br_ok hx (fun h6 hx => ?_) (fun h6 hx => ?_)
  · have hx := Option.some.inj hx
    subst hx
    refine WK.run (an := [.reg [], .reg [(0, none, .call [] [] (.pv (.bool y4)) [] [])], .br true, .reg []]) (kt := [6]) (ko := []) (k' := [.code (sub b5 [1, 0, 1, 0, 1]), .code (sub b5 [1, 1])]) (σ' := ⟨148, [(6, .pv (.bool false))], []⟩) (ps := [Spec Try.prog 8 [] [] (.pv (.bool y4)) [], (!y4) = true])
      (by kernel_rfl) ⟨clearwaylaw07_sane.ok  e5, h6, trivial⟩ ?_
    exact WK.ret (fn := Try.f5) Try.func5 (frz := []) (esc := []) (ps := []) (by kernel_rfl) trivial
  · refine bd_ok hx fun y7 e8 hx => ?_
    refine bd_ok hx fun y9 e10 hx => ?_
    refine br_ok hx (fun h11 hx => ?_) (fun h11 hx => ?_)
    · have hx := Option.some.inj hx
      subst hx
      refine WK.run (an := [.reg [], .reg [(0, none, .call [] [] (.pv (.bool y4)) [] [])], .br false, .reg [(3, none, .call [] [] (.aggp [.sl (y7.Vertices.map Vertex.enc), .sl (y7.Edges.map Edge.enc), .sl (y7.Depots.map eInt)]) [] []), (4, none, .nmv 1003 (.aggp [.sl ([].map Vertex.enc), .sl ([].map Edge.enc), .sl ([].map eInt)]))], .reg [(1, none, .call [] [] (.tup [.pv (.sl (y9.1.map Named.enc)), .pv (.int .i64 y9.2)]) [] [])], .reg [(3, some true, .no)], .bk, .reg []]) (kt := [6]) (ko := []) (k' := [.code (sub b5 [1, 1, 1, 1, 0, 1, 0, 1]), .code (sub b5 [1, 1, 1, 1, 1])]) (σ' := ⟨148, [(6, .pv (.bool false))], []⟩) (ps := [Spec Try.prog 8 [] [] (.pv (.bool y4)) [], (!y4) = false, Spec Try.prog 9 [.pv (.int .i64 v1), .pv (.sl (v2.map A5_Int.enc)), .pv (.bool v3)] [] (.aggp [.sl (y7.Vertices.map Vertex.enc), .sl (y7.Edges.map Edge.enc), .sl (y7.Depots.map eInt)]) [], 3 = 3, Spec Try.prog 11 [.aggp [.sl (y7.Vertices.map Vertex.enc), .sl (y7.Edges.map Edge.enc), .sl (y7.Depots.map eInt)]] [] (.tup [.pv (.sl (y9.1.map Named.enc)), .pv (.int .i64 y9.2)]) [], (y9.2 != 0) = true])
        (by kernel_rfl) ⟨clearwaylaw07_sane.ok  e5, h6, clearwayref03_Made.ok v1 v2 v3 e8, rfl, forest_Labels.ok y7 e10, h11, trivial⟩ ?_
      exact WK.ret (fn := Try.f5) Try.func5 (frz := []) (esc := []) (ps := []) (by kernel_rfl) trivial
    · refine br_ok hx (fun h12 hx => ?_) (fun h12 hx => ?_)
      · have hx := Option.some.inj hx
        subst hx
        refine WK.run (an := [.reg [], .reg [(0, none, .call [] [] (.pv (.bool y4)) [] [])], .br false, .reg [(3, none, .call [] [] (.aggp [.sl (y7.Vertices.map Vertex.enc), .sl (y7.Edges.map Edge.enc), .sl (y7.Depots.map eInt)]) [] []), (4, none, .nmv 1003 (.aggp [.sl ([].map Vertex.enc), .sl ([].map Edge.enc), .sl ([].map eInt)]))], .reg [(1, none, .call [] [] (.tup [.pv (.sl (y9.1.map Named.enc)), .pv (.int .i64 y9.2)]) [] [])], .reg [(3, some false, .no), (4, none, .val (.pv (.int .i64 ((y9.1.length : Nat) : Int)))), (7, none, .val (.pv (.int .i64 ((y7.Vertices.length : Nat) : Int))))], .br true, .reg []]) (kt := [6]) (ko := []) (k' := [.code (sub b5 [1, 1, 1, 1, 0, 1, 0, 1]), .code (sub b5 [1, 1, 1, 1, 1])]) (σ' := ⟨148, [(6, .pv (.bool false))], []⟩) (ps := [Spec Try.prog 8 [] [] (.pv (.bool y4)) [], (!y4) = false, Spec Try.prog 9 [.pv (.int .i64 v1), .pv (.sl (v2.map A5_Int.enc)), .pv (.bool v3)] [] (.aggp [.sl (y7.Vertices.map Vertex.enc), .sl (y7.Edges.map Edge.enc), .sl (y7.Depots.map eInt)]) [], 3 = 3, Spec Try.prog 11 [.aggp [.sl (y7.Vertices.map Vertex.enc), .sl (y7.Edges.map Edge.enc), .sl (y7.Depots.map eInt)]] [] (.tup [.pv (.sl (y9.1.map Named.enc)), .pv (.int .i64 y9.2)]) [], (y9.2 != 0) = false, AV.pv (.int .i64 ((y9.1.map Named.enc).length : Nat)) = .pv (.int .i64 (y9.1.length : Nat)), AV.pv (.int .i64 ((y7.Vertices.map Vertex.enc).length : Nat)) = .pv (.int .i64 (y7.Vertices.length : Nat)), (((y9.1.length : Nat) : Int) != ((y7.Vertices.length : Nat) : Int)) = true])
          (by kernel_rfl) ⟨clearwaylaw07_sane.ok  e5, h6, clearwayref03_Made.ok v1 v2 v3 e8, rfl, forest_Labels.ok y7 e10, h11, lenOb, lenOb, h12, trivial⟩ ?_
        exact WK.ret (fn := Try.f5) Try.func5 (frz := []) (esc := []) (ps := []) (by kernel_rfl) trivial
      · refine bd_ok hx fun q48 e49 hx => ?_
        refine WK.run (an := [.reg [], .reg [(0, none, .call [] [] (.pv (.bool y4)) [] [])], .br false, .reg [(3, none, .call [] [] (.aggp [.sl (y7.Vertices.map Vertex.enc), .sl (y7.Edges.map Edge.enc), .sl (y7.Depots.map eInt)]) [] []), (4, none, .nmv 1003 (.aggp [.sl ([].map Vertex.enc), .sl ([].map Edge.enc), .sl ([].map eInt)]))], .reg [(1, none, .call [] [] (.tup [.pv (.sl (y9.1.map Named.enc)), .pv (.int .i64 y9.2)]) [] [])], .reg [(3, some false, .no), (4, none, .val (.pv (.int .i64 ((y9.1.length : Nat) : Int)))), (7, none, .val (.pv (.int .i64 ((y7.Vertices.length : Nat) : Int))))], .br false, .reg [], .reg [], .reg [], .reg []]) (kt := [7, 8, 10, 11, 12, 13]) (ko := [(1003, 101)]) (k' := [.code (sub b5 [1, 1, 1, 1, 1, 1, 1, 1, 0, 1, 0]), .inBlock 0, .code (sub b5 [1, 1, 1, 1, 1, 1, 1, 1, 1])]) (σ' := clearwaylaw07_ForestCounts.l1.enc y9.1 y7.Vertices y7.Edges y7.Depots (0, 0, 0, 0)) (ps := [Spec Try.prog 8 [] [] (.pv (.bool y4)) [], (!y4) = false, Spec Try.prog 9 [.pv (.int .i64 v1), .pv (.sl (v2.map A5_Int.enc)), .pv (.bool v3)] [] (.aggp [.sl (y7.Vertices.map Vertex.enc), .sl (y7.Edges.map Edge.enc), .sl (y7.Depots.map eInt)]) [], 3 = 3, Spec Try.prog 11 [.aggp [.sl (y7.Vertices.map Vertex.enc), .sl (y7.Edges.map Edge.enc), .sl (y7.Depots.map eInt)]] [] (.tup [.pv (.sl (y9.1.map Named.enc)), .pv (.int .i64 y9.2)]) [], (y9.2 != 0) = false, AV.pv (.int .i64 ((y9.1.map Named.enc).length : Nat)) = .pv (.int .i64 (y9.1.length : Nat)), AV.pv (.int .i64 ((y7.Vertices.map Vertex.enc).length : Nat)) = .pv (.int .i64 (y7.Vertices.length : Nat)), (((y9.1.length : Nat) : Int) != ((y7.Vertices.length : Nat) : Int)) = false])
          (by kernel_rfl) ⟨clearwaylaw07_sane.ok  e5, h6, clearwayref03_Made.ok v1 v2 v3 e8, rfl, forest_Labels.ok y7 e10, h11, lenOb, lenOb, h12, trivial⟩ ?_
        refine WK.enterLoop (clearwaylaw07_ForestCounts.l1.ok y9.1 y7.Vertices y7.Edges y7.Depots _ _ _ _ e49 ?_)
        rcases q48 with (q48 | (q48 | q48))
        · have hx := Option.some.inj hx
          subst hx
          refine WK.run (an := []) (kt := [6]) (ko := []) (k' := [.code (sub b5 [1, 1, 1, 1, 1, 1, 1, 1, 0, 1, 0, 0, 1, 0, 0, 1, 1, 0, 1, 0, 1]), .code (sub b5 [1, 1, 1, 1, 1, 1, 1, 1, 0, 1, 0, 0, 1, 0, 0, 1, 1, 1]), .inBlock 1, .code (sub b5 [1, 1, 1, 1, 1, 1, 1, 1, 0, 1, 0, 0, 1, 1]), .inLoop (sub b5 [1, 1, 1, 1, 1, 1, 1, 1, 0, 1, 0, 0]), .inBlock 0, .code (sub b5 [1, 1, 1, 1, 1, 1, 1, 1, 1])]) (σ' := ⟨148, [(6, .pv (.bool false))], []⟩) (ps := [])
            (by kernel_rfl) trivial ?_
          exact WK.ret (fn := Try.f5) Try.func5 (frz := []) (esc := []) (ps := []) (by kernel_rfl) trivial
        · have hx := Option.some.inj hx
          subst hx
          refine WK.run (an := []) (kt := [6]) (ko := []) (k' := [.code (sub b5 [1, 1, 1, 1, 1, 1, 1, 1, 0, 1, 0, 0, 1, 0, 0, 1, 1, 1, 1, 1, 1, 0, 0, 1, 0, 0, 1, 1, 1, 1, 0, 1]), .inBlock 3, .code (sub b5 [1, 1, 1, 1, 1, 1, 1, 1, 0, 1, 0, 0, 1, 0, 0, 1, 1, 1, 1, 1, 1, 0, 0, 1, 1]), .inLoop (sub b5 [1, 1, 1, 1, 1, 1, 1, 1, 0, 1, 0, 0, 1, 0, 0, 1, 1, 1, 1, 1, 1, 0, 0]), .inBlock 2, .inBlock 1, .code (sub b5 [1, 1, 1, 1, 1, 1, 1, 1, 0, 1, 0, 0, 1, 1]), .inLoop (sub b5 [1, 1, 1, 1, 1, 1, 1, 1, 0, 1, 0, 0]), .inBlock 0, .code (sub b5 [1, 1, 1, 1, 1, 1, 1, 1, 1])]) (σ' := ⟨148, [(6, .pv (.bool false))], []⟩) (ps := [])
            (by kernel_rfl) trivial ?_
          exact WK.ret (fn := Try.f5) Try.func5 (frz := []) (esc := []) (ps := []) (by kernel_rfl) trivial
        · refine br_ok hx (fun h50 hx => ?_) (fun h50 hx => ?_)
          · have hx := Option.some.inj hx
            subst hx
            refine WK.run (an := [.reg [(4, some true, .no), (7, none, .val (.pv (.int .i64 ((y7.Vertices.length : Nat) : Int))))]]) (kt := [6]) (ko := []) (k' := [.code (sub b5 [1, 1, 1, 1, 1, 1, 1, 1, 1, 1])]) (σ' := ⟨148, [(6, .pv (.bool (q48.2.1 == (IntKind.i64.wrap (((y7.Vertices.length : Nat) : Int) - q48.2.2)))))], []⟩) (ps := [(q48.1 == q48.2.2) = true, AV.pv (.int .i64 ((y7.Vertices.map Vertex.enc).length : Nat)) = .pv (.int .i64 (y7.Vertices.length : Nat))])
              (by kernel_rfl) ⟨h50, lenOb, trivial⟩ ?_
            exact WK.ret (fn := Try.f5) Try.func5 (frz := []) (esc := []) (ps := []) (by kernel_rfl) trivial
          · have hx := Option.some.inj hx
            subst hx
            refine WK.run (an := [.reg [(4, some false, .no)]]) (kt := [6]) (ko := []) (k' := [.code (sub b5 [1, 1, 1, 1, 1, 1, 1, 1, 1, 1])]) (σ' := ⟨148, [(6, .pv (.bool false))], []⟩) (ps := [(q48.1 == q48.2.2) = false])
              (by kernel_rfl) ⟨h50, trivial⟩ ?_
            exact WK.ret (fn := Try.f5) Try.func5 (frz := []) (esc := []) (ps := []) (by kernel_rfl) trivial

end Go.Fw.Gen
