/- Plain functions, and the proofs that the program computes them; printed by a program of our own. -/
import Derived.Test.YtpkjgdngkhnhpaaG1
set_option linter.unusedVariables false
namespace Go.Fw.Gen
open Go.Proofs Go.Fw
noncomputable abbrev b28 : Code := body Try.f28
noncomputable def r7Bent.l0 (c14 : List A3_Int) (s : Int × (List (List Int)) × (List NamedR)) : Option (Nx (Int × (List (List Int)) × (List NamedR)) ((List (List Int)) × (List NamedR))) :=
 br (decide (s.1 < ((c14.length : Nat) : Int))) (
  br (decide (s.1 < 4)) (
   br (decide (((s.2.2.length : Nat) : Int) > 0)) (
    getR c14 s.1 fun a20 =>
    bd (r7pick a20.x0 ((s.2.2.length : Nat) : Int)) fun y23 =>
    getR c14 s.1 fun a25 =>
    gd (0 ≤ (y23 : Int) ∧ (y23 : Int) < ((s.2.2.length : Nat) : Int)) <|
    bd (s.2.2[(0 + (y23 : Int).toNat)]?) fun a29 =>
    bd (r7pick a25.x1 (IntKind.i64.wrap (((a29.Label.len : Nat) : Int) + 1))) fun y31 =>
    gd (0 ≤ (y23 : Int) ∧ (y23 : Int) < ((s.2.2.length : Nat) : Int)) <|
    bd (s.2.2[(0 + (y23 : Int).toNat)]?) fun a34 =>
    br (y31 == ((a34.Label.len : Nat) : Int)) (
     getR c14 s.1 fun a40 =>
     bd (r7pick a40.x2 ((s.2.2.length : Nat) : Int)) fun y43 =>
     getR c14 s.1 fun a45 =>
     bd (r7pick a45.x2 5) fun y48 =>
     br (y48 == 0) (
      br (decide (y31 > 0)) (
       gd (0 ≤ (y23 : Int) ∧ (y23 : Int) < ((s.2.2.length : Nat) : Int)) <|
       bd (s.2.2[(0 + (y23 : Int).toNat)]?) fun a56 =>
       gd (0 ≤ ((IntKind.i64.wrap (y31 - 1)) : Int)) <|
       gd (((IntKind.i64.wrap (y31 - 1)) : Int) ≤ ((a56.Label.len : Nat) : Int)) <|
       gd (0 ≤ (y23 : Int) ∧ (y23 : Int) < ((s.2.2.length : Nat) : Int)) <|
       bd (s.2.2[(0 + (y23 : Int).toNat)]?) fun a61 =>
       some (.cont ((IntKind.i64.wrap (s.1 + 1)), s.2.1, (s.2.2.set (0 + (y23 : Int).toNat) (NamedR.mk a61.ID (Ref.mk a56.Label.i (a56.Label.off + 0) (((IntKind.i64.wrap (y31 - 1)) : Int).toNat - 0))))))) (
       gd (0 ≤ (y43 : Int) ∧ (y43 : Int) < ((s.2.2.length : Nat) : Int)) <|
       bd (s.2.2[(0 + (y43 : Int).toNat)]?) fun a64 =>
       gd (0 ≤ (y23 : Int) ∧ (y23 : Int) < ((s.2.2.length : Nat) : Int)) <|
       bd (s.2.2[(0 + (y23 : Int).toNat)]?) fun a67 =>
       gd (0 ≤ (y23 : Int) ∧ (y23 : Int) < ((s.2.2.length : Nat) : Int)) <|
       bd (s.2.2[(0 + (y23 : Int).toNat)]?) fun a70 =>
       gd (0 ≤ (y43 : Int) ∧ (y43 : Int) < ((s.2.2.length : Nat) : Int)) <|
       bd ((s.2.2.set (0 + (y23 : Int).toNat) (NamedR.mk a70.ID a64.Label))[(0 + (y43 : Int).toNat)]?) fun a73 =>
       some (.cont ((IntKind.i64.wrap (s.1 + 1)), s.2.1, ((s.2.2.set (0 + (y23 : Int).toNat) (NamedR.mk a70.ID a64.Label)).set (0 + (y43 : Int).toNat) (NamedR.mk a73.ID a67.Label)))))) (
      gd (0 ≤ (y43 : Int) ∧ (y43 : Int) < ((s.2.2.length : Nat) : Int)) <|
      bd (s.2.2[(0 + (y43 : Int).toNat)]?) fun a76 =>
      gd (0 ≤ (y23 : Int) ∧ (y23 : Int) < ((s.2.2.length : Nat) : Int)) <|
      bd (s.2.2[(0 + (y23 : Int).toNat)]?) fun a79 =>
      gd (0 ≤ (y23 : Int) ∧ (y23 : Int) < ((s.2.2.length : Nat) : Int)) <|
      bd (s.2.2[(0 + (y23 : Int).toNat)]?) fun a82 =>
      gd (0 ≤ (y43 : Int) ∧ (y43 : Int) < ((s.2.2.length : Nat) : Int)) <|
      bd ((s.2.2.set (0 + (y23 : Int).toNat) (NamedR.mk a82.ID a76.Label))[(0 + (y43 : Int).toNat)]?) fun a85 =>
      some (.cont ((IntKind.i64.wrap (s.1 + 1)), s.2.1, ((s.2.2.set (0 + (y23 : Int).toNat) (NamedR.mk a82.ID a76.Label)).set (0 + (y43 : Int).toNat) (NamedR.mk a85.ID a79.Label)))))) (
     getR c14 s.1 fun a87 =>
     bd (r7pick a87.x2 3) fun y90 =>
     br (y90 == 0) (
      gd (0 ≤ (y23 : Int) ∧ (y23 : Int) < ((s.2.2.length : Nat) : Int)) <|
      bd (s.2.2[(0 + (y23 : Int).toNat)]?) fun a96 =>
      getR c14 s.1 fun a98 =>
      bd (r7pick a98.x2 12) fun y101 =>
      gd (0 ≤ (y31 : Int) ∧ (y31 : Int) < ((a96.Label.len : Nat) : Int)) <|
      bd (s.2.1[a96.Label.i]?) fun a104 =>
      bd (a104[(a96.Label.off + (y31 : Int).toNat)]?) fun a105 =>
      some (.cont ((IntKind.i64.wrap (s.1 + 1)), (s.2.1.set a96.Label.i (a104.set (a96.Label.off + (y31 : Int).toNat) (IntKind.i64.wrap (y101 - 2)))), s.2.2))) (
      gd (0 ≤ (y23 : Int) ∧ (y23 : Int) < ((s.2.2.length : Nat) : Int)) <|
      bd (s.2.2[(0 + (y23 : Int).toNat)]?) fun a109 =>
      gd (0 ≤ (y23 : Int) ∧ (y23 : Int) < ((s.2.2.length : Nat) : Int)) <|
      bd (s.2.2[(0 + (y23 : Int).toNat)]?) fun a112 =>
      gd (0 ≤ (y31 : Int) ∧ (y31 : Int) < ((a112.Label.len : Nat) : Int)) <|
      bd (s.2.1[a112.Label.i]?) fun a115 =>
      bd (a115[(a112.Label.off + (y31 : Int).toNat)]?) fun a116 =>
      getR c14 s.1 fun a119 =>
      bd (r7pick a119.x2 5) fun y122 =>
      gd (0 ≤ (y31 : Int) ∧ (y31 : Int) < ((a109.Label.len : Nat) : Int)) <|
      bd (s.2.1[a109.Label.i]?) fun a125 =>
      bd (a125[(a109.Label.off + (y31 : Int).toNat)]?) fun a126 =>
      some (.cont ((IntKind.i64.wrap (s.1 + 1)), (s.2.1.set a109.Label.i (a125.set (a109.Label.off + (y31 : Int).toNat) (IntKind.i64.wrap ((IntKind.i64.wrap (a116 + y122)) - 2)))), s.2.2))))) (
    some (.done (s.2.1, s.2.2)))) (
   some (.done (s.2.1, s.2.2)))) (
  some (.done (s.2.1, s.2.2)))
abbrev r7Bent.l0.enc (f : Nat) (c14 : List A3_Int) (s : Int × (List (List Int)) × (List NamedR)) : St := ⟨171, [(1, .pv (.sl (c14.map A3_Int.enc))), (5, .hd 101 0 ((s.2.2.map (NamedR.enc f)).length) 2), (7, .pv (.int .i64 s.1))], [(3, .fam false f 1 (s.2.1.map (List.map eInt))), (101, .sl false 2 (s.2.2.map (NamedR.enc f)))]⟩
abbrev r7Bent.l0.post (f : Nat) (c14 : List A3_Int) (r : AV) (outs : List AObj) (q : ((List (List Int)) × (List NamedR))) : Prop := WK Try.prog (28, 0) [.code (sub b28 [1, 1, 1, 1, 0]), .code (sub b28 [1, 1, 1, 1, 1])] ⟨171, [(5, .hd 101 0 ((q.2.map (NamedR.enc f)).length) 2)], [(3, .fam false f 1 (q.1.map (List.map eInt))), (101, .sl false 2 (q.2.map (NamedR.enc f)))]⟩ r outs
theorem r7Bent.l0.ok (f : Nat) (c14 : List A3_Int) (r : AV) (outs : List AObj) (s : Int × (List (List Int)) × (List NamedR)) (q : ((List (List Int)) × (List NamedR))) (h : loopN fuel (r7Bent.l0 c14) s = some q) (hd : r7Bent.l0.post f c14 r outs q) :
  WK Try.prog (28, 0) [.inLoop (sub b28 [1, 1, 1, 0, 1, 0, 0]), .inBlock 2, .code (sub b28 [1, 1, 1, 1])] (r7Bent.l0.enc f c14 s) r outs := by
 refine WK.loop (r7Bent.l0.enc f c14) (r7Bent.l0 c14) (r7Bent.l0.post f c14 r outs) ?_ fuel s q h hd
 intro s x hx hn
 unfold r7Bent.l0 at hx
 refine br_ok hx (fun h15 hx => ?_) (fun h15 hx => ?_)
 ·refine br_ok hx (fun h16 hx => ?_) (fun h16 hx => ?_)
  ·let Q17 : List Prop := [AV.pv (.int .i64 ((c14.map A3_Int.enc).length : Nat)) = .pv (.int .i64 (c14.length : Nat)), (decide (s.1 < ((c14.length : Nat) : Int))) = true, (decide (s.1 < 4)) = true, AV.pv (.int .i64 ((s.2.2.map (NamedR.enc f)).length : Nat)) = .pv (.int .i64 (s.2.2.length : Nat))]
   have k18 : All Q17 := ⟨lenOb, h15, h16, lenOb, trivial⟩
   refine br_ok hx (fun h19 hx => ?_) (fun h19 hx => ?_)
   ·refine getR_ok hx fun a20 h21 h22 hx => ?_
    refine bd_ok hx fun y23 e24 hx => ?_
    refine getR_ok hx fun a25 h26 h27 hx => ?_
    refine gd_ok hx fun h28 hx => ?_
    refine bd_ok hx fun a29 h30 hx => ?_
    refine bd_ok hx fun y31 e32 hx => ?_
    refine gd_ok hx fun h33 hx => ?_
    refine bd_ok hx fun a34 h35 hx => ?_
    let A36 : List An := [.lp, .reg [(2, none, .val (.pv (.int .i64 ((c14.length : Nat) : Int)))), (5, some true, .no), (9, some true, .no), (10, none, .val (.pv (.int .i64 ((s.2.2.length : Nat) : Int))))], .br true, .reg [(2, none, .row (A3_Int.enc a20)), (6, none, .val (.pv (.int .i64 ((s.2.2.length : Nat) : Int)))), (7, none, .call [] [] (.pv (.int .i64 y23)) [] [])], .draw [0, 1, 2, 3, 4, 5, 6, 7, 8, 9, 10, 11, 12, 13] [(2, none, .row (A3_Int.enc a25)), (9, none, .row ((NamedR.enc f) a29)), (12, none, .call [] [] (.pv (.int .i64 y31)) [] [])], .reg [(5, none, .row ((NamedR.enc f) a34))]]
    let Q37 : List Prop := (Q17 ++ [(decide (((s.2.2.length : Nat) : Int) > 0)) = true, 0 ≤ (s.1 : Int), (c14.map A3_Int.enc)[(s.1 : Int).toNat]? = some (A3_Int.enc a20), (A3_Int.enc a20).length = 3, (0 : Int) ≤ 0, (0 : Int) < ((3 : Nat) : Int), AV.pv (.int .i64 ((s.2.2.map (NamedR.enc f)).length : Nat)) = .pv (.int .i64 (s.2.2.length : Nat)), Spec Try.prog 56 [.pv (.int .i64 a20.x0), .pv (.int .i64 ((s.2.2.length : Nat) : Int))] [] (.pv (.int .i64 y23)) [], 0 ≤ (s.1 : Int), (c14.map A3_Int.enc)[(s.1 : Int).toNat]? = some (A3_Int.enc a25), (A3_Int.enc a25).length = 3, (0 : Int) ≤ 1, (1 : Int) < ((3 : Nat) : Int), 0 ≤ (y23 : Int), (y23 : Int) < (((s.2.2.map (NamedR.enc f)).length : Nat) : Int), (s.2.2.map (NamedR.enc f))[(0 + (y23 : Int).toNat)]? = some ((NamedR.enc f) a29), Spec Try.prog 56 [.pv (.int .i64 a25.x1), .pv (.int .i64 (IntKind.i64.wrap (((a29.Label.len : Nat) : Int) + 1)))] [] (.pv (.int .i64 y31)) [], 0 ≤ (y23 : Int), (y23 : Int) < (((s.2.2.map (NamedR.enc f)).length : Nat) : Int), (s.2.2.map (NamedR.enc f))[(0 + (y23 : Int).toNat)]? = some ((NamedR.enc f) a34)])
    have k38 : All Q37 := (All_append.2 ⟨k18, ⟨h19, h21, rowOb h22, rfl, by decide, by decide, lenOb, r7pick.ok a20.x0 ((s.2.2.length : Nat) : Int) e24, h26, rowOb h27, rfl, by decide, by decide, h28.1, lenLt h28.2, rowOb h30, r7pick.ok a25.x1 (IntKind.i64.wrap (((a29.Label.len : Nat) : Int) + 1)) e32, h33.1, lenLt h33.2, rowOb h35, trivial⟩⟩)
    refine br_ok hx (fun h39 hx => ?_) (fun h39 hx => ?_)
    ·refine getR_ok hx fun a40 h41 h42 hx => ?_
     refine bd_ok hx fun y43 e44 hx => ?_
     refine getR_ok hx fun a45 h46 h47 hx => ?_
     refine bd_ok hx fun y48 e49 hx => ?_
     let Q50 : List Prop := (Q37 ++ [(y31 == ((a34.Label.len : Nat) : Int)) = true, 0 ≤ (s.1 : Int), (c14.map A3_Int.enc)[(s.1 : Int).toNat]? = some (A3_Int.enc a40), (A3_Int.enc a40).length = 3, (0 : Int) ≤ 2, (2 : Int) < ((3 : Nat) : Int), AV.pv (.int .i64 ((s.2.2.map (NamedR.enc f)).length : Nat)) = .pv (.int .i64 (s.2.2.length : Nat)), Spec Try.prog 56 [.pv (.int .i64 a40.x2), .pv (.int .i64 ((s.2.2.length : Nat) : Int))] [] (.pv (.int .i64 y43)) [], 0 ≤ (s.1 : Int), (c14.map A3_Int.enc)[(s.1 : Int).toNat]? = some (A3_Int.enc a45), (A3_Int.enc a45).length = 3, (0 : Int) ≤ 2, (2 : Int) < ((3 : Nat) : Int), Spec Try.prog 56 [.pv (.int .i64 a45.x2), .pv (.int .i64 5)] [] (.pv (.int .i64 y48)) []])
     have k51 : All Q50 := (All_append.2 ⟨k38, ⟨h39, h41, rowOb h42, rfl, by decide, by decide, lenOb, r7pick.ok a40.x2 ((s.2.2.length : Nat) : Int) e44, h46, rowOb h47, rfl, by decide, by decide, r7pick.ok a45.x2 5 e49, trivial⟩⟩)
     refine br_ok hx (fun h52 hx => ?_) (fun h52 hx => ?_)
     ·let A53 : List An := (A36 ++ [.br true, .reg [(2, none, .row (A3_Int.enc a40)), (6, none, .val (.pv (.int .i64 ((s.2.2.length : Nat) : Int)))), (7, none, .call [] [] (.pv (.int .i64 y43)) [] [])], .reg [(2, none, .row (A3_Int.enc a45)), (5, none, .call [] [] (.pv (.int .i64 y48)) [] []), (8, some true, .no)]])
      refine br_ok hx (fun h54 hx => ?_) (fun h54 hx => ?_)
      ·refine gd_ok hx fun h55 hx => ?_
       refine bd_ok hx fun a56 h57 hx => ?_
       refine gd_ok hx fun h58 hx => ?_
       refine gd_ok hx fun h59 hx => ?_
       refine gd_ok hx fun h60 hx => ?_
       refine bd_ok hx fun a61 h62 hx => ?_
       obtain rfl := sI hx
       refine WK.run (an := (A53 ++ [.br true, .reg [(6, none, .row ((NamedR.enc f) a56)), (12, none, .rows ((NamedR.enc f) a61) ((s.2.2.set (0 + (y23 : Int).toNat) (NamedR.mk a61.ID (Ref.mk a56.Label.i (a56.Label.off + 0) (((IntKind.i64.wrap (y31 - 1)) : Int).toNat - 0)))).map (NamedR.enc f)))], .reg []])) (kt := [1, 5, 7]) (ko := [(3, 3), (101, 101)]) (k' := [.inLoop (sub b28 [1, 1, 1, 0, 1, 0, 0]), .inBlock 2, .code (sub b28 [1, 1, 1, 1])]) (σ' := ⟨171, [(1, .pv (.sl (c14.map A3_Int.enc))), (5, .hd 101 0 ((s.2.2.map (NamedR.enc f)).length) 2), (7, .pv (.int .i64 (IntKind.i64.wrap (s.1 + 1))))], [(3, .fam false f 1 (s.2.1.map (List.map eInt))), (101, .sl false 2 ((s.2.2.set (0 + (y23 : Int).toNat) (NamedR.mk a61.ID (Ref.mk a56.Label.i (a56.Label.off + 0) (((IntKind.i64.wrap (y31 - 1)) : Int).toNat - 0)))).map (NamedR.enc f)))]⟩) (ps := (Q50 ++ [(y48 == 0) = true, (decide (y31 > 0)) = true, 0 ≤ (y23 : Int), (y23 : Int) < (((s.2.2.map (NamedR.enc f)).length : Nat) : Int), (s.2.2.map (NamedR.enc f))[(0 + (y23 : Int).toNat)]? = some ((NamedR.enc f) a56), 0 ≤ ((IntKind.i64.wrap (y31 - 1)) : Int), ((IntKind.i64.wrap (y31 - 1)) : Int) ≤ ((a56.Label.len : Nat) : Int), 0 ≤ (y23 : Int), (y23 : Int) < (((s.2.2.map (NamedR.enc f)).length : Nat) : Int), (s.2.2.map (NamedR.enc f))[(0 + (y23 : Int).toNat)]? = some ((NamedR.enc f) a61), 1 = 1, 1 + 1 ≤ ((NamedR.enc f) a61).length, (s.2.2.map (NamedR.enc f)).set (0 + (y23 : Int).toNat) (splice ((NamedR.enc f) a61) 1 [.fh f (Ref.mk a56.Label.i (a56.Label.off + 0) (((IntKind.i64.wrap (y31 - 1)) : Int).toNat - 0)).i (Ref.mk a56.Label.i (a56.Label.off + 0) (((IntKind.i64.wrap (y31 - 1)) : Int).toNat - 0)).off (Ref.mk a56.Label.i (a56.Label.off + 0) (((IntKind.i64.wrap (y31 - 1)) : Int).toNat - 0)).len 1]) = ((s.2.2.set (0 + (y23 : Int).toNat) (NamedR.mk a61.ID (Ref.mk a56.Label.i (a56.Label.off + 0) (((IntKind.i64.wrap (y31 - 1)) : Int).toNat - 0)))).map (NamedR.enc f))]))
        (by kernel_rfl) (All_append.2 ⟨k51, ⟨h52, h54, h55.1, lenLt h55.2, rowOb h57, h58, h59, h60.1, lenLt h60.2, rowOb h62, rfl, Nat.le_of_ble_eq_true rfl, setOb (f := (NamedR.enc f)) (x := (NamedR.mk a61.ID (Ref.mk a56.Label.i (a56.Label.off + 0) (((IntKind.i64.wrap (y31 - 1)) : Int).toNat - 0)))), trivial⟩⟩) ?_
       refine WK.eq (σ' := r7Bent.l0.enc f c14 ((IntKind.i64.wrap (s.1 + 1)), s.2.1, (s.2.2.set (0 + (y23 : Int).toNat) (NamedR.mk a61.ID (Ref.mk a56.Label.i (a56.Label.off + 0) (((IntKind.i64.wrap (y31 - 1)) : Int).toNat - 0)))))) (by simp only [r7Bent.l0.enc, List.length_map, List.length_set]) ?_
       exact hn
      ·refine gd_ok hx fun h63 hx => ?_
       refine bd_ok hx fun a64 h65 hx => ?_
       refine gd_ok hx fun h66 hx => ?_
       refine bd_ok hx fun a67 h68 hx => ?_
       refine gd_ok hx fun h69 hx => ?_
       refine bd_ok hx fun a70 h71 hx => ?_
       refine gd_ok hx fun h72 hx => ?_
       refine bd_ok hx fun a73 h74 hx => ?_
       obtain rfl := sI hx
       refine WK.run (an := (A53 ++ [.br false, .draw [0, 1, 2, 3, 4, 5, 6, 7, 8, 9, 10, 11, 12, 13, 14, 15, 16, 17, 18, 19] [(8, none, .row ((NamedR.enc f) a64)), (13, none, .row ((NamedR.enc f) a67)), (16, none, .rows ((NamedR.enc f) a70) ((s.2.2.set (0 + (y23 : Int).toNat) (NamedR.mk a70.ID a64.Label)).map (NamedR.enc f))), (19, none, .rows ((NamedR.enc f) a73) (((s.2.2.set (0 + (y23 : Int).toNat) (NamedR.mk a70.ID a64.Label)).set (0 + (y43 : Int).toNat) (NamedR.mk a73.ID a67.Label)).map (NamedR.enc f)))], .reg []])) (kt := [1, 5, 7]) (ko := [(3, 3), (101, 101)]) (k' := [.inLoop (sub b28 [1, 1, 1, 0, 1, 0, 0]), .inBlock 2, .code (sub b28 [1, 1, 1, 1])]) (σ' := ⟨171, [(1, .pv (.sl (c14.map A3_Int.enc))), (5, .hd 101 0 ((s.2.2.map (NamedR.enc f)).length) 2), (7, .pv (.int .i64 (IntKind.i64.wrap (s.1 + 1))))], [(3, .fam false f 1 (s.2.1.map (List.map eInt))), (101, .sl false 2 (((s.2.2.set (0 + (y23 : Int).toNat) (NamedR.mk a70.ID a64.Label)).set (0 + (y43 : Int).toNat) (NamedR.mk a73.ID a67.Label)).map (NamedR.enc f)))]⟩) (ps := (Q50 ++ [(y48 == 0) = true, (decide (y31 > 0)) = false, 0 ≤ (y43 : Int), (y43 : Int) < (((s.2.2.map (NamedR.enc f)).length : Nat) : Int), (s.2.2.map (NamedR.enc f))[(0 + (y43 : Int).toNat)]? = some ((NamedR.enc f) a64), 0 ≤ (y23 : Int), (y23 : Int) < (((s.2.2.map (NamedR.enc f)).length : Nat) : Int), (s.2.2.map (NamedR.enc f))[(0 + (y23 : Int).toNat)]? = some ((NamedR.enc f) a67), 0 ≤ (y23 : Int), (y23 : Int) < (((s.2.2.map (NamedR.enc f)).length : Nat) : Int), (s.2.2.map (NamedR.enc f))[(0 + (y23 : Int).toNat)]? = some ((NamedR.enc f) a70), 1 = 1, 1 + 1 ≤ ((NamedR.enc f) a70).length, (s.2.2.map (NamedR.enc f)).set (0 + (y23 : Int).toNat) (splice ((NamedR.enc f) a70) 1 [.fh f a64.Label.i a64.Label.off a64.Label.len 1]) = ((s.2.2.set (0 + (y23 : Int).toNat) (NamedR.mk a70.ID a64.Label)).map (NamedR.enc f)), 0 ≤ (y43 : Int), (y43 : Int) < (((s.2.2.map (NamedR.enc f)).length : Nat) : Int), ((s.2.2.set (0 + (y23 : Int).toNat) (NamedR.mk a70.ID a64.Label)).map (NamedR.enc f))[(0 + (y43 : Int).toNat)]? = some ((NamedR.enc f) a73), 1 = 1, 1 + 1 ≤ ((NamedR.enc f) a73).length, ((s.2.2.set (0 + (y23 : Int).toNat) (NamedR.mk a70.ID a64.Label)).map (NamedR.enc f)).set (0 + (y43 : Int).toNat) (splice ((NamedR.enc f) a73) 1 [.fh f a67.Label.i a67.Label.off a67.Label.len 1]) = (((s.2.2.set (0 + (y23 : Int).toNat) (NamedR.mk a70.ID a64.Label)).set (0 + (y43 : Int).toNat) (NamedR.mk a73.ID a67.Label)).map (NamedR.enc f))]))
        (by kernel_rfl) (All_append.2 ⟨k51, ⟨h52, h54, h63.1, lenLt h63.2, rowOb h65, h66.1, lenLt h66.2, rowOb h68, h69.1, lenLt h69.2, rowOb h71, rfl, Nat.le_of_ble_eq_true rfl, setOb (f := (NamedR.enc f)) (x := (NamedR.mk a70.ID a64.Label)), h72.1, lenLt h72.2, rowOb h74, rfl, Nat.le_of_ble_eq_true rfl, setOb (f := (NamedR.enc f)) (x := (NamedR.mk a73.ID a67.Label)), trivial⟩⟩) ?_
       refine WK.eq (σ' := r7Bent.l0.enc f c14 ((IntKind.i64.wrap (s.1 + 1)), s.2.1, ((s.2.2.set (0 + (y23 : Int).toNat) (NamedR.mk a70.ID a64.Label)).set (0 + (y43 : Int).toNat) (NamedR.mk a73.ID a67.Label)))) (by simp only [r7Bent.l0.enc, List.length_map, List.length_set]) ?_
       exact hn
     ·refine gd_ok hx fun h75 hx => ?_
      refine bd_ok hx fun a76 h77 hx => ?_
      refine gd_ok hx fun h78 hx => ?_
      refine bd_ok hx fun a79 h80 hx => ?_
      refine gd_ok hx fun h81 hx => ?_
      refine bd_ok hx fun a82 h83 hx => ?_
      refine gd_ok hx fun h84 hx => ?_
      refine bd_ok hx fun a85 h86 hx => ?_
      obtain rfl := sI hx
      refine WK.run (an := (A36 ++ [.br true, .reg [(2, none, .row (A3_Int.enc a40)), (6, none, .val (.pv (.int .i64 ((s.2.2.length : Nat) : Int)))), (7, none, .call [] [] (.pv (.int .i64 y43)) [] [])], .reg [(2, none, .row (A3_Int.enc a45)), (5, none, .call [] [] (.pv (.int .i64 y48)) [] []), (8, some false, .no)], .bk, .draw [0, 1, 2, 3, 4, 5, 6, 7, 8, 9, 10, 11, 12, 13, 14, 15, 16, 17, 18, 19] [(8, none, .row ((NamedR.enc f) a76)), (13, none, .row ((NamedR.enc f) a79)), (16, none, .rows ((NamedR.enc f) a82) ((s.2.2.set (0 + (y23 : Int).toNat) (NamedR.mk a82.ID a76.Label)).map (NamedR.enc f))), (19, none, .rows ((NamedR.enc f) a85) (((s.2.2.set (0 + (y23 : Int).toNat) (NamedR.mk a82.ID a76.Label)).set (0 + (y43 : Int).toNat) (NamedR.mk a85.ID a79.Label)).map (NamedR.enc f)))], .reg []])) (kt := [1, 5, 7]) (ko := [(3, 3), (101, 101)]) (k' := [.inLoop (sub b28 [1, 1, 1, 0, 1, 0, 0]), .inBlock 2, .code (sub b28 [1, 1, 1, 1])]) (σ' := ⟨171, [(1, .pv (.sl (c14.map A3_Int.enc))), (5, .hd 101 0 ((s.2.2.map (NamedR.enc f)).length) 2), (7, .pv (.int .i64 (IntKind.i64.wrap (s.1 + 1))))], [(3, .fam false f 1 (s.2.1.map (List.map eInt))), (101, .sl false 2 (((s.2.2.set (0 + (y23 : Int).toNat) (NamedR.mk a82.ID a76.Label)).set (0 + (y43 : Int).toNat) (NamedR.mk a85.ID a79.Label)).map (NamedR.enc f)))]⟩) (ps := (Q50 ++ [(y48 == 0) = false, 0 ≤ (y43 : Int), (y43 : Int) < (((s.2.2.map (NamedR.enc f)).length : Nat) : Int), (s.2.2.map (NamedR.enc f))[(0 + (y43 : Int).toNat)]? = some ((NamedR.enc f) a76), 0 ≤ (y23 : Int), (y23 : Int) < (((s.2.2.map (NamedR.enc f)).length : Nat) : Int), (s.2.2.map (NamedR.enc f))[(0 + (y23 : Int).toNat)]? = some ((NamedR.enc f) a79), 0 ≤ (y23 : Int), (y23 : Int) < (((s.2.2.map (NamedR.enc f)).length : Nat) : Int), (s.2.2.map (NamedR.enc f))[(0 + (y23 : Int).toNat)]? = some ((NamedR.enc f) a82), 1 = 1, 1 + 1 ≤ ((NamedR.enc f) a82).length, (s.2.2.map (NamedR.enc f)).set (0 + (y23 : Int).toNat) (splice ((NamedR.enc f) a82) 1 [.fh f a76.Label.i a76.Label.off a76.Label.len 1]) = ((s.2.2.set (0 + (y23 : Int).toNat) (NamedR.mk a82.ID a76.Label)).map (NamedR.enc f)), 0 ≤ (y43 : Int), (y43 : Int) < (((s.2.2.map (NamedR.enc f)).length : Nat) : Int), ((s.2.2.set (0 + (y23 : Int).toNat) (NamedR.mk a82.ID a76.Label)).map (NamedR.enc f))[(0 + (y43 : Int).toNat)]? = some ((NamedR.enc f) a85), 1 = 1, 1 + 1 ≤ ((NamedR.enc f) a85).length, ((s.2.2.set (0 + (y23 : Int).toNat) (NamedR.mk a82.ID a76.Label)).map (NamedR.enc f)).set (0 + (y43 : Int).toNat) (splice ((NamedR.enc f) a85) 1 [.fh f a79.Label.i a79.Label.off a79.Label.len 1]) = (((s.2.2.set (0 + (y23 : Int).toNat) (NamedR.mk a82.ID a76.Label)).set (0 + (y43 : Int).toNat) (NamedR.mk a85.ID a79.Label)).map (NamedR.enc f))]))
       (by kernel_rfl) (All_append.2 ⟨k51, ⟨h52, h75.1, lenLt h75.2, rowOb h77, h78.1, lenLt h78.2, rowOb h80, h81.1, lenLt h81.2, rowOb h83, rfl, Nat.le_of_ble_eq_true rfl, setOb (f := (NamedR.enc f)) (x := (NamedR.mk a82.ID a76.Label)), h84.1, lenLt h84.2, rowOb h86, rfl, Nat.le_of_ble_eq_true rfl, setOb (f := (NamedR.enc f)) (x := (NamedR.mk a85.ID a79.Label)), trivial⟩⟩) ?_
      refine WK.eq (σ' := r7Bent.l0.enc f c14 ((IntKind.i64.wrap (s.1 + 1)), s.2.1, ((s.2.2.set (0 + (y23 : Int).toNat) (NamedR.mk a82.ID a76.Label)).set (0 + (y43 : Int).toNat) (NamedR.mk a85.ID a79.Label)))) (by simp only [r7Bent.l0.enc, List.length_map, List.length_set]) ?_
      exact hn
    ·refine getR_ok hx fun a87 h88 h89 hx => ?_
     refine bd_ok hx fun y90 e91 hx => ?_
     let Q92 : List Prop := (Q37 ++ [(y31 == ((a34.Label.len : Nat) : Int)) = false, 0 ≤ (s.1 : Int), (c14.map A3_Int.enc)[(s.1 : Int).toNat]? = some (A3_Int.enc a87), (A3_Int.enc a87).length = 3, (0 : Int) ≤ 2, (2 : Int) < ((3 : Nat) : Int), Spec Try.prog 56 [.pv (.int .i64 a87.x2), .pv (.int .i64 3)] [] (.pv (.int .i64 y90)) []])
     have k93 : All Q92 := (All_append.2 ⟨k38, ⟨h39, h88, rowOb h89, rfl, by decide, by decide, r7pick.ok a87.x2 3 e91, trivial⟩⟩)
     refine br_ok hx (fun h94 hx => ?_) (fun h94 hx => ?_)
     ·refine gd_ok hx fun h95 hx => ?_
      refine bd_ok hx fun a96 h97 hx => ?_
      refine getR_ok hx fun a98 h99 h100 hx => ?_
      refine bd_ok hx fun y101 e102 hx => ?_
      refine gd_ok hx fun h103 hx => ?_
      refine bd_ok hx fun a104 h106 hx => ?_
      refine bd_ok hx fun a105 h107 hx => ?_
      obtain rfl := sI hx
      exact WK.run (an := (A36 ++ [.br false, .reg [(2, none, .row (A3_Int.enc a87)), (5, none, .call [] [] (.pv (.int .i64 y90)) [] [])], .br true, .draw [0, 1, 2, 3, 4, 5, 6, 7, 8, 9, 10, 11, 12, 13, 14] [(4, none, .row ((NamedR.enc f) a96)), (8, none, .row (A3_Int.enc a98)), (11, none, .call [] [] (.pv (.int .i64 y101)) [] []), (14, none, .frows 3 (a104.map eInt) (eInt a105) ((s.2.1.set a96.Label.i (a104.set (a96.Label.off + (y31 : Int).toNat) (IntKind.i64.wrap (y101 - 2)))).map (List.map eInt)))], .reg []])) (kt := [1, 5, 7]) (ko := [(3, 3), (101, 101)]) (ps := (Q92 ++ [(y90 == 0) = true, 0 ≤ (y23 : Int), (y23 : Int) < (((s.2.2.map (NamedR.enc f)).length : Nat) : Int), (s.2.2.map (NamedR.enc f))[(0 + (y23 : Int).toNat)]? = some ((NamedR.enc f) a96), 0 ≤ (s.1 : Int), (c14.map A3_Int.enc)[(s.1 : Int).toNat]? = some (A3_Int.enc a98), (A3_Int.enc a98).length = 3, (0 : Int) ≤ 2, (2 : Int) < ((3 : Nat) : Int), Spec Try.prog 56 [.pv (.int .i64 a98.x2), .pv (.int .i64 12)] [] (.pv (.int .i64 y101)) [], 0 ≤ (y31 : Int), (y31 : Int) < ((a96.Label.len : Nat) : Int), f = f, (s.2.1.map (List.map eInt))[a96.Label.i]? = some (a104.map eInt), (a104.map eInt)[(a96.Label.off + (y31 : Int).toNat)]? = some (eInt a105), 1 = 1, 0 + 1 ≤ (eInt a105).length, (s.2.1.map (List.map eInt)).set a96.Label.i ((a104.map eInt).set (a96.Label.off + (y31 : Int).toNat) (splice (eInt a105) 0 [.int .i64 (IntKind.i64.wrap (y101 - 2))])) = ((s.2.1.set a96.Label.i (a104.set (a96.Label.off + (y31 : Int).toNat) (IntKind.i64.wrap (y101 - 2)))).map (List.map eInt))])) (by kernel_rfl) (All_append.2 ⟨k93, ⟨h94, h95.1, lenLt h95.2, rowOb h97, h99, rowOb h100, rfl, by decide, by decide, r7pick.ok a98.x2 12 e102, h103.1, h103.2, rfl, memGet h106, rowOb h107, rfl, Nat.le_of_ble_eq_true rfl, memSet (f := eInt) (y := (IntKind.i64.wrap (y101 - 2))) rfl, trivial⟩⟩) hn
     ·refine gd_ok hx fun h108 hx => ?_
      refine bd_ok hx fun a109 h110 hx => ?_
      refine gd_ok hx fun h111 hx => ?_
      refine bd_ok hx fun a112 h113 hx => ?_
      refine gd_ok hx fun h114 hx => ?_
      refine bd_ok hx fun a115 h117 hx => ?_
      refine bd_ok hx fun a116 h118 hx => ?_
      refine getR_ok hx fun a119 h120 h121 hx => ?_
      refine bd_ok hx fun y122 e123 hx => ?_
      refine gd_ok hx fun h124 hx => ?_
      refine bd_ok hx fun a125 h127 hx => ?_
      refine bd_ok hx fun a126 h128 hx => ?_
      obtain rfl := sI hx
      exact WK.run (an := (A36 ++ [.br false, .reg [(2, none, .row (A3_Int.enc a87)), (5, none, .call [] [] (.pv (.int .i64 y90)) [] [])], .br false, .draw [0, 1, 2, 3, 4, 5, 6, 7, 8, 9, 10, 11, 12, 13, 14, 15, 16, 17, 18, 19, 20, 21, 22, 23] [(4, none, .row ((NamedR.enc f) a109)), (10, none, .row ((NamedR.enc f) a112)), (13, none, .frow 3 (a115.map eInt) (eInt a116)), (16, none, .row (A3_Int.enc a119)), (19, none, .call [] [] (.pv (.int .i64 y122)) [] []), (23, none, .frows 3 (a125.map eInt) (eInt a126) ((s.2.1.set a109.Label.i (a125.set (a109.Label.off + (y31 : Int).toNat) (IntKind.i64.wrap ((IntKind.i64.wrap (a116 + y122)) - 2)))).map (List.map eInt)))], .reg []])) (kt := [1, 5, 7]) (ko := [(3, 3), (101, 101)]) (ps := (Q92 ++ [(y90 == 0) = false, 0 ≤ (y23 : Int), (y23 : Int) < (((s.2.2.map (NamedR.enc f)).length : Nat) : Int), (s.2.2.map (NamedR.enc f))[(0 + (y23 : Int).toNat)]? = some ((NamedR.enc f) a109), 0 ≤ (y23 : Int), (y23 : Int) < (((s.2.2.map (NamedR.enc f)).length : Nat) : Int), (s.2.2.map (NamedR.enc f))[(0 + (y23 : Int).toNat)]? = some ((NamedR.enc f) a112), 0 ≤ (y31 : Int), (y31 : Int) < ((a112.Label.len : Nat) : Int), f = f, (s.2.1.map (List.map eInt))[a112.Label.i]? = some (a115.map eInt), (a115.map eInt)[(a112.Label.off + (y31 : Int).toNat)]? = some (eInt a116), 0 ≤ (s.1 : Int), (c14.map A3_Int.enc)[(s.1 : Int).toNat]? = some (A3_Int.enc a119), (A3_Int.enc a119).length = 3, (0 : Int) ≤ 2, (2 : Int) < ((3 : Nat) : Int), Spec Try.prog 56 [.pv (.int .i64 a119.x2), .pv (.int .i64 5)] [] (.pv (.int .i64 y122)) [], 0 ≤ (y31 : Int), (y31 : Int) < ((a109.Label.len : Nat) : Int), f = f, (s.2.1.map (List.map eInt))[a109.Label.i]? = some (a125.map eInt), (a125.map eInt)[(a109.Label.off + (y31 : Int).toNat)]? = some (eInt a126), 1 = 1, 0 + 1 ≤ (eInt a126).length, (s.2.1.map (List.map eInt)).set a109.Label.i ((a125.map eInt).set (a109.Label.off + (y31 : Int).toNat) (splice (eInt a126) 0 [.int .i64 (IntKind.i64.wrap ((IntKind.i64.wrap (a116 + y122)) - 2))])) = ((s.2.1.set a109.Label.i (a125.set (a109.Label.off + (y31 : Int).toNat) (IntKind.i64.wrap ((IntKind.i64.wrap (a116 + y122)) - 2)))).map (List.map eInt))])) (by kernel_rfl) (All_append.2 ⟨k93, ⟨h94, h108.1, lenLt h108.2, rowOb h110, h111.1, lenLt h111.2, rowOb h113, h114.1, h114.2, rfl, memGet h117, rowOb h118, h120, rowOb h121, rfl, by decide, by decide, r7pick.ok a119.x2 5 e123, h124.1, h124.2, rfl, memGet h127, rowOb h128, rfl, Nat.le_of_ble_eq_true rfl, memSet (f := eInt) (y := (IntKind.i64.wrap ((IntKind.i64.wrap (a116 + y122)) - 2))) rfl, trivial⟩⟩) hn
   ·obtain rfl := sI hx
    exact WK.run (an := [.lp, .reg [(2, none, .val (.pv (.int .i64 ((c14.length : Nat) : Int)))), (5, some true, .no), (9, some true, .no), (10, none, .val (.pv (.int .i64 ((s.2.2.length : Nat) : Int))))], .br false]) (kt := [5]) (ko := [(3, 3), (101, 101)]) (ps := (Q17 ++ [(decide (((s.2.2.length : Nat) : Int) > 0)) = false])) (by kernel_rfl) (All_append.2 ⟨k18, ⟨h19, trivial⟩⟩) hn
  ·obtain rfl := sI hx
   exact WK.run (an := [.lp, .reg [(2, none, .val (.pv (.int .i64 ((c14.length : Nat) : Int)))), (5, some true, .no), (9, some false, .no)], .bk]) (kt := [5]) (ko := [(3, 3), (101, 101)]) (ps := [AV.pv (.int .i64 ((c14.map A3_Int.enc).length : Nat)) = .pv (.int .i64 (c14.length : Nat)), (decide (s.1 < ((c14.length : Nat) : Int))) = true, (decide (s.1 < 4)) = false]) (by kernel_rfl) ⟨lenOb, h15, h16, trivial⟩ hn
 ·obtain rfl := sI hx
  exact WK.run (an := [.lp, .reg [(2, none, .val (.pv (.int .i64 ((c14.length : Nat) : Int)))), (5, some false, .no)], .bk]) (kt := [5]) (ko := [(3, 3), (101, 101)]) (ps := [AV.pv (.int .i64 ((c14.map A3_Int.enc).length : Nat)) = .pv (.int .i64 (c14.length : Nat)), (decide (s.1 < ((c14.length : Nat) : Int))) = false]) (by kernel_rfl) ⟨lenOb, h15, trivial⟩ hn
noncomputable def r7Bent.l1 (c3 : List Named) (c4 : List A3_Int) (s : Int × (List (List Int)) × (List NamedR)) : Option (Nx (Int × (List (List Int)) × (List NamedR)) ((List (List Int)) × (List NamedR))) :=
 br (decide (s.1 < ((c3.length : Nat) : Int))) (
  getR c3 s.1 fun a6 =>
  getR c3 s.1 fun a9 =>
  gd (a9.Label.length ≤ bigLen) <|
  gd ((s.2.2 ++ [(NamedR.mk a6.ID (Ref.mk s.2.1.length 0 ((a9.Label.map eInt).length)))]).length ≤ bigLen) <|
  some (.cont ((IntKind.i64.wrap (s.1 + 1)), (s.2.1 ++ [a9.Label]), (s.2.2 ++ [(NamedR.mk a6.ID (Ref.mk s.2.1.length 0 ((a9.Label.map eInt).length)))])))) (
  bd (loopN fuel (r7Bent.l0 c4) (0, s.2.1, s.2.2)) fun q14 =>
  some (.done (q14.1, q14.2)))
abbrev r7Bent.l1.enc (f : Nat) (c3 : List Named) (c4 : List A3_Int) (s : Int × (List (List Int)) × (List NamedR)) : St := ⟨171, [(0, .pv (.sl (c3.map Named.enc))), (1, .pv (.sl (c4.map A3_Int.enc))), (5, .hd 101 0 ((s.2.2.map (NamedR.enc f)).length) 2), (6, .pv (.int .i64 s.1))], [(3, .fam false f 1 (s.2.1.map (List.map eInt))), (101, .sl false 2 (s.2.2.map (NamedR.enc f)))]⟩
abbrev r7Bent.l1.post (f : Nat) (c3 : List Named) (c4 : List A3_Int) (r : AV) (outs : List AObj) (q : ((List (List Int)) × (List NamedR))) : Prop := WK Try.prog (28, 0) [.code (sub b28 [1, 1, 1, 1, 0]), .code (sub b28 [1, 1, 1, 1, 1])] ⟨171, [(5, .hd 101 0 ((q.2.map (NamedR.enc f)).length) 2)], [(3, .fam false f 1 (q.1.map (List.map eInt))), (101, .sl false 2 (q.2.map (NamedR.enc f)))]⟩ r outs
theorem r7Bent.l1.ok (f : Nat) (c3 : List Named) (c4 : List A3_Int) (r : AV) (outs : List AObj) (s : Int × (List (List Int)) × (List NamedR)) (q : ((List (List Int)) × (List NamedR))) (h : loopN fuel (r7Bent.l1 c3 c4) s = some q) (hd : r7Bent.l1.post f c3 c4 r outs q) :
  WK Try.prog (28, 0) [.inLoop (sub b28 [1, 1, 0, 1, 0, 0]), .inBlock 0, .code (sub b28 [1, 1, 1])] (r7Bent.l1.enc f c3 c4 s) r outs := by
 refine WK.loop (r7Bent.l1.enc f c3 c4) (r7Bent.l1 c3 c4) (r7Bent.l1.post f c3 c4 r outs) ?_ fuel s q h hd
 intro s x hx hn
 unfold r7Bent.l1 at hx
 refine br_ok hx (fun h5 hx => ?_) (fun h5 hx => ?_)
 ·refine getR_ok hx fun a6 h7 h8 hx => ?_
  refine getR_ok hx fun a9 h10 h11 hx => ?_
  refine gd_ok hx fun h12 hx => ?_
  refine gd_ok hx fun h13 hx => ?_
  obtain rfl := sI hx
  exact WK.run (an := [.lp, .reg [(2, none, .val (.pv (.int .i64 ((c3.length : Nat) : Int))))], .br true, .draw [0, 1, 2, 3, 4, 5, 6, 7, 8, 9, 10, 11, 12, 13, 14, 15, 16] [(3, none, .row (Named.enc a6)), (6, none, .nm 1013), (9, none, .row (Named.enc a9)), (12, none, .mi 3 1015 s.2.1.length ((s.2.1 ++ [a9.Label]).map (List.map eInt)) (.app 1015 (a9.Label.map eInt))), (14, none, .nm 1017), (15, none, .app 1019 ((s.2.2 ++ [(NamedR.mk a6.ID (Ref.mk s.2.1.length 0 ((a9.Label.map eInt).length)))]).map (NamedR.enc f)))], .reg []]) (kt := [0, 1, 5, 6]) (ko := [(3, 3), (1019, 101)]) (ps := [AV.pv (.int .i64 ((c3.map Named.enc).length : Nat)) = .pv (.int .i64 (c3.length : Nat)), (decide (s.1 < ((c3.length : Nat) : Int))) = true, 0 ≤ (s.1 : Int), (c3.map Named.enc)[(s.1 : Int).toNat]? = some (Named.enc a6), (Named.enc a6).length = 2, 1 = 1, 0 ≤ (s.1 : Int), (c3.map Named.enc)[(s.1 : Int).toNat]? = some (Named.enc a9), (Named.enc a9).length = 2, 0 + 0 = ([].map eInt).length, ([].map eInt).drop 0 ++ (a9.Label.map eInt) = (a9.Label.map eInt), (a9.Label.map eInt).length ≤ bigLen, ∀ r ∈ (a9.Label.map eInt), r.length = 1, (s.2.1.map (List.map eInt)).length = s.2.1.length, (s.2.1.map (List.map eInt)) ++ [(a9.Label.map eInt)] = ((s.2.1 ++ [a9.Label]).map (List.map eInt)), (a9.Label.map eInt).length = (a9.Label.map eInt).length, 2 = 2, 2 = 2, 0 + 1 ≤ ([(NamedR.mk a6.ID (Ref.mk s.2.1.length 0 ((a9.Label.map eInt).length)))].map (NamedR.enc f)).length, 0 + ((s.2.2.map (NamedR.enc f)).length) = (s.2.2.map (NamedR.enc f)).length, (s.2.2.map (NamedR.enc f)).drop 0 ++ (cut1 ([(NamedR.mk a6.ID (Ref.mk s.2.1.length 0 ((a9.Label.map eInt).length)))].map (NamedR.enc f)) 0 1) = ((s.2.2 ++ [(NamedR.mk a6.ID (Ref.mk s.2.1.length 0 ((a9.Label.map eInt).length)))]).map (NamedR.enc f)), ((s.2.2 ++ [(NamedR.mk a6.ID (Ref.mk s.2.1.length 0 ((a9.Label.map eInt).length)))]).map (NamedR.enc f)).length ≤ bigLen, ∀ r ∈ (cut1 ([(NamedR.mk a6.ID (Ref.mk s.2.1.length 0 ((a9.Label.map eInt).length)))].map (NamedR.enc f)) 0 1), r.length = 2]) (by kernel_rfl) ⟨lenOb, h5, h7, rowOb h8, rfl, rfl, h10, rowOb h11, rfl, Nat.zero_add _, by simp [cut1, List.take_of_length_le], bigOb h12, map_len fun _ => rfl, memLen, memApp rfl, rfl, rfl, rfl, Nat.le_of_eq (Nat.zero_add _), Nat.zero_add _, by simp [cut1, List.take_of_length_le], bigOb h13, one_len rfl, trivial⟩ hn
 ·refine bd_ok hx fun q14 e15 hx => ?_
  refine WK.run (an := [.lp, .reg [(2, none, .val (.pv (.int .i64 ((c3.length : Nat) : Int))))], .br false, .reg []]) (kt := [1, 5, 7]) (ko := [(3, 3), (101, 101)]) (ps := [AV.pv (.int .i64 ((c3.map Named.enc).length : Nat)) = .pv (.int .i64 (c3.length : Nat)), (decide (s.1 < ((c3.length : Nat) : Int))) = false]) (by kernel_rfl) ⟨lenOb, h5, trivial⟩ (WK.enterLoop (r7Bent.l0.ok f c4 _ _ _ _ e15 ?_))
  obtain rfl := sI hx
  exact WK.run (an := []) (kt := [5]) (ko := [(3, 3), (101, 101)]) (ps := []) (by kernel_rfl) trivial hn
noncomputable def r7Bent (v1 : List Named) (v2 : List A3_Int) : Option (List Named) :=
 bd (loopN fuel (r7Bent.l1 v1 v2) (0, [], [])) fun q16 =>
 bd (mapO (fun x => bd (resRef q16.1 x.Label) fun y18 => some ((Named.mk x.ID y18) : Named)) q16.2) fun l20 =>
 some l20
theorem r7Bent.ok (v1 : List Named) (v2 : List A3_Int) {x : (List Named)} (hx : r7Bent v1 v2 = some x) :
  Spec Try.prog 28 [.pv (.sl (v1.map Named.enc)), .pv (.sl (v2.map A3_Int.enc))] [] (.pv (.sl (x.map Named.enc))) [] := by
 refine Spec.of (c := b28) Try.func28 rfl rfl rfl ?_
 refine WK.birth 3 1 rfl (by decide) (by decide) fun f => ?_
 unfold r7Bent at hx
 refine bd_ok hx fun q16 e17 hx => ?_
 refine WK.run (an := [.reg [(0, none, .val (.pv (.sl ([].map Named.enc))))], .new 1003 2, .reg [(0, none, .val (.hd 1003 0 0 2))], .reg []]) (kt := [0, 1, 5, 6]) (ko := [(3, 3), (1003, 101)]) (ps := []) (by kernel_rfl) trivial (WK.enterLoop (r7Bent.l1.ok f v1 v2 _ _ _ _ e17 ?_))
 refine bd_ok hx fun l20 h21 hx => ?_
 obtain rfl := sI hx
 refine WK.run (an := [.reg []]) (kt := [4]) (ko := [(3, 3), (101, 101)]) (k' := [.code (sub b28 [1, 1, 1, 1, 1])]) (σ' := ⟨171, [(4, .hd 101 0 ((q16.2.map (NamedR.enc f)).length) 2)], [(3, .fam false f 1 (q16.1.map (List.map eInt))), (101, .sl false 2 (q16.2.map (NamedR.enc f)))]⟩) (ps := [])
  (by kernel_rfl) trivial ?_
 refine WK.ffz 3 (f := f) (sz := 1) (mem := (q16.1.map (List.map eInt))) rfl ?_
 refine WK.tell 3 101 (.sl false 2 (l20.map Named.enc)) (f := f) (sz := 1) (mem := (q16.1.map (List.map eInt))) (o := .sl false 2 (q16.2.map (NamedR.enc f))) rfl rfl (TellO.sl _ _ _ _ (tellOb h21 (fun x y hy => by refine bd_ok hy fun y18 h19 hy => ?_; cases hy; exact tellCons (.same _) (tellCons (resOb h19) (tellNil))))) ?_
 exact WK.ret (fn := Try.f28) Try.func28 (frz := [101]) (esc := []) (ps := [(q16.2.map (NamedR.enc f)).length = (l20.map Named.enc).length]) (by kernel_rfl) ⟨by rw [List.length_map, List.length_map]; exact (mapO_get h21).1, trivial⟩
noncomputable abbrev b22 : Code := body Try.f22
noncomputable def forest_CheckPath.l0 (c11 : Int) (c12 : List Int) (c13 : Int) (c14 : List Vertex) (c15 : List Edge) (c16 : List Int) (s : Int × Int) : Option (Nx (Int × Int) (Unit ⊕ Int)) :=
 br (decide (s.2 < c13)) (
  getR c12 s.2 fun a18 =>
  bd (forest_step (Graph.mk c14 c15 c16) s.1 a18) fun y21 =>
  br (decide (y21 < 0)) (
   some (.done (.inl ()))) (
   some (.cont (y21, (IntKind.i64.wrap (s.2 + 1)))))) (
  some (.done (.inr s.1)))
abbrev forest_CheckPath.l0.enc (c11 : Int) (c12 : List Int) (c13 : Int) (c14 : List Vertex) (c15 : List Edge) (c16 : List Int) (s : Int × Int) : St := ⟨38, [(1, .pv (.int .i64 s.1)), (2, .pv (.int .i64 c11)), (4, .ref 101 0 0 0), (22, .pv (.sl (c12.map eInt))), (23, .pv (.int .i64 c13)), (24, .pv (.int .i64 s.2))], [(101, .varp [.sl (c14.map Vertex.enc), .sl (c15.map Edge.enc), .sl (c16.map eInt)])]⟩
abbrev forest_CheckPath.l0.post (c11 : Int) (c12 : List Int) (c13 : Int) (c14 : List Vertex) (c15 : List Edge) (c16 : List Int) (r : AV) (outs : List AObj) (q : Unit ⊕ Int) : Prop := match q with | .inl q => WK Try.prog (22, 0) [.code (sub b22 [1, 1, 0, 1, 0, 0, 1, 1, 0, 0, 1, 1, 1, 0, 1]), .inBlock 1, .code (sub b22 [1, 1, 0, 1, 0, 0, 1, 1, 1]), .inLoop (sub b22 [1, 1, 0, 1, 0, 0]), .inBlock 0, .code (sub b22 [1, 1, 1])] ⟨38, [(8, .pv (.bool false))], []⟩ r outs | .inr q => WK Try.prog (22, 0) [.code (sub b22 [1, 1, 1, 0]), .code (sub b22 [1, 1, 1, 1])] ⟨38, [(1, .pv (.int .i64 q)), (2, .pv (.int .i64 c11))], []⟩ r outs
theorem forest_CheckPath.l0.ok (c11 : Int) (c12 : List Int) (c13 : Int) (c14 : List Vertex) (c15 : List Edge) (c16 : List Int) (r : AV) (outs : List AObj) (s : Int × Int) (q : Unit ⊕ Int) (h : loopN fuel (forest_CheckPath.l0 c11 c12 c13 c14 c15 c16) s = some q) (hd : forest_CheckPath.l0.post c11 c12 c13 c14 c15 c16 r outs q) :
  WK Try.prog (22, 0) [.inLoop (sub b22 [1, 1, 0, 1, 0, 0]), .inBlock 0, .code (sub b22 [1, 1, 1])] (forest_CheckPath.l0.enc c11 c12 c13 c14 c15 c16 s) r outs := by
 refine WK.loop (forest_CheckPath.l0.enc c11 c12 c13 c14 c15 c16) (forest_CheckPath.l0 c11 c12 c13 c14 c15 c16) (forest_CheckPath.l0.post c11 c12 c13 c14 c15 c16 r outs) ?_ fuel s q h hd
 intro s x hx hn
 unfold forest_CheckPath.l0 at hx
 refine br_ok hx (fun h17 hx => ?_) (fun h17 hx => ?_)
 ·refine getR_ok hx fun a18 h19 h20 hx => ?_
  refine bd_ok hx fun y21 e22 hx => ?_
  let Q23 : List Prop := [(decide (s.2 < c13)) = true, 0 ≤ (s.2 : Int), (c12.map eInt)[(s.2 : Int).toNat]? = some (eInt a18), (eInt a18).length = 1, Spec Try.prog 47 [.aggp [.sl (c14.map Vertex.enc), .sl (c15.map Edge.enc), .sl (c16.map eInt)], .pv (.int .i64 s.1), .pv (.int .i64 a18)] [] (.pv (.int .i64 y21)) []]
  have k24 : All Q23 := ⟨h17, h19, rowOb h20, rfl, forest_step.ok (Graph.mk c14 c15 c16) s.1 a18 e22, trivial⟩
  refine br_ok hx (fun h25 hx => ?_) (fun h25 hx => ?_)
  ·obtain rfl := sI hx
   exact WK.run (an := [.lp, .reg [], .br true, .reg [(0, none, .row (eInt a18))], .reg [(3, none, .call [] [] (.pv (.int .i64 y21)) [] [])], .reg [], .br true, .reg []]) (kt := [8]) (ko := []) (ps := (Q23 ++ [(decide (y21 < 0)) = true])) (by kernel_rfl) (All_append.2 ⟨k24, ⟨h25, trivial⟩⟩) hn
  ·obtain rfl := sI hx
   exact WK.run (an := [.lp, .reg [], .br true, .reg [(0, none, .row (eInt a18))], .reg [(3, none, .call [] [] (.pv (.int .i64 y21)) [] [])], .reg [], .br false, .reg []]) (kt := [1, 2, 4, 22, 23, 24]) (ko := [(101, 101)]) (ps := (Q23 ++ [(decide (y21 < 0)) = false])) (by kernel_rfl) (All_append.2 ⟨k24, ⟨h25, trivial⟩⟩) hn
 ·obtain rfl := sI hx
  exact WK.run (an := [.lp, .reg [], .br false]) (kt := [1, 2]) (ko := []) (ps := [(decide (s.2 < c13)) = false]) (by kernel_rfl) ⟨h17, trivial⟩ hn
noncomputable def forest_CheckPath (v1 : Graph) (v2 : Int) (v3 : Int) (v4 : List Int) : Option Bool :=
 bd (forest_known v1 [v2, v3]) fun y5 =>
 br (!y5) (
  some false) (
  br (decide (((v4.length : Nat) : Int) > 40)) (
   some false) (
   bd (loopN fuel (forest_CheckPath.l0 v3 v4 ((v4.length : Nat) : Int) v1.Vertices v1.Edges v1.Depots) (v2, 0)) fun q26 =>
   match q26 with
   | .inl q26 =>
    some false
   | .inr q26 =>
    some (q26 == v3)))
theorem forest_CheckPath.ok (v1 : Graph) (v2 : Int) (v3 : Int) (v4 : List Int) {x : Bool} (hx : forest_CheckPath v1 v2 v3 v4 = some x) :
  Spec Try.prog 22 [.aggp [.sl (v1.Vertices.map Vertex.enc), .sl (v1.Edges.map Edge.enc), .sl (v1.Depots.map eInt)], .pv (.int .i64 v2), .pv (.int .i64 v3), .pv (.sl (v4.map eInt))] [] (.pv (.bool x)) [] := by
 refine Spec.of (c := b22) Try.func22 rfl rfl rfl ?_
 unfold forest_CheckPath at hx
 refine bd_ok hx fun y5 e6 hx => ?_
 let Q7 : List Prop := [1 = 1, 1 = 1, 1 = 1, 2 = ([v2, v3].map eInt).length, Spec Try.prog 45 [.aggp [.sl (v1.Vertices.map Vertex.enc), .sl (v1.Edges.map Edge.enc), .sl (v1.Depots.map eInt)], .pv (.sl ([v2, v3].map eInt))] [] (.pv (.bool y5)) []]
 have k8 : All Q7 := ⟨rfl, rfl, rfl, rfl, forest_known.ok v1 [v2, v3] e6, trivial⟩
 refine br_ok hx (fun h9 hx => ?_) (fun h9 hx => ?_)
 ·obtain rfl := sI hx
  exact WK.fin (fn := Try.f22) Try.func22 (an := [.reg [(0, none, .nm 1003)], .reg [(3, none, .nm 1005), (4, none, .call [1005] [] (.pv (.bool y5)) [] []), (7, some true, .no)], .bk, .reg []]) (kt := [8]) (ko := []) (frz := []) (ps := (Q7 ++ [(!y5) = true])) (qs := []) (by kernel_rfl) (All_append.2 ⟨k8, ⟨h9, trivial⟩⟩) trivial
 ·refine br_ok hx (fun h10 hx => ?_) (fun h10 hx => ?_)
  ·obtain rfl := sI hx
   exact WK.fin (fn := Try.f22) Try.func22 (an := [.reg [(0, none, .nm 1003)], .reg [(3, none, .nm 1005), (4, none, .call [1005] [] (.pv (.bool y5)) [] []), (7, some false, .no), (8, none, .val (.pv (.int .i64 ((v4.length : Nat) : Int))))], .br true, .reg []]) (kt := [8]) (ko := []) (frz := []) (ps := (Q7 ++ [(!y5) = false, AV.pv (.int .i64 ((v4.map eInt).length : Nat)) = .pv (.int .i64 (v4.length : Nat)), (decide (((v4.length : Nat) : Int) > 40)) = true])) (qs := []) (by kernel_rfl) (All_append.2 ⟨k8, ⟨h9, lenOb, h10, trivial⟩⟩) trivial
  ·refine bd_ok hx fun q26 e27 hx => ?_
   refine WK.run (an := [.reg [(0, none, .nm 1003)], .reg [(3, none, .nm 1005), (4, none, .call [1005] [] (.pv (.bool y5)) [] []), (7, some false, .no), (8, none, .val (.pv (.int .i64 ((v4.length : Nat) : Int))))], .br false, .reg [(1, none, .val (.pv (.int .i64 ((v4.length : Nat) : Int))))]]) (kt := [1, 2, 4, 22, 23, 24]) (ko := [(1003, 101)]) (ps := (Q7 ++ [(!y5) = false, AV.pv (.int .i64 ((v4.map eInt).length : Nat)) = .pv (.int .i64 (v4.length : Nat)), (decide (((v4.length : Nat) : Int) > 40)) = false, AV.pv (.int .i64 ((v4.map eInt).length : Nat)) = .pv (.int .i64 (v4.length : Nat))])) (by kernel_rfl) (All_append.2 ⟨k8, ⟨h9, lenOb, h10, lenOb, trivial⟩⟩) (WK.enterLoop (forest_CheckPath.l0.ok v3 v4 ((v4.length : Nat) : Int) v1.Vertices v1.Edges v1.Depots _ _ _ _ e27 ?_))
   rcases q26 with (q26 | q26)
   ·obtain rfl := sI hx
    exact WK.fin (fn := Try.f22) Try.func22 (an := []) (kt := [8]) (ko := []) (frz := []) (ps := []) (qs := []) (by kernel_rfl) trivial trivial
   ·obtain rfl := sI hx
    exact WK.fin (fn := Try.f22) Try.func22 (an := [.reg []]) (kt := [8]) (ko := []) (frz := []) (ps := []) (qs := []) (by kernel_rfl) trivial trivial
noncomputable abbrev b78 : Code := body Try.f78
noncomputable def sIndex_int_int.l0 (c3 : List Int) (c4 : Int) (c5 : Int) (s : Int) : Option (Nx Int (Int ⊕ Unit)) :=
 br (decide (s < c5)) (
  getR c3 s fun a7 =>
  br (c4 == a7) (
   some (.done (.inl s))) (
   some (.cont (IntKind.i64.wrap (s + 1))))) (
  some (.done (.inr ())))
abbrev sIndex_int_int.l0.enc (c3 : List Int) (c4 : Int) (c5 : Int) (s : Int) : St := ⟨19, [(0, .pv (.sl (c3.map eInt))), (1, .pv (.int .i64 c4)), (7, .pv (.int .i64 c5)), (8, .pv (.int .i64 s))], []⟩
abbrev sIndex_int_int.l0.post (c3 : List Int) (c4 : Int) (c5 : Int) (r : AV) (outs : List AObj) (q : Int ⊕ Unit) : Prop := match q with | .inl q => WK Try.prog (78, 0) [.code (sub b78 [1, 0, 1, 0, 0, 1, 1, 0, 0, 1, 1, 0, 1]), .inBlock 1, .code (sub b78 [1, 0, 1, 0, 0, 1, 1, 1]), .inLoop (sub b78 [1, 0, 1, 0, 0]), .inBlock 0, .code (sub b78 [1, 1])] ⟨19, [(4, .pv (.int .i64 q))], []⟩ r outs | .inr q => WK Try.prog (78, 0) [.code (sub b78 [1, 1, 0]), .code (sub b78 [1, 1, 1])] ⟨19, [], []⟩ r outs
theorem sIndex_int_int.l0.ok (c3 : List Int) (c4 : Int) (c5 : Int) (r : AV) (outs : List AObj) (s : Int) (q : Int ⊕ Unit) (h : loopN fuel (sIndex_int_int.l0 c3 c4 c5) s = some q) (hd : sIndex_int_int.l0.post c3 c4 c5 r outs q) :
  WK Try.prog (78, 0) [.inLoop (sub b78 [1, 0, 1, 0, 0]), .inBlock 0, .code (sub b78 [1, 1])] (sIndex_int_int.l0.enc c3 c4 c5 s) r outs := by
 refine WK.loop (sIndex_int_int.l0.enc c3 c4 c5) (sIndex_int_int.l0 c3 c4 c5) (sIndex_int_int.l0.post c3 c4 c5 r outs) ?_ fuel s q h hd
 intro s x hx hn
 unfold sIndex_int_int.l0 at hx
 refine br_ok hx (fun h6 hx => ?_) (fun h6 hx => ?_)
 ·refine getR_ok hx fun a7 h8 h9 hx => ?_
  refine br_ok hx (fun h10 hx => ?_) (fun h10 hx => ?_)
  ·obtain rfl := sI hx
   exact WK.run (an := [.lp, .reg [], .br true, .reg [], .reg [(3, none, .row (eInt a7))], .br true, .reg []]) (kt := [4]) (ko := []) (ps := [(decide (s < c5)) = true, 0 ≤ (s : Int), (c3.map eInt)[(s : Int).toNat]? = some (eInt a7), (eInt a7).length = 1, (c4 == a7) = true]) (by kernel_rfl) ⟨h6, h8, rowOb h9, rfl, h10, trivial⟩ hn
  ·obtain rfl := sI hx
   exact WK.run (an := [.lp, .reg [], .br true, .reg [], .reg [(3, none, .row (eInt a7))], .br false, .reg []]) (kt := [0, 1, 7, 8]) (ko := []) (ps := [(decide (s < c5)) = true, 0 ≤ (s : Int), (c3.map eInt)[(s : Int).toNat]? = some (eInt a7), (eInt a7).length = 1, (c4 == a7) = false]) (by kernel_rfl) ⟨h6, h8, rowOb h9, rfl, h10, trivial⟩ hn
 ·obtain rfl := sI hx
  exact WK.run (an := [.lp, .reg [], .br false]) (kt := []) (ko := []) (ps := [(decide (s < c5)) = false]) (by kernel_rfl) ⟨h6, trivial⟩ hn
noncomputable def sIndex_int_int (v1 : List Int) (v2 : Int) : Option Int :=
 bd (loopN fuel (sIndex_int_int.l0 v1 v2 ((v1.length : Nat) : Int)) 0) fun q11 =>
 match q11 with
 | .inl q11 =>
  some q11
 | .inr q11 =>
  some (-1)
theorem sIndex_int_int.ok (v1 : List Int) (v2 : Int) {x : Int} (hx : sIndex_int_int v1 v2 = some x) :
  Spec Try.prog 78 [.pv (.sl (v1.map eInt)), .pv (.int .i64 v2)] [] (.pv (.int .i64 x)) [] := by
 refine Spec.of (c := b78) Try.func78 rfl rfl rfl ?_
 unfold sIndex_int_int at hx
 refine bd_ok hx fun q11 e12 hx => ?_
 refine WK.run (an := [.reg [], .reg [(1, none, .val (.pv (.int .i64 ((v1.length : Nat) : Int))))]]) (kt := [0, 1, 7, 8]) (ko := []) (ps := [AV.pv (.int .i64 ((v1.map eInt).length : Nat)) = .pv (.int .i64 (v1.length : Nat))]) (by kernel_rfl) ⟨lenOb, trivial⟩ (WK.enterLoop (sIndex_int_int.l0.ok v1 v2 ((v1.length : Nat) : Int) _ _ _ _ e12 ?_))
 rcases q11 with (q11 | q11)
 ·obtain rfl := sI hx
  exact WK.fin (fn := Try.f78) Try.func78 (an := []) (kt := [4]) (ko := []) (frz := []) (ps := []) (qs := []) (by kernel_rfl) trivial trivial
 ·obtain rfl := sI hx
  exact WK.fin (fn := Try.f78) Try.func78 (an := [.reg []]) (kt := [4]) (ko := []) (frz := []) (ps := []) (qs := []) (by kernel_rfl) trivial trivial
noncomputable abbrev b51 : Code := body Try.f51
noncomputable def sContains_int_int (v1 : List Int) (v2 : Int) : Option Bool :=
 bd (sIndex_int_int v1 v2) fun y3 =>
 some (decide (y3 ≥ 0))
theorem sContains_int_int.ok (v1 : List Int) (v2 : Int) {x : Bool} (hx : sContains_int_int v1 v2 = some x) :
  Spec Try.prog 51 [.pv (.sl (v1.map eInt)), .pv (.int .i64 v2)] [] (.pv (.bool x)) [] := by
 refine Spec.of (c := b51) Try.func51 rfl rfl rfl ?_
 unfold sContains_int_int at hx
 refine bd_ok hx fun y3 e4 hx => ?_
 obtain rfl := sI hx
 exact WK.fin (fn := Try.f51) Try.func51 (an := [.reg [], .reg [(2, none, .call [] [] (.pv (.int .i64 y3)) [] [])]]) (kt := [4]) (ko := []) (frz := []) (ps := [Spec Try.prog 78 [.pv (.sl (v1.map eInt)), .pv (.int .i64 v2)] [] (.pv (.int .i64 y3)) []]) (qs := []) (by kernel_rfl) ⟨sIndex_int_int.ok v1 v2 e4, trivial⟩ trivial
noncomputable abbrev b52 : Code := body Try.f52
noncomputable def forest_CheckSide_1 (v1 : Edge) (v2 : List Int) : Option Bool :=
 bd (sContains_int_int v2 v1.From) fun y3 =>
 bd (sContains_int_int v2 v1.To) fun y5 =>
 some (!(y3 == y5))
theorem forest_CheckSide_1.ok (v1 : Edge) (v2 : List Int) {x : Bool} (hx : forest_CheckSide_1 v1 v2 = some x) :
  Spec Try.prog 52 [.aggp [.int .i64 v1.ID, .int .i64 v1.From, .int .i64 v1.To, .bool v1.Directed, .int .i64 v1.Weight, .int .i64 v1.Cap], .ref 0 0 0 0] [.varp [.sl (v2.map eInt)]] (.pv (.bool x)) [.varp [.sl (v2.map eInt)]] := by
 refine Spec.of (c := b52) Try.func52 rfl rfl rfl ?_
 unfold forest_CheckSide_1 at hx
 refine bd_ok hx fun y3 e4 hx => ?_
 refine bd_ok hx fun y5 e6 hx => ?_
 obtain rfl := sI hx
 exact WK.fin (fn := Try.f52) Try.func52 (an := [.reg [(0, none, .nm 1003)], .draw [0, 1, 2, 3, 4, 5, 6, 7, 8, 9] [(3, none, .call [] [] (.pv (.bool y3)) [] []), (7, none, .call [] [] (.pv (.bool y5)) [] [])]]) (kt := [3]) (ko := [(0, 0)]) (frz := []) (ps := [Spec Try.prog 51 [.pv (.sl (v2.map eInt)), .pv (.int .i64 v1.From)] [] (.pv (.bool y3)) [], Spec Try.prog 51 [.pv (.sl (v2.map eInt)), .pv (.int .i64 v1.To)] [] (.pv (.bool y5)) []]) (qs := []) (by kernel_rfl) ⟨sContains_int_int.ok v2 v1.From e4, sContains_int_int.ok v2 v1.To e6, trivial⟩ trivial
noncomputable def sIndexFuncEE_1.l0 (c3 : List Edge) (c4 : Int) (c5 : List Int) (s : Int) : Option (Nx Int (Int ⊕ Unit)) :=
 br (decide (s < c4)) (
  getR c3 s fun a7 =>
  bd (forest_CheckSide_1 a7 c5) fun y10 =>
  br y10 (
   some (.done (.inl s))) (
   some (.cont (IntKind.i64.wrap (s + 1))))) (
  some (.done (.inr ())))
abbrev sIndexFuncEE_1.l0.enc (c3 : List Edge) (c4 : Int) (c5 : List Int) (s : Int) : St := ⟨19, [(0, .pv (.sl (c3.map Edge.enc))), (1, .clo 52 [.ref 0 0 0 0]), (7, .pv (.int .i64 c4)), (8, .pv (.int .i64 s))], [(0, .varp [.sl (c5.map eInt)])]⟩
abbrev sIndexFuncEE_1.l0.post (c3 : List Edge) (c4 : Int) (c5 : List Int) (r : AV) (outs : List AObj) (q : Int ⊕ Unit) : Prop := match q with | .inl q => WK Try.prog (79, 1) [.code (sub b79 [1, 0, 1, 0, 0, 1, 1, 0, 0, 1, 1, 0, 1]), .inBlock 1, .code (sub b79 [1, 0, 1, 0, 0, 1, 1, 1]), .inLoop (sub b79 [1, 0, 1, 0, 0]), .inBlock 0, .code (sub b79 [1, 1])] ⟨19, [(4, .pv (.int .i64 q))], [(0, .varp [.sl (c5.map eInt)])]⟩ r outs | .inr q => WK Try.prog (79, 1) [.code (sub b79 [1, 1, 0]), .code (sub b79 [1, 1, 1])] ⟨19, [], [(0, .varp [.sl (c5.map eInt)])]⟩ r outs
theorem sIndexFuncEE_1.l0.ok (c3 : List Edge) (c4 : Int) (c5 : List Int) (r : AV) (outs : List AObj) (s : Int) (q : Int ⊕ Unit) (h : loopN fuel (sIndexFuncEE_1.l0 c3 c4 c5) s = some q) (hd : sIndexFuncEE_1.l0.post c3 c4 c5 r outs q) :
  WK Try.prog (79, 1) [.inLoop (sub b79 [1, 0, 1, 0, 0]), .inBlock 0, .code (sub b79 [1, 1])] (sIndexFuncEE_1.l0.enc c3 c4 c5 s) r outs := by
 refine WK.loop (sIndexFuncEE_1.l0.enc c3 c4 c5) (sIndexFuncEE_1.l0 c3 c4 c5) (sIndexFuncEE_1.l0.post c3 c4 c5 r outs) ?_ fuel s q h hd
 intro s x hx hn
 unfold sIndexFuncEE_1.l0 at hx
 refine br_ok hx (fun h6 hx => ?_) (fun h6 hx => ?_)
 ·refine getR_ok hx fun a7 h8 h9 hx => ?_
  refine bd_ok hx fun y10 e11 hx => ?_
  let Q12 : List Prop := [(decide (s < c4)) = true, 0 ≤ (s : Int), (c3.map Edge.enc)[(s : Int).toNat]? = some (Edge.enc a7), (Edge.enc a7).length = 6, Spec Try.prog 52 [.aggp [.int .i64 a7.ID, .int .i64 a7.From, .int .i64 a7.To, .bool a7.Directed, .int .i64 a7.Weight, .int .i64 a7.Cap], .ref 0 0 0 0] [.varp [.sl (c5.map eInt)]] (.pv (.bool y10)) [.varp [.sl (c5.map eInt)]]]
  have k13 : All Q12 := ⟨h6, h8, rowOb h9, rfl, forest_CheckSide_1.ok a7 c5 e11, trivial⟩
  refine br_ok hx (fun h14 hx => ?_) (fun h14 hx => ?_)
  ·obtain rfl := sI hx
   exact WK.run (an := [.lp, .reg [], .br true, .reg [], .reg [(3, none, .row (Edge.enc a7)), (5, none, .call [] [0] (.pv (.bool y10)) [.varp [.sl (c5.map eInt)]] [])], .br true, .reg []]) (kt := [4]) (ko := [(0, 0)]) (ps := (Q12 ++ [y10 = true])) (by kernel_rfl) (All_append.2 ⟨k13, ⟨h14, trivial⟩⟩) hn
  ·obtain rfl := sI hx
   exact WK.run (an := [.lp, .reg [], .br true, .reg [], .reg [(3, none, .row (Edge.enc a7)), (5, none, .call [] [0] (.pv (.bool y10)) [.varp [.sl (c5.map eInt)]] [])], .br false, .reg []]) (kt := [0, 1, 7, 8]) (ko := [(0, 0)]) (ps := (Q12 ++ [y10 = false])) (by kernel_rfl) (All_append.2 ⟨k13, ⟨h14, trivial⟩⟩) hn
 ·obtain rfl := sI hx
  exact WK.run (an := [.lp, .reg [], .br false]) (kt := []) (ko := [(0, 0)]) (ps := [(decide (s < c4)) = false]) (by kernel_rfl) ⟨h6, trivial⟩ hn
noncomputable def sIndexFuncEE_1 (v1 : List Edge) (v2 : List Int) : Option Int :=
 bd (loopN fuel (sIndexFuncEE_1.l0 v1 ((v1.length : Nat) : Int) v2) 0) fun q15 =>
 match q15 with
 | .inl q15 =>
  some q15
 | .inr q15 =>
  some (-1)
theorem sIndexFuncEE_1.ok (v1 : List Edge) (v2 : List Int) {x : Int} (hx : sIndexFuncEE_1 v1 v2 = some x) :
  Spec Try.prog 79 [.pv (.sl (v1.map Edge.enc)), .clo 52 [.ref 0 0 0 0]] [.varp [.sl (v2.map eInt)]] (.pv (.int .i64 x)) [.varp [.sl (v2.map eInt)]] := by
 refine Spec.of (c := b79) Try.func79 rfl rfl rfl ?_
 unfold sIndexFuncEE_1 at hx
 refine bd_ok hx fun q15 e16 hx => ?_
 refine WK.run (an := [.reg [], .reg [(1, none, .val (.pv (.int .i64 ((v1.length : Nat) : Int))))]]) (kt := [0, 1, 7, 8]) (ko := [(0, 0)]) (ps := [AV.pv (.int .i64 ((v1.map Edge.enc).length : Nat)) = .pv (.int .i64 (v1.length : Nat))]) (by kernel_rfl) ⟨lenOb, trivial⟩ (WK.enterLoop (sIndexFuncEE_1.l0.ok v1 ((v1.length : Nat) : Int) v2 _ _ _ _ e16 ?_))
 rcases q15 with (q15 | q15)
 ·obtain rfl := sI hx
  exact WK.fin (fn := Try.f79) Try.func79 (an := []) (kt := [4]) (ko := [(0, 0)]) (frz := []) (ps := []) (qs := []) (by kernel_rfl) trivial trivial
 ·obtain rfl := sI hx
  exact WK.fin (fn := Try.f79) Try.func79 (an := [.reg []]) (kt := [4]) (ko := [(0, 0)]) (frz := []) (ps := []) (qs := []) (by kernel_rfl) trivial trivial
noncomputable def sContainsFuncEE_1 (v1 : List Edge) (v2 : List Int) : Option Bool :=
 bd (sIndexFuncEE_1 v1 v2) fun y3 =>
 some (decide (y3 ≥ 0))
theorem sContainsFuncEE_1.ok (v1 : List Edge) (v2 : List Int) {x : Bool} (hx : sContainsFuncEE_1 v1 v2 = some x) :
  Spec Try.prog 53 [.pv (.sl (v1.map Edge.enc)), .clo 52 [.ref 0 0 0 0]] [.varp [.sl (v2.map eInt)]] (.pv (.bool x)) [.varp [.sl (v2.map eInt)]] := by
 refine Spec.of (c := b53) Try.func53 rfl rfl rfl ?_
 unfold sContainsFuncEE_1 at hx
 refine bd_ok hx fun y3 e4 hx => ?_
 obtain rfl := sI hx
 exact WK.fin (fn := Try.f53) Try.func53 (an := [.reg [], .reg [(2, none, .call [] [0] (.pv (.int .i64 y3)) [.varp [.sl (v2.map eInt)]] [])]]) (kt := [4]) (ko := [(0, 0)]) (frz := []) (ps := [Spec Try.prog 79 [.pv (.sl (v1.map Edge.enc)), .clo 52 [.ref 0 0 0 0]] [.varp [.sl (v2.map eInt)]] (.pv (.int .i64 y3)) [.varp [.sl (v2.map eInt)]]]) (qs := []) (by kernel_rfl) ⟨sIndexFuncEE_1.ok v1 v2 e4, trivial⟩ trivial
noncomputable abbrev b24 : Code := body Try.f24
noncomputable def forest_CheckSide.l0 (c21 : List Int) (c22 : Int) (c23 : List Vertex) (c24 : List Edge) (c25 : List Int) (c26 : List Int) (s : Int) : Option (Nx Int (Unit ⊕ Unit)) :=
 br (decide (s < c22)) (
  getR c21 s fun a28 =>
  br (decide (s > 0)) (
   getR c26 (IntKind.i64.wrap (s - 1)) fun a32 =>
   br (decide (a32 ≥ a28)) (
    some (.done (.inl ()))) (
    some (.cont (IntKind.i64.wrap (s + 1))))) (
   some (.cont (IntKind.i64.wrap (s + 1))))) (
  some (.done (.inr ())))
abbrev forest_CheckSide.l0.enc (c21 : List Int) (c22 : Int) (c23 : List Vertex) (c24 : List Edge) (c25 : List Int) (c26 : List Int) (s : Int) : St := ⟨56, [(4, .ref 101 0 0 0), (7, .ref 103 0 0 0), (31, .pv (.sl (c21.map eInt))), (32, .pv (.int .i64 c22)), (33, .pv (.int .i64 s))], [(101, .varp [.sl (c23.map Vertex.enc), .sl (c24.map Edge.enc), .sl (c25.map eInt)]), (103, .varp [.sl (c26.map eInt)])]⟩
abbrev forest_CheckSide.l0.post (c21 : List Int) (c22 : Int) (c23 : List Vertex) (c24 : List Edge) (c25 : List Int) (c26 : List Int) (r : AV) (outs : List AObj) (q : Unit ⊕ Unit) : Prop := match q with | .inl q => WK Try.prog (24, 0) [.code (sub b24 [1, 1, 0, 1, 0, 0, 1, 1, 0, 0, 1, 1, 0, 1]), .inBlock 1, .code (sub b24 [1, 1, 0, 1, 0, 0, 1, 1, 1]), .inLoop (sub b24 [1, 1, 0, 1, 0, 0]), .inBlock 0, .code (sub b24 [1, 1, 1])] ⟨56, [(8, .pv (.bool false))], []⟩ r outs | .inr q => WK Try.prog (24, 0) [.code (sub b24 [1, 1, 1, 0]), .code (sub b24 [1, 1, 1, 1])] ⟨56, [(4, .ref 101 0 0 0), (7, .ref 103 0 0 0)], [(101, .varp [.sl (c23.map Vertex.enc), .sl (c24.map Edge.enc), .sl (c25.map eInt)]), (103, .varp [.sl (c26.map eInt)])]⟩ r outs
theorem forest_CheckSide.l0.ok (c21 : List Int) (c22 : Int) (c23 : List Vertex) (c24 : List Edge) (c25 : List Int) (c26 : List Int) (r : AV) (outs : List AObj) (s : Int) (q : Unit ⊕ Unit) (h : loopN fuel (forest_CheckSide.l0 c21 c22 c23 c24 c25 c26) s = some q) (hd : forest_CheckSide.l0.post c21 c22 c23 c24 c25 c26 r outs q) :
  WK Try.prog (24, 0) [.inLoop (sub b24 [1, 1, 0, 1, 0, 0]), .inBlock 0, .code (sub b24 [1, 1, 1])] (forest_CheckSide.l0.enc c21 c22 c23 c24 c25 c26 s) r outs := by
 refine WK.loop (forest_CheckSide.l0.enc c21 c22 c23 c24 c25 c26) (forest_CheckSide.l0 c21 c22 c23 c24 c25 c26) (forest_CheckSide.l0.post c21 c22 c23 c24 c25 c26 r outs) ?_ fuel s q h hd
 intro s x hx hn
 unfold forest_CheckSide.l0 at hx
 refine br_ok hx (fun h27 hx => ?_) (fun h27 hx => ?_)
 ·refine getR_ok hx fun a28 h29 h30 hx => ?_
  refine br_ok hx (fun h31 hx => ?_) (fun h31 hx => ?_)
  ·refine getR_ok hx fun a32 h33 h34 hx => ?_
   let Q35 : List Prop := [(decide (s < c22)) = true, 0 ≤ (s : Int), (c21.map eInt)[(s : Int).toNat]? = some (eInt a28), (eInt a28).length = 1, (decide (s > 0)) = true, 0 ≤ ((IntKind.i64.wrap (s - 1)) : Int), (c26.map eInt)[((IntKind.i64.wrap (s - 1)) : Int).toNat]? = some (eInt a32), (eInt a32).length = 1]
   have k36 : All Q35 := ⟨h27, h29, rowOb h30, rfl, h31, h33, rowOb h34, rfl, trivial⟩
   refine br_ok hx (fun h37 hx => ?_) (fun h37 hx => ?_)
   ·obtain rfl := sI hx
    exact WK.run (an := [.lp, .reg [], .br true, .reg [(1, none, .row (eInt a28))], .reg [(3, some true, .no), (6, none, .row (eInt a32))], .br true, .reg []]) (kt := [8]) (ko := []) (ps := (Q35 ++ [(decide (a32 ≥ a28)) = true])) (by kernel_rfl) (All_append.2 ⟨k36, ⟨h37, trivial⟩⟩) hn
   ·obtain rfl := sI hx
    exact WK.run (an := [.lp, .reg [], .br true, .reg [(1, none, .row (eInt a28))], .reg [(3, some true, .no), (6, none, .row (eInt a32))], .br false, .reg []]) (kt := [4, 7, 31, 32, 33]) (ko := [(101, 101), (103, 103)]) (ps := (Q35 ++ [(decide (a32 ≥ a28)) = false])) (by kernel_rfl) (All_append.2 ⟨k36, ⟨h37, trivial⟩⟩) hn
  ·obtain rfl := sI hx
   exact WK.run (an := [.lp, .reg [], .br true, .reg [(1, none, .row (eInt a28))], .reg [(3, some false, .no)], .bk, .reg []]) (kt := [4, 7, 31, 32, 33]) (ko := [(101, 101), (103, 103)]) (ps := [(decide (s < c22)) = true, 0 ≤ (s : Int), (c21.map eInt)[(s : Int).toNat]? = some (eInt a28), (eInt a28).length = 1, (decide (s > 0)) = false]) (by kernel_rfl) ⟨h27, h29, rowOb h30, rfl, h31, trivial⟩ hn
 ·obtain rfl := sI hx
  exact WK.run (an := [.lp, .reg [], .br false]) (kt := [4, 7]) (ko := [(101, 101), (103, 103)]) (ps := [(decide (s < c22)) = false]) (by kernel_rfl) ⟨h27, trivial⟩ hn
noncomputable def forest_CheckSide (v1 : Graph) (v2 : Int) (v3 : Int) (v4 : List Int) : Option Bool :=
 gd (([v2, v3] ++ v4).length ≤ bigLen) <|
 bd (forest_known v1 ([v2, v3] ++ v4)) fun y6 =>
 br (!y6) (
  some false) (
  bd (sContains_int_int v4 v2) fun y11 =>
  br (!y11) (
   some false) (
   bd (sContains_int_int v4 v3) fun y15 =>
   br y15 (
    some false) (
    bd (loopN fuel (forest_CheckSide.l0 v4 ((v4.length : Nat) : Int) v1.Vertices v1.Edges v1.Depots v4) 0) fun q38 =>
    match q38 with
    | .inl q38 =>
     some false
    | .inr q38 =>
     bd (sContainsFuncEE_1 v1.Edges v4) fun y40 =>
     some (!y40))))
theorem forest_CheckSide.ok (v1 : Graph) (v2 : Int) (v3 : Int) (v4 : List Int) {x : Bool} (hx : forest_CheckSide v1 v2 v3 v4 = some x) :
  Spec Try.prog 24 [.aggp [.sl (v1.Vertices.map Vertex.enc), .sl (v1.Edges.map Edge.enc), .sl (v1.Depots.map eInt)], .pv (.int .i64 v2), .pv (.int .i64 v3), .pv (.sl (v4.map eInt))] [] (.pv (.bool x)) [] := by
 refine Spec.of (c := b24) Try.func24 rfl rfl rfl ?_
 unfold forest_CheckSide at hx
 refine gd_ok hx fun h5 hx => ?_
 refine bd_ok hx fun y6 e7 hx => ?_
 let Q8 : List Prop := [1 = 1, 1 = 1, 1 = 1, 0 + 2 = ([v2, v3].map eInt).length, ([v2, v3].map eInt).drop 0 ++ (v4.map eInt) = (([v2, v3] ++ v4).map eInt), (([v2, v3] ++ v4).map eInt).length ≤ bigLen, ∀ r ∈ (v4.map eInt), r.length = 1, (([v2, v3] ++ v4).map eInt).length = (([v2, v3] ++ v4).map eInt).length, Spec Try.prog 45 [.aggp [.sl (v1.Vertices.map Vertex.enc), .sl (v1.Edges.map Edge.enc), .sl (v1.Depots.map eInt)], .pv (.sl (([v2, v3] ++ v4).map eInt))] [] (.pv (.bool y6)) []]
 have k9 : All Q8 := ⟨rfl, rfl, rfl, Nat.zero_add _, by simp [cut1, List.take_of_length_le], bigOb h5, map_len fun _ => rfl, rfl, forest_known.ok v1 ([v2, v3] ++ v4) e7, trivial⟩
 refine br_ok hx (fun h10 hx => ?_) (fun h10 hx => ?_)
 ·obtain rfl := sI hx
  exact WK.fin (fn := Try.f24) Try.func24 (an := [.reg [(0, none, .nm 1003), (1, none, .nm 1005)], .draw [0, 1, 2, 3, 4, 5, 6, 7, 8, 9, 10, 11, 12, 13, 14, 15, 16, 17, 18] [(3, none, .nm 1007), (5, none, .app 1009 (([v2, v3] ++ v4).map eInt)), (6, none, .call [1009] [] (.pv (.bool y6)) [] []), (9, some true, .no), (10, some true, .no), (11, some true, .no), (12, some true, .no), (13, none, .bit true)], .bk, .reg []]) (kt := [8]) (ko := []) (frz := []) (ps := (Q8 ++ [(!y6) = true, (!y6) = true, (!y6) = true, (!y6) = true, (!y6) = true])) (qs := []) (by kernel_rfl) (All_append.2 ⟨k9, ⟨h10, h10, h10, h10, h10, trivial⟩⟩) trivial
 ·refine bd_ok hx fun y11 e12 hx => ?_
  let B13 : Anns := [(3, none, .nm 1007), (5, none, .app 1009 (([v2, v3] ++ v4).map eInt)), (6, none, .call [1009] [] (.pv (.bool y6)) [] []), (9, some false, .no), (10, some false, .no), (11, some false, .call [] [] (.pv (.bool y11)) [] []), (12, some false, .no), (13, none, .bit false)]
  refine br_ok hx (fun h14 hx => ?_) (fun h14 hx => ?_)
  ·obtain rfl := sI hx
   exact WK.fin (fn := Try.f24) Try.func24 (an := [.reg [(0, none, .nm 1003), (1, none, .nm 1005)], .draw [0, 1, 2, 3, 4, 5, 6, 7, 8, 9, 10, 11, 12, 13, 14, 15, 16, 17, 18] (B13 ++ [(15, some true, .no), (16, some true, .no), (17, some true, .no), (18, none, .bit true)]), .bk, .reg []]) (kt := [8]) (ko := []) (frz := []) (ps := (Q8 ++ [(!y6) = false, (!y6) = false, (!y6) = false, Spec Try.prog 51 [.pv (.sl (v4.map eInt)), .pv (.int .i64 v2)] [] (.pv (.bool y11)) [], (!y6) = false, (!y6) = false, (!y11) = true, (!y11) = true, (!y11) = true, (!y11) = true])) (qs := []) (by kernel_rfl) (All_append.2 ⟨k9, ⟨h10, h10, h10, sContains_int_int.ok v4 v2 e12, h10, h10, h14, h14, h14, h14, trivial⟩⟩) trivial
  ·refine bd_ok hx fun y15 e16 hx => ?_
   let A17 : List An := [.reg [(0, none, .nm 1003), (1, none, .nm 1005)], .draw [0, 1, 2, 3, 4, 5, 6, 7, 8, 9, 10, 11, 12, 13, 14, 15, 16, 17, 18] (B13 ++ [(15, some false, .no), (16, some false, .no), (17, some false, .call [] [] (.pv (.bool y15)) [] []), (18, none, .bit false)])]
   let Q18 : List Prop := (Q8 ++ [(!y6) = false, (!y6) = false, (!y6) = false, Spec Try.prog 51 [.pv (.sl (v4.map eInt)), .pv (.int .i64 v2)] [] (.pv (.bool y11)) [], (!y6) = false, (!y6) = false, (!y11) = false, (!y11) = false, (!y11) = false, Spec Try.prog 51 [.pv (.sl (v4.map eInt)), .pv (.int .i64 v3)] [] (.pv (.bool y15)) [], (!y11) = false])
   have k19 : All Q18 := (All_append.2 ⟨k9, ⟨h10, h10, h10, sContains_int_int.ok v4 v2 e12, h10, h10, h14, h14, h14, sContains_int_int.ok v4 v3 e16, h14, trivial⟩⟩)
   refine br_ok hx (fun h20 hx => ?_) (fun h20 hx => ?_)
   ·obtain rfl := sI hx
    exact WK.fin (fn := Try.f24) Try.func24 (an := (A17 ++ [.br true, .reg []])) (kt := [8]) (ko := []) (frz := []) (ps := (Q18 ++ [y15 = true])) (qs := []) (by kernel_rfl) (All_append.2 ⟨k19, ⟨h20, trivial⟩⟩) trivial
   ·refine bd_ok hx fun q38 e39 hx => ?_
    refine WK.run (an := (A17 ++ [.br false, .reg [(1, none, .val (.pv (.int .i64 ((v4.length : Nat) : Int))))]])) (kt := [4, 7, 31, 32, 33]) (ko := [(1003, 101), (1005, 103)]) (ps := (Q18 ++ [y15 = false, AV.pv (.int .i64 ((v4.map eInt).length : Nat)) = .pv (.int .i64 (v4.length : Nat))])) (by kernel_rfl) (All_append.2 ⟨k19, ⟨h20, lenOb, trivial⟩⟩) (WK.enterLoop (forest_CheckSide.l0.ok v4 ((v4.length : Nat) : Int) v1.Vertices v1.Edges v1.Depots v4 _ _ _ _ e39 ?_))
    rcases q38 with (q38 | q38)
    ·obtain rfl := sI hx
     exact WK.fin (fn := Try.f24) Try.func24 (an := []) (kt := [8]) (ko := []) (frz := []) (ps := []) (qs := []) (by kernel_rfl) trivial trivial
    ·refine bd_ok hx fun y40 e41 hx => ?_
     obtain rfl := sI hx
     exact WK.fin (fn := Try.f24) Try.func24 (an := [.reg [], .reg [(3, none, .call [] [103] (.pv (.bool y40)) [.varp [.sl (v4.map eInt)]] [])]]) (kt := [8]) (ko := []) (frz := []) (ps := [Spec Try.prog 53 [.pv (.sl (v1.Edges.map Edge.enc)), .clo 52 [.ref 0 0 0 0]] [.varp [.sl (v4.map eInt)]] (.pv (.bool y40)) [.varp [.sl (v4.map eInt)]]]) (qs := []) (by kernel_rfl) ⟨sContainsFuncEE_1.ok v1.Edges v4 e41, trivial⟩ trivial
noncomputable abbrev b21 : Code := body Try.f21
noncomputable def r3Ints.l0 (c4 : List Int) (c5 : List Int) (s : Int) : Option (Nx Int (Unit ⊕ Unit)) :=
 br (decide (s < ((c4.length : Nat) : Int))) (
  getR c4 s fun a7 =>
  getR c5 s fun a10 =>
  br (a7 != a10) (
   some (.done (.inl ()))) (
   some (.cont (IntKind.i64.wrap (s + 1))))) (
  some (.done (.inr ())))
abbrev r3Ints.l0.enc (c4 : List Int) (c5 : List Int) (s : Int) : St := ⟨26, [(0, .pv (.sl (c4.map eInt))), (1, .pv (.sl (c5.map eInt))), (5, .pv (.int .i64 s))], []⟩
abbrev r3Ints.l0.post (c4 : List Int) (c5 : List Int) (r : AV) (outs : List AObj) (q : Unit ⊕ Unit) : Prop := match q with | .inl q => WK Try.prog (21, 0) [.code (sub b21 [1, 1, 0, 1, 0, 0, 1, 0, 0, 1, 0, 1]), .inBlock 1, .code (sub b21 [1, 1, 0, 1, 0, 0, 1, 1]), .inLoop (sub b21 [1, 1, 0, 1, 0, 0]), .inBlock 0, .code (sub b21 [1, 1, 1])] ⟨26, [(4, .pv (.bool false))], []⟩ r outs | .inr q => WK Try.prog (21, 0) [.code (sub b21 [1, 1, 1, 0]), .code (sub b21 [1, 1, 1, 1])] ⟨26, [], []⟩ r outs
theorem r3Ints.l0.ok (c4 : List Int) (c5 : List Int) (r : AV) (outs : List AObj) (s : Int) (q : Unit ⊕ Unit) (h : loopN fuel (r3Ints.l0 c4 c5) s = some q) (hd : r3Ints.l0.post c4 c5 r outs q) :
  WK Try.prog (21, 0) [.inLoop (sub b21 [1, 1, 0, 1, 0, 0]), .inBlock 0, .code (sub b21 [1, 1, 1])] (r3Ints.l0.enc c4 c5 s) r outs := by
 refine WK.loop (r3Ints.l0.enc c4 c5) (r3Ints.l0 c4 c5) (r3Ints.l0.post c4 c5 r outs) ?_ fuel s q h hd
 intro s x hx hn
 unfold r3Ints.l0 at hx
 refine br_ok hx (fun h6 hx => ?_) (fun h6 hx => ?_)
 ·refine getR_ok hx fun a7 h8 h9 hx => ?_
  refine getR_ok hx fun a10 h11 h12 hx => ?_
  let Q13 : List Prop := [AV.pv (.int .i64 ((c4.map eInt).length : Nat)) = .pv (.int .i64 (c4.length : Nat)), (decide (s < ((c4.length : Nat) : Int))) = true, 0 ≤ (s : Int), (c4.map eInt)[(s : Int).toNat]? = some (eInt a7), (eInt a7).length = 1, 0 ≤ (s : Int), (c5.map eInt)[(s : Int).toNat]? = some (eInt a10), (eInt a10).length = 1]
  have k14 : All Q13 := ⟨lenOb, h6, h8, rowOb h9, rfl, h11, rowOb h12, rfl, trivial⟩
  refine br_ok hx (fun h15 hx => ?_) (fun h15 hx => ?_)
  ·obtain rfl := sI hx
   exact WK.run (an := [.lp, .reg [(2, none, .val (.pv (.int .i64 ((c4.length : Nat) : Int))))], .br true, .draw [0, 1, 2, 3, 4, 5, 6, 7, 8] [(2, none, .row (eInt a7)), (6, none, .row (eInt a10))], .br true, .reg []]) (kt := [4]) (ko := []) (ps := (Q13 ++ [(a7 != a10) = true])) (by kernel_rfl) (All_append.2 ⟨k14, ⟨h15, trivial⟩⟩) hn
  ·obtain rfl := sI hx
   exact WK.run (an := [.lp, .reg [(2, none, .val (.pv (.int .i64 ((c4.length : Nat) : Int))))], .br true, .draw [0, 1, 2, 3, 4, 5, 6, 7, 8] [(2, none, .row (eInt a7)), (6, none, .row (eInt a10))], .br false, .reg []]) (kt := [0, 1, 5]) (ko := []) (ps := (Q13 ++ [(a7 != a10) = false])) (by kernel_rfl) (All_append.2 ⟨k14, ⟨h15, trivial⟩⟩) hn
 ·obtain rfl := sI hx
  exact WK.run (an := [.lp, .reg [(2, none, .val (.pv (.int .i64 ((c4.length : Nat) : Int))))], .br false]) (kt := []) (ko := []) (ps := [AV.pv (.int .i64 ((c4.map eInt).length : Nat)) = .pv (.int .i64 (c4.length : Nat)), (decide (s < ((c4.length : Nat) : Int))) = false]) (by kernel_rfl) ⟨lenOb, h6, trivial⟩ hn
noncomputable def r3Ints (v1 : List Int) (v2 : List Int) : Option Bool :=
 br (((v1.length : Nat) : Int) != ((v2.length : Nat) : Int)) (
  some false) (
  bd (loopN fuel (r3Ints.l0 v1 v2) 0) fun q16 =>
  match q16 with
  | .inl q16 =>
   some false
  | .inr q16 =>
   some true)
theorem r3Ints.ok (v1 : List Int) (v2 : List Int) {x : Bool} (hx : r3Ints v1 v2 = some x) :
  Spec Try.prog 21 [.pv (.sl (v1.map eInt)), .pv (.sl (v2.map eInt))] [] (.pv (.bool x)) [] := by
 refine Spec.of (c := b21) Try.func21 rfl rfl rfl ?_
 unfold r3Ints at hx
 refine br_ok hx (fun h3 hx => ?_) (fun h3 hx => ?_)
 ·obtain rfl := sI hx
  exact WK.fin (fn := Try.f21) Try.func21 (an := [.reg [], .reg [(1, none, .val (.pv (.int .i64 ((v1.length : Nat) : Int)))), (3, none, .val (.pv (.int .i64 ((v2.length : Nat) : Int))))], .br true, .reg []]) (kt := [4]) (ko := []) (frz := []) (ps := [AV.pv (.int .i64 ((v1.map eInt).length : Nat)) = .pv (.int .i64 (v1.length : Nat)), AV.pv (.int .i64 ((v2.map eInt).length : Nat)) = .pv (.int .i64 (v2.length : Nat)), (((v1.length : Nat) : Int) != ((v2.length : Nat) : Int)) = true]) (qs := []) (by kernel_rfl) ⟨lenOb, lenOb, h3, trivial⟩ trivial
 ·refine bd_ok hx fun q16 e17 hx => ?_
  refine WK.run (an := [.reg [], .reg [(1, none, .val (.pv (.int .i64 ((v1.length : Nat) : Int)))), (3, none, .val (.pv (.int .i64 ((v2.length : Nat) : Int))))], .br false, .reg []]) (kt := [0, 1, 5]) (ko := []) (ps := [AV.pv (.int .i64 ((v1.map eInt).length : Nat)) = .pv (.int .i64 (v1.length : Nat)), AV.pv (.int .i64 ((v2.map eInt).length : Nat)) = .pv (.int .i64 (v2.length : Nat)), (((v1.length : Nat) : Int) != ((v2.length : Nat) : Int)) = false]) (by kernel_rfl) ⟨lenOb, lenOb, h3, trivial⟩ (WK.enterLoop (r3Ints.l0.ok v1 v2 _ _ _ _ e17 ?_))
  rcases q16 with (q16 | q16)
  ·obtain rfl := sI hx
   exact WK.fin (fn := Try.f21) Try.func21 (an := []) (kt := [4]) (ko := []) (frz := []) (ps := []) (qs := []) (by kernel_rfl) trivial trivial
  ·obtain rfl := sI hx
   exact WK.fin (fn := Try.f21) Try.func21 (an := [.reg []]) (kt := [4]) (ko := []) (frz := []) (ps := []) (qs := []) (by kernel_rfl) trivial trivial
noncomputable abbrev b13 : Code := body Try.f13
noncomputable def r7SameLabels.l0 (c4 : List Named) (c5 : List Named) (s : Int) : Option (Nx Int (Unit ⊕ Unit)) :=
 br (decide (s < ((c4.length : Nat) : Int))) (
  getR c4 s fun a7 =>
  getR c5 s fun a10 =>
  br (a7.ID != a10.ID) (
   some (.done (.inl ()))) (
   getR c4 s fun a16 =>
   getR c5 s fun a19 =>
   bd (r3Ints a16.Label a19.Label) fun y22 =>
   br (!y22) (
    some (.done (.inl ()))) (
    some (.cont (IntKind.i64.wrap (s + 1)))))) (
  some (.done (.inr ())))
abbrev r7SameLabels.l0.enc (c4 : List Named) (c5 : List Named) (s : Int) : St := ⟨42, [(0, .pv (.sl (c4.map Named.enc))), (1, .pv (.sl (c5.map Named.enc))), (5, .pv (.int .i64 s))], []⟩
abbrev r7SameLabels.l0.post (c4 : List Named) (c5 : List Named) (r : AV) (outs : List AObj) (q : Unit ⊕ Unit) : Prop := match q with | .inl q => WK Try.prog (13, 0) [.code (sub b13 [1, 1, 0, 1, 0, 0, 1, 0, 0, 1, 0, 1]), .inBlock 1, .code (sub b13 [1, 1, 0, 1, 0, 0, 1, 1]), .inLoop (sub b13 [1, 1, 0, 1, 0, 0]), .inBlock 0, .code (sub b13 [1, 1, 1])] ⟨42, [(4, .pv (.bool false))], []⟩ r outs | .inr q => WK Try.prog (13, 0) [.code (sub b13 [1, 1, 1, 0]), .code (sub b13 [1, 1, 1, 1])] ⟨42, [], []⟩ r outs
theorem r7SameLabels.l0.ok (c4 : List Named) (c5 : List Named) (r : AV) (outs : List AObj) (s : Int) (q : Unit ⊕ Unit) (h : loopN fuel (r7SameLabels.l0 c4 c5) s = some q) (hd : r7SameLabels.l0.post c4 c5 r outs q) :
  WK Try.prog (13, 0) [.inLoop (sub b13 [1, 1, 0, 1, 0, 0]), .inBlock 0, .code (sub b13 [1, 1, 1])] (r7SameLabels.l0.enc c4 c5 s) r outs := by
 refine WK.loop (r7SameLabels.l0.enc c4 c5) (r7SameLabels.l0 c4 c5) (r7SameLabels.l0.post c4 c5 r outs) ?_ fuel s q h hd
 intro s x hx hn
 unfold r7SameLabels.l0 at hx
 refine br_ok hx (fun h6 hx => ?_) (fun h6 hx => ?_)
 ·refine getR_ok hx fun a7 h8 h9 hx => ?_
  refine getR_ok hx fun a10 h11 h12 hx => ?_
  let Q13 : List Prop := [AV.pv (.int .i64 ((c4.map Named.enc).length : Nat)) = .pv (.int .i64 (c4.length : Nat)), (decide (s < ((c4.length : Nat) : Int))) = true, 0 ≤ (s : Int), (c4.map Named.enc)[(s : Int).toNat]? = some (Named.enc a7), (Named.enc a7).length = 2, 0 ≤ (s : Int), (c5.map Named.enc)[(s : Int).toNat]? = some (Named.enc a10), (Named.enc a10).length = 2]
  have k14 : All Q13 := ⟨lenOb, h6, h8, rowOb h9, rfl, h11, rowOb h12, rfl, trivial⟩
  refine br_ok hx (fun h15 hx => ?_) (fun h15 hx => ?_)
  ·obtain rfl := sI hx
   exact WK.run (an := [.lp, .reg [(2, none, .val (.pv (.int .i64 ((c4.length : Nat) : Int))))], .br true, .draw [0, 1, 2, 3, 4, 5, 6, 7, 8, 9, 10, 11, 12, 13, 14, 15, 16, 17, 18, 19, 20, 21, 22, 23, 24] [(2, none, .row (Named.enc a7)), (7, none, .row (Named.enc a10)), (12, some true, .no), (13, some true, .no), (14, some true, .no), (15, some true, .no), (16, some true, .no), (17, some true, .no), (18, some true, .no), (19, some true, .no), (20, some true, .no), (21, some true, .no), (22, some true, .no), (23, some true, .no), (24, none, .bit true)], .bk, .reg []]) (kt := [4]) (ko := []) (ps := (Q13 ++ [(a7.ID != a10.ID) = true, (a7.ID != a10.ID) = true, (a7.ID != a10.ID) = true, (a7.ID != a10.ID) = true, (a7.ID != a10.ID) = true, (a7.ID != a10.ID) = true, (a7.ID != a10.ID) = true, (a7.ID != a10.ID) = true, (a7.ID != a10.ID) = true, (a7.ID != a10.ID) = true, (a7.ID != a10.ID) = true, (a7.ID != a10.ID) = true, (a7.ID != a10.ID) = true])) (by kernel_rfl) (All_append.2 ⟨k14, ⟨h15, h15, h15, h15, h15, h15, h15, h15, h15, h15, h15, h15, h15, trivial⟩⟩) hn
  ·refine getR_ok hx fun a16 h17 h18 hx => ?_
   refine getR_ok hx fun a19 h20 h21 hx => ?_
   refine bd_ok hx fun y22 e23 hx => ?_
   refine WK.run (an := [.lp, .reg [(2, none, .val (.pv (.int .i64 ((c4.length : Nat) : Int))))], .br true, .draw [0, 1, 2, 3, 4, 5, 6, 7, 8, 9, 10, 11, 12, 13, 14, 15, 16, 17, 18, 19, 20, 21, 22, 23, 24] [(2, none, .row (Named.enc a7)), (7, none, .row (Named.enc a10)), (12, some false, .no), (13, some false, .no), (14, some false, .row (Named.enc a16)), (15, some false, .no), (16, some false, .no), (17, some false, .no), (18, some false, .no), (19, some false, .row (Named.enc a19)), (20, some false, .no), (21, some false, .no), (22, some false, .call [] [] (.pv (.bool y22)) [] []), (23, some false, .no), (24, none, .bit false)]]) (kt := [0, 1, 5, 41]) (ko := []) (k' := [.code (sub b13 [1, 1, 0, 1, 0, 0, 1, 0, 0, 1]), .inBlock 1, .code (sub b13 [1, 1, 0, 1, 0, 0, 1, 1]), .inLoop (sub b13 [1, 1, 0, 1, 0, 0]), .inBlock 0, .code (sub b13 [1, 1, 1])]) (σ' := ⟨42, [(0, .pv (.sl (c4.map Named.enc))), (1, .pv (.sl (c5.map Named.enc))), (5, .pv (.int .i64 s)), (41, .pv (.bool (!y22)))], []⟩) (ps := (Q13 ++ [(a7.ID != a10.ID) = false, (a7.ID != a10.ID) = false, (a7.ID != a10.ID) = false, 0 ≤ (s : Int), (c4.map Named.enc)[(s : Int).toNat]? = some (Named.enc a16), (Named.enc a16).length = 2, (a7.ID != a10.ID) = false, (a7.ID != a10.ID) = false, (a7.ID != a10.ID) = false, (a7.ID != a10.ID) = false, (a7.ID != a10.ID) = false, 0 ≤ (s : Int), (c5.map Named.enc)[(s : Int).toNat]? = some (Named.enc a19), (Named.enc a19).length = 2, (a7.ID != a10.ID) = false, (a7.ID != a10.ID) = false, (a7.ID != a10.ID) = false, Spec Try.prog 21 [.pv (.sl (a16.Label.map eInt)), .pv (.sl (a19.Label.map eInt))] [] (.pv (.bool y22)) [], (a7.ID != a10.ID) = false, (a7.ID != a10.ID) = false]))
    (by kernel_rfl) (All_append.2 ⟨k14, ⟨h15, h15, h15, h17, rowOb h18, rfl, h15, h15, h15, h15, h15, h20, rowOb h21, rfl, h15, h15, h15, r3Ints.ok a16.Label a19.Label e23, h15, h15, trivial⟩⟩) ?_
   refine br_ok hx (fun h24 hx => ?_) (fun h24 hx => ?_)
   ·obtain rfl := sI hx
    exact WK.run (an := [.br true, .reg []]) (kt := [4]) (ko := []) (ps := [(!y22) = true]) (by kernel_rfl) ⟨h24, trivial⟩ hn
   ·obtain rfl := sI hx
    exact WK.run (an := [.br false, .reg []]) (kt := [0, 1, 5]) (ko := []) (ps := [(!y22) = false]) (by kernel_rfl) ⟨h24, trivial⟩ hn
 ·obtain rfl := sI hx
  exact WK.run (an := [.lp, .reg [(2, none, .val (.pv (.int .i64 ((c4.length : Nat) : Int))))], .br false]) (kt := []) (ko := []) (ps := [AV.pv (.int .i64 ((c4.map Named.enc).length : Nat)) = .pv (.int .i64 (c4.length : Nat)), (decide (s < ((c4.length : Nat) : Int))) = false]) (by kernel_rfl) ⟨lenOb, h6, trivial⟩ hn
noncomputable def r7SameLabels (v1 : List Named) (v2 : List Named) : Option Bool :=
 br (((v1.length : Nat) : Int) != ((v2.length : Nat) : Int)) (
  some false) (
  bd (loopN fuel (r7SameLabels.l0 v1 v2) 0) fun q25 =>
  match q25 with
  | .inl q25 =>
   some false
  | .inr q25 =>
   some true)
theorem r7SameLabels.ok (v1 : List Named) (v2 : List Named) {x : Bool} (hx : r7SameLabels v1 v2 = some x) :
  Spec Try.prog 13 [.pv (.sl (v1.map Named.enc)), .pv (.sl (v2.map Named.enc))] [] (.pv (.bool x)) [] := by
 refine Spec.of (c := b13) Try.func13 rfl rfl rfl ?_
 unfold r7SameLabels at hx
 refine br_ok hx (fun h3 hx => ?_) (fun h3 hx => ?_)
 ·obtain rfl := sI hx
  exact WK.fin (fn := Try.f13) Try.func13 (an := [.reg [], .reg [(1, none, .val (.pv (.int .i64 ((v1.length : Nat) : Int)))), (3, none, .val (.pv (.int .i64 ((v2.length : Nat) : Int))))], .br true, .reg []]) (kt := [4]) (ko := []) (frz := []) (ps := [AV.pv (.int .i64 ((v1.map Named.enc).length : Nat)) = .pv (.int .i64 (v1.length : Nat)), AV.pv (.int .i64 ((v2.map Named.enc).length : Nat)) = .pv (.int .i64 (v2.length : Nat)), (((v1.length : Nat) : Int) != ((v2.length : Nat) : Int)) = true]) (qs := []) (by kernel_rfl) ⟨lenOb, lenOb, h3, trivial⟩ trivial
 ·refine bd_ok hx fun q25 e26 hx => ?_
  refine WK.run (an := [.reg [], .reg [(1, none, .val (.pv (.int .i64 ((v1.length : Nat) : Int)))), (3, none, .val (.pv (.int .i64 ((v2.length : Nat) : Int))))], .br false, .reg []]) (kt := [0, 1, 5]) (ko := []) (ps := [AV.pv (.int .i64 ((v1.map Named.enc).length : Nat)) = .pv (.int .i64 (v1.length : Nat)), AV.pv (.int .i64 ((v2.map Named.enc).length : Nat)) = .pv (.int .i64 (v2.length : Nat)), (((v1.length : Nat) : Int) != ((v2.length : Nat) : Int)) = false]) (by kernel_rfl) ⟨lenOb, lenOb, h3, trivial⟩ (WK.enterLoop (r7SameLabels.l0.ok v1 v2 _ _ _ _ e26 ?_))
  rcases q25 with (q25 | q25)
  ·obtain rfl := sI hx
   exact WK.fin (fn := Try.f13) Try.func13 (an := []) (kt := [4]) (ko := []) (frz := []) (ps := []) (qs := []) (by kernel_rfl) trivial trivial
  ·obtain rfl := sI hx
   exact WK.fin (fn := Try.f13) Try.func13 (an := [.reg []]) (kt := [4]) (ko := []) (frz := []) (ps := []) (qs := []) (by kernel_rfl) trivial trivial
noncomputable abbrev b57 : Code := body Try.f57
noncomputable def forest_seen.l0 (c2 : List Named) (c3 : Int) (s : Int × (List (Int × (Option (List Int))))) : Option (Nx (Int × (List (Int × (Option (List Int))))) (List (Int × (Option (List Int))))) :=
 br (decide (s.1 < c3)) (
  getR c2 s.1 fun a5 =>
  oc (mapGet s.2 a5.ID) (
   br (((a5.Label.length : Nat) : Int) == 3) (
    some (.cont ((IntKind.i64.wrap (s.1 + 1)), (mapSet (mapSet s.2 a5.ID none) a5.ID (some a5.Label))))) (
    some (.cont ((IntKind.i64.wrap (s.1 + 1)), (mapSet s.2 a5.ID none))))) fun a8 => (
   oc (a8) (
    some (.cont ((IntKind.i64.wrap (s.1 + 1)), s.2))) fun a14 => (
    some (.cont ((IntKind.i64.wrap (s.1 + 1)), s.2))))) (
  some (.done s.2))
abbrev forest_seen.l0.enc (c2 : List Named) (c3 : Int) (s : Int × (List (Int × (Option (List Int))))) : St := ⟨38, [(3, .mp 101), (10, .pv (.sl (c2.map Named.enc))), (11, .pv (.int .i64 c3)), (12, .pv (.int .i64 s.1))], [(101, .mp false false true (s.2.map mKey) (s.2.map (mRow (eOpt eInt))))]⟩
abbrev forest_seen.l0.post (c2 : List Named) (c3 : Int) (r : AV) (outs : List AObj) (q : (List (Int × (Option (List Int))))) : Prop := WK Try.prog (57, 0) [.code (sub b57 [1, 1, 1, 0]), .code (sub b57 [1, 1, 1, 1])] ⟨38, [(3, .mp 101)], [(101, .mp false false true (q.map mKey) (q.map (mRow (eOpt eInt))))]⟩ r outs
theorem forest_seen.l0.ok (c2 : List Named) (c3 : Int) (r : AV) (outs : List AObj) (s : Int × (List (Int × (Option (List Int))))) (q : (List (Int × (Option (List Int))))) (h : loopN fuel (forest_seen.l0 c2 c3) s = some q) (hd : forest_seen.l0.post c2 c3 r outs q) :
  WK Try.prog (57, 0) [.inLoop (sub b57 [1, 1, 0, 1, 0, 0]), .inBlock 0, .code (sub b57 [1, 1, 1])] (forest_seen.l0.enc c2 c3 s) r outs := by
 refine WK.loop (forest_seen.l0.enc c2 c3) (forest_seen.l0 c2 c3) (forest_seen.l0.post c2 c3 r outs) ?_ fuel s q h hd
 intro s x hx hn
 unfold forest_seen.l0 at hx
 refine br_ok hx (fun h4 hx => ?_) (fun h4 hx => ?_)
 ·refine getR_ok hx fun a5 h6 h7 hx => ?_
  refine oc_ok hx (fun h9 hx => ?_) (fun a8 h9 hx => ?_)
  ·let A10 : List An := [.lp, .reg [], .br true, .reg [(0, none, .row (Named.enc a5)), (2, none, .nmv 1009 (.aggp [.int .i64 0, .sl ([].map eInt)]))], .reg [(3, none, .mget .undef none)], .reg [], .bk, .reg [(3, none, .mset ((mapSet s.2 a5.ID none).map mKey) ((mapSet s.2 a5.ID none).map (mRow (eOpt eInt))))], .reg [(2, none, .val (.pv (.int .i64 ((a5.Label.length : Nat) : Int))))]]
   let Q11 : List Prop := [(decide (s.1 < c3)) = true, 0 ≤ (s.1 : Int), (c2.map Named.enc)[(s.1 : Int).toNat]? = some (Named.enc a5), (Named.enc a5).length = 2, AV.pv (.int .i64 0) = .pv (.int .i64 0), 2 = 2, intKeys .i64 (s.2.map mKey), mfind (s.2.map mKey) (s.2.map (mRow (eOpt eInt))) (.int .i64 a5.ID) = none, intKeys .i64 (s.2.map mKey), mput (s.2.map mKey) (s.2.map (mRow (eOpt eInt))) (.int .i64 a5.ID) [.nilsl] = (((mapSet s.2 a5.ID none).map mKey), ((mapSet s.2 a5.ID none).map (mRow (eOpt eInt)))), AV.pv (.int .i64 ((a5.Label.map eInt).length : Nat)) = .pv (.int .i64 (a5.Label.length : Nat))]
   have k12 : All Q11 := ⟨h4, h6, rowOb h7, rfl, rfl, rfl, ikOb, mfindOb0 h9, ikOb, mputOb (f := (eOpt eInt)) (v := none), lenOb, trivial⟩
   refine br_ok hx (fun h13 hx => ?_) (fun h13 hx => ?_)
   ·obtain rfl := sI hx
    exact WK.run (an := (A10 ++ [.br true, .reg [(5, none, .mset ((mapSet (mapSet s.2 a5.ID none) a5.ID (some a5.Label)).map mKey) ((mapSet (mapSet s.2 a5.ID none) a5.ID (some a5.Label)).map (mRow (eOpt eInt))))], .reg []])) (kt := [3, 10, 11, 12]) (ko := [(101, 101)]) (ps := (Q11 ++ [(((a5.Label.length : Nat) : Int) == 3) = true, intKeys .i64 ((mapSet s.2 a5.ID none).map mKey), mput ((mapSet s.2 a5.ID none).map mKey) ((mapSet s.2 a5.ID none).map (mRow (eOpt eInt))) (.int .i64 a5.ID) [.sl (a5.Label.map eInt)] = (((mapSet (mapSet s.2 a5.ID none) a5.ID (some a5.Label)).map mKey), ((mapSet (mapSet s.2 a5.ID none) a5.ID (some a5.Label)).map (mRow (eOpt eInt))))])) (by kernel_rfl) (All_append.2 ⟨k12, ⟨h13, ikOb, mputOb (f := (eOpt eInt)) (v := (some a5.Label)), trivial⟩⟩) hn
   ·obtain rfl := sI hx
    exact WK.run (an := (A10 ++ [.br false, .reg []])) (kt := [3, 10, 11, 12]) (ko := [(101, 101)]) (ps := (Q11 ++ [(((a5.Label.length : Nat) : Int) == 3) = false])) (by kernel_rfl) (All_append.2 ⟨k12, ⟨h13, trivial⟩⟩) hn
  ·refine oc_ok hx (fun h15 hx => ?_) (fun a14 h15 hx => ?_)
   ·obtain rfl := sI hx
    exact WK.run (an := [.lp, .reg [], .br true, .reg [(0, none, .row (Named.enc a5)), (2, none, .nmv 1009 (.aggp [.int .i64 0, .sl ([].map eInt)]))], .reg [(3, none, .mget (.pv .nilsl) (some [.nilsl]))], .reg [], .bk, .reg []]) (kt := [3, 10, 11, 12]) (ko := [(101, 101)]) (ps := [(decide (s.1 < c3)) = true, 0 ≤ (s.1 : Int), (c2.map Named.enc)[(s.1 : Int).toNat]? = some (Named.enc a5), (Named.enc a5).length = 2, AV.pv (.int .i64 0) = .pv (.int .i64 0), 2 = 2, intKeys .i64 (s.2.map mKey), mfind (s.2.map mKey) (s.2.map (mRow (eOpt eInt))) (.int .i64 a5.ID) = some [.nilsl], rowAV false [.nilsl] = some (.pv .nilsl)]) (by kernel_rfl) ⟨h4, h6, rowOb h7, rfl, rfl, rfl, ikOb, mfindOb_n h9 h15, rfl, trivial⟩ hn
   ·obtain rfl := sI hx
    exact WK.run (an := [.lp, .reg [], .br true, .reg [(0, none, .row (Named.enc a5)), (2, none, .nmv 1009 (.aggp [.int .i64 0, .sl ([].map eInt)]))], .reg [(3, none, .mget (.pv (.sl (a14.map eInt))) (some [.sl (a14.map eInt)]))], .reg [], .bk, .reg []]) (kt := [3, 10, 11, 12]) (ko := [(101, 101)]) (ps := [(decide (s.1 < c3)) = true, 0 ≤ (s.1 : Int), (c2.map Named.enc)[(s.1 : Int).toNat]? = some (Named.enc a5), (Named.enc a5).length = 2, AV.pv (.int .i64 0) = .pv (.int .i64 0), 2 = 2, intKeys .i64 (s.2.map mKey), mfind (s.2.map mKey) (s.2.map (mRow (eOpt eInt))) (.int .i64 a5.ID) = some [.sl (a14.map eInt)], rowAV false [.sl (a14.map eInt)] = some (.pv (.sl (a14.map eInt)))]) (by kernel_rfl) ⟨h4, h6, rowOb h7, rfl, rfl, rfl, ikOb, mfindOb_s h9 h15, rfl, trivial⟩ hn
 ·obtain rfl := sI hx
  exact WK.run (an := [.lp, .reg [], .br false]) (kt := [3]) (ko := [(101, 101)]) (ps := [(decide (s.1 < c3)) = false]) (by kernel_rfl) ⟨h4, trivial⟩ hn
noncomputable def forest_seen (v1 : View) : Option (List (Int × (Option (List Int)))) :=
 bd (loopN fuel (forest_seen.l0 v1.Labels ((v1.Labels.length : Nat) : Int)) (0, ([] : List (Int × (Option (List Int)))))) fun q16 =>
 some q16
theorem forest_seen.ok (v1 : View) {x : (List (Int × (Option (List Int))))} (hx : forest_seen v1 = some x) :
  Spec Try.prog 57 [.aggp [.int .i64 v1.Vertex.ID, .int .i64 v1.Vertex.Side, .sl (v1.Depots.map eInt), .sl (v1.Edges.map Edge.enc), .sl (v1.Labels.map Named.enc)]] [] (.pv (.mp false (x.map mKey) (x.map (mRow (eOpt eInt))))) [] := by
 refine Spec.of (c := b57) Try.func57 rfl rfl rfl ?_
 unfold forest_seen at hx
 refine bd_ok hx fun q16 e17 hx => ?_
 refine WK.run (an := [.reg [(0, none, .nm 1003)], .reg [(0, none, .nm 1005)], .reg [(2, none, .val (.pv (.int .i64 ((v1.Labels.length : Nat) : Int))))]]) (kt := [3, 10, 11, 12]) (ko := [(1005, 101)]) (ps := [AV.pv (.int .i64 ((v1.Labels.map Named.enc).length : Nat)) = .pv (.int .i64 (v1.Labels.length : Nat))]) (by kernel_rfl) ⟨lenOb, trivial⟩ (WK.enterLoop (forest_seen.l0.ok v1.Labels ((v1.Labels.length : Nat) : Int) _ _ _ _ e17 ?_))
 obtain rfl := sI hx
 exact WK.fin (fn := Try.f57) Try.func57 (an := [.reg []]) (kt := [2]) (ko := [(101, 101)]) (frz := [101]) (ps := []) (qs := []) (by kernel_rfl) trivial trivial
noncomputable abbrev b80 : Code := body Try.f80
noncomputable def forest_around_1 (v1 : Int) : Option Bool :=
 br (decide (v1 ≥ 0)) (
  some (decide (v1 < 24))) (
  some false)
theorem forest_around_1.ok (v1 : Int) {x : Bool} (hx : forest_around_1 v1 = some x) :
  Spec Try.prog 80 [.pv (.int .i64 v1)] [] (.pv (.bool x)) [] := by
 refine Spec.of (c := b80) Try.func80 rfl rfl rfl ?_
 unfold forest_around_1 at hx
 refine br_ok hx (fun h2 hx => ?_) (fun h2 hx => ?_)
 ·obtain rfl := sI hx
  exact WK.fin (fn := Try.f80) Try.func80 (an := [.reg [], .reg [(3, some true, .no)]]) (kt := [2]) (ko := []) (frz := []) (ps := [(decide (v1 ≥ 0)) = true]) (qs := []) (by kernel_rfl) ⟨h2, trivial⟩ trivial
 ·obtain rfl := sI hx
  exact WK.fin (fn := Try.f80) Try.func80 (an := [.reg [], .reg [(3, some false, .no)]]) (kt := [2]) (ko := []) (frz := []) (ps := [(decide (v1 ≥ 0)) = false]) (qs := []) (by kernel_rfl) ⟨h2, trivial⟩ trivial
noncomputable abbrev b81 : Code := body Try.f81
noncomputable def forest_around_2 (v1 : Edge) (v2 : Int) (v3 : Int) (v4 : Int) (v5 : List Int) (v6 : List Edge) (v7 : List Named) : Option (Bool × Int) :=
 br (decide (v1.ID > v2)) (
  br (decide (v1.ID < 40)) (
   br (decide (v1.Weight ≥ (-1000))) (
    br (!(decide (v1.Weight ≤ 1000))) (
     some (true, v1.ID)) (
     bd (forest_around_1 v1.From) fun y12 =>
     br (!y12) (
      some (true, v1.ID)) (
      bd (forest_around_1 v1.To) fun y15 =>
      br (!y15) (
       some (true, v1.ID)) (
       br (v1.From != v3) (
        some ((v1.To != v3), v1.ID)) (
        some (false, v1.ID)))))) (
    some (true, v1.ID))) (
   some (true, v1.ID))) (
  some (true, v1.ID))
theorem forest_around_2.ok (v1 : Edge) (v2 : Int) (v3 : Int) (v4 : Int) (v5 : List Int) (v6 : List Edge) (v7 : List Named) {x : Bool × Int} (hx : forest_around_2 v1 v2 v3 v4 v5 v6 v7 = some x) :
  Spec Try.prog 81 [.aggp [.int .i64 v1.ID, .int .i64 v1.From, .int .i64 v1.To, .bool v1.Directed, .int .i64 v1.Weight, .int .i64 v1.Cap], .ref 0 0 0 0, .ref 2 0 0 0, .ref 4 0 0 0] [.varp [.int .i64 v2], .var [.clo 80 []], .varp [.int .i64 v3, .int .i64 v4, .sl (v5.map eInt), .sl (v6.map Edge.enc), .sl (v7.map Named.enc)]] (.pv (.bool x.1)) [.varp [.int .i64 x.2], .var [.clo 80 []], .varp [.int .i64 v3, .int .i64 v4, .sl (v5.map eInt), .sl (v6.map Edge.enc), .sl (v7.map Named.enc)]] := by
 refine Spec.of (c := b81) Try.func81 rfl rfl rfl ?_
 unfold forest_around_2 at hx
 refine br_ok hx (fun h8 hx => ?_) (fun h8 hx => ?_)
 ·refine br_ok hx (fun h9 hx => ?_) (fun h9 hx => ?_)
  ·refine br_ok hx (fun h10 hx => ?_) (fun h10 hx => ?_)
   ·refine br_ok hx (fun h11 hx => ?_) (fun h11 hx => ?_)
    ·obtain rfl := sI hx
     exact WK.fin (fn := Try.f81) Try.func81 (an := [.reg [(0, none, .nm 1003)], .reg [(5, some true, .no), (10, some true, .no), (15, some true, .no)], .reg [], .reg [(3, some true, .no)]]) (kt := [5]) (ko := [(0, 0), (2, 2), (4, 4)]) (frz := []) (ps := [(decide (v1.ID > v2)) = true, (decide (v1.ID < 40)) = true, (decide (v1.Weight ≥ (-1000))) = true, 1 = 1, (!(decide (v1.Weight ≤ 1000))) = true]) (qs := []) (by kernel_rfl) ⟨h8, h9, h10, rfl, h11, trivial⟩ trivial
    ·refine bd_ok hx fun y12 e13 hx => ?_
     refine br_ok hx (fun h14 hx => ?_) (fun h14 hx => ?_)
     ·obtain rfl := sI hx
      exact WK.fin (fn := Try.f81) Try.func81 (an := [.reg [(0, none, .nm 1003)], .reg [(5, some true, .no), (10, some true, .no), (15, some true, .no)], .reg [], .reg [(3, some false, .no), (6, none, .call [] [] (.pv (.bool y12)) [] []), (10, some true, .no)]]) (kt := [5]) (ko := [(0, 0), (2, 2), (4, 4)]) (frz := []) (ps := [(decide (v1.ID > v2)) = true, (decide (v1.ID < 40)) = true, (decide (v1.Weight ≥ (-1000))) = true, 1 = 1, (!(decide (v1.Weight ≤ 1000))) = false, Spec Try.prog 80 [.pv (.int .i64 v1.From)] [] (.pv (.bool y12)) [], (!y12) = true]) (qs := []) (by kernel_rfl) ⟨h8, h9, h10, rfl, h11, forest_around_1.ok v1.From e13, h14, trivial⟩ trivial
     ·refine bd_ok hx fun y15 e16 hx => ?_
      let Q17 : List Prop := [(decide (v1.ID > v2)) = true, (decide (v1.ID < 40)) = true, (decide (v1.Weight ≥ (-1000))) = true, 1 = 1, (!(decide (v1.Weight ≤ 1000))) = false, Spec Try.prog 80 [.pv (.int .i64 v1.From)] [] (.pv (.bool y12)) [], (!y12) = false, Spec Try.prog 80 [.pv (.int .i64 v1.To)] [] (.pv (.bool y15)) []]
      have k18 : All Q17 := ⟨h8, h9, h10, rfl, h11, forest_around_1.ok v1.From e13, h14, forest_around_1.ok v1.To e16, trivial⟩
      refine br_ok hx (fun h19 hx => ?_) (fun h19 hx => ?_)
      ·obtain rfl := sI hx
       exact WK.fin (fn := Try.f81) Try.func81 (an := [.reg [(0, none, .nm 1003)], .reg [(5, some true, .no), (10, some true, .no), (15, some true, .no)], .reg [], .reg [(3, some false, .no), (6, none, .call [] [] (.pv (.bool y12)) [] []), (10, some false, .no), (13, none, .call [] [] (.pv (.bool y15)) [] []), (17, some true, .no)]]) (kt := [5]) (ko := [(0, 0), (2, 2), (4, 4)]) (frz := []) (ps := (Q17 ++ [(!y15) = true])) (qs := []) (by kernel_rfl) (All_append.2 ⟨k18, ⟨h19, trivial⟩⟩) trivial
      ·refine br_ok hx (fun h20 hx => ?_) (fun h20 hx => ?_)
       ·obtain rfl := sI hx
        exact WK.fin (fn := Try.f81) Try.func81 (an := [.reg [(0, none, .nm 1003)], .reg [(5, some true, .no), (10, some true, .no), (15, some true, .no)], .reg [], .reg [(3, some false, .no), (6, none, .call [] [] (.pv (.bool y12)) [] []), (10, some false, .no), (13, none, .call [] [] (.pv (.bool y15)) [] []), (17, some false, .no), (24, some true, .no)]]) (kt := [5]) (ko := [(0, 0), (2, 2), (4, 4)]) (frz := []) (ps := (Q17 ++ [(!y15) = false, (v1.From != v3) = true])) (qs := []) (by kernel_rfl) (All_append.2 ⟨k18, ⟨h19, h20, trivial⟩⟩) trivial
       ·obtain rfl := sI hx
        exact WK.fin (fn := Try.f81) Try.func81 (an := [.reg [(0, none, .nm 1003)], .reg [(5, some true, .no), (10, some true, .no), (15, some true, .no)], .reg [], .reg [(3, some false, .no), (6, none, .call [] [] (.pv (.bool y12)) [] []), (10, some false, .no), (13, none, .call [] [] (.pv (.bool y15)) [] []), (17, some false, .no), (24, some false, .no)]]) (kt := [5]) (ko := [(0, 0), (2, 2), (4, 4)]) (frz := []) (ps := (Q17 ++ [(!y15) = false, (v1.From != v3) = false])) (qs := []) (by kernel_rfl) (All_append.2 ⟨k18, ⟨h19, h20, trivial⟩⟩) trivial
   ·obtain rfl := sI hx
    exact WK.fin (fn := Try.f81) Try.func81 (an := [.reg [(0, none, .nm 1003)], .reg [(5, some true, .no), (10, some true, .no), (15, some false, .no)], .reg [], .reg []]) (kt := [5]) (ko := [(0, 0), (2, 2), (4, 4)]) (frz := []) (ps := [(decide (v1.ID > v2)) = true, (decide (v1.ID < 40)) = true, (decide (v1.Weight ≥ (-1000))) = false, 1 = 1]) (qs := []) (by kernel_rfl) ⟨h8, h9, h10, rfl, trivial⟩ trivial
  ·obtain rfl := sI hx
   exact WK.fin (fn := Try.f81) Try.func81 (an := [.reg [(0, none, .nm 1003)], .reg [(5, some true, .no), (10, some false, .no)], .reg [], .reg []]) (kt := [5]) (ko := [(0, 0), (2, 2), (4, 4)]) (frz := []) (ps := [(decide (v1.ID > v2)) = true, (decide (v1.ID < 40)) = false, 1 = 1]) (qs := []) (by kernel_rfl) ⟨h8, h9, rfl, trivial⟩ trivial
 ·obtain rfl := sI hx
  exact WK.fin (fn := Try.f81) Try.func81 (an := [.reg [(0, none, .nm 1003)], .reg [(5, some false, .no)], .reg [], .reg []]) (kt := [5]) (ko := [(0, 0), (2, 2), (4, 4)]) (frz := []) (ps := [(decide (v1.ID > v2)) = false, 1 = 1]) (qs := []) (by kernel_rfl) ⟨h8, rfl, trivial⟩ trivial
noncomputable def sIndexFuncEE_2.l0 (c8 : List Edge) (c9 : Int) (c10 : Int) (c11 : Int) (c12 : List Int) (c13 : List Edge) (c14 : List Named) (s : Int × Int) : Option (Nx (Int × Int) ((Int × Int) ⊕ Int)) :=
 br (decide (s.1 < c9)) (
  getR c8 s.1 fun a16 =>
  bd (forest_around_2 a16 s.2 c10 c11 c12 c13 c14) fun y19 =>
  br y19.1 (
   some (.done (.inl (s.1, y19.2)))) (
   some (.cont ((IntKind.i64.wrap (s.1 + 1)), y19.2)))) (
  some (.done (.inr s.2)))
abbrev sIndexFuncEE_2.l0.enc (c8 : List Edge) (c9 : Int) (c10 : Int) (c11 : Int) (c12 : List Int) (c13 : List Edge) (c14 : List Named) (s : Int × Int) : St := ⟨19, [(0, .pv (.sl (c8.map Edge.enc))), (1, .clo 81 [.ref 0 0 0 0, .ref 2 0 0 0, .ref 4 0 0 0]), (7, .pv (.int .i64 c9)), (8, .pv (.int .i64 s.1))], [(0, .varp [.int .i64 s.2]), (2, .var [.clo 80 []]), (4, .varp [.int .i64 c10, .int .i64 c11, .sl (c12.map eInt), .sl (c13.map Edge.enc), .sl (c14.map Named.enc)])]⟩
abbrev sIndexFuncEE_2.l0.post (c8 : List Edge) (c9 : Int) (c10 : Int) (c11 : Int) (c12 : List Int) (c13 : List Edge) (c14 : List Named) (r : AV) (outs : List AObj) (q : (Int × Int) ⊕ Int) : Prop := match q with | .inl q => WK Try.prog (79, 3) [.code (sub b79 [1, 0, 1, 0, 0, 1, 1, 0, 0, 1, 1, 0, 1]), .inBlock 1, .code (sub b79 [1, 0, 1, 0, 0, 1, 1, 1]), .inLoop (sub b79 [1, 0, 1, 0, 0]), .inBlock 0, .code (sub b79 [1, 1])] ⟨19, [(4, .pv (.int .i64 q.1))], [(0, .varp [.int .i64 q.2]), (2, .var [.clo 80 []]), (4, .varp [.int .i64 c10, .int .i64 c11, .sl (c12.map eInt), .sl (c13.map Edge.enc), .sl (c14.map Named.enc)])]⟩ r outs | .inr q => WK Try.prog (79, 3) [.code (sub b79 [1, 1, 0]), .code (sub b79 [1, 1, 1])] ⟨19, [], [(0, .varp [.int .i64 q]), (2, .var [.clo 80 []]), (4, .varp [.int .i64 c10, .int .i64 c11, .sl (c12.map eInt), .sl (c13.map Edge.enc), .sl (c14.map Named.enc)])]⟩ r outs
theorem sIndexFuncEE_2.l0.ok (c8 : List Edge) (c9 : Int) (c10 : Int) (c11 : Int) (c12 : List Int) (c13 : List Edge) (c14 : List Named) (r : AV) (outs : List AObj) (s : Int × Int) (q : (Int × Int) ⊕ Int) (h : loopN fuel (sIndexFuncEE_2.l0 c8 c9 c10 c11 c12 c13 c14) s = some q) (hd : sIndexFuncEE_2.l0.post c8 c9 c10 c11 c12 c13 c14 r outs q) :
  WK Try.prog (79, 3) [.inLoop (sub b79 [1, 0, 1, 0, 0]), .inBlock 0, .code (sub b79 [1, 1])] (sIndexFuncEE_2.l0.enc c8 c9 c10 c11 c12 c13 c14 s) r outs := by
 refine WK.loop (sIndexFuncEE_2.l0.enc c8 c9 c10 c11 c12 c13 c14) (sIndexFuncEE_2.l0 c8 c9 c10 c11 c12 c13 c14) (sIndexFuncEE_2.l0.post c8 c9 c10 c11 c12 c13 c14 r outs) ?_ fuel s q h hd
 intro s x hx hn
 unfold sIndexFuncEE_2.l0 at hx
 refine br_ok hx (fun h15 hx => ?_) (fun h15 hx => ?_)
 ·refine getR_ok hx fun a16 h17 h18 hx => ?_
  refine bd_ok hx fun y19 e20 hx => ?_
  let A21 : List An := [.lp, .reg [], .br true, .reg [], .reg [(3, none, .row (Edge.enc a16)), (5, none, .call [] [0, 2, 4] (.pv (.bool y19.1)) [.varp [.int .i64 y19.2], .var [.clo 80 []], .varp [.int .i64 c10, .int .i64 c11, .sl (c12.map eInt), .sl (c13.map Edge.enc), .sl (c14.map Named.enc)]] [])]]
  let Q22 : List Prop := [(decide (s.1 < c9)) = true, 0 ≤ (s.1 : Int), (c8.map Edge.enc)[(s.1 : Int).toNat]? = some (Edge.enc a16), (Edge.enc a16).length = 6, Spec Try.prog 81 [.aggp [.int .i64 a16.ID, .int .i64 a16.From, .int .i64 a16.To, .bool a16.Directed, .int .i64 a16.Weight, .int .i64 a16.Cap], .ref 0 0 0 0, .ref 2 0 0 0, .ref 4 0 0 0] [.varp [.int .i64 s.2], .var [.clo 80 []], .varp [.int .i64 c10, .int .i64 c11, .sl (c12.map eInt), .sl (c13.map Edge.enc), .sl (c14.map Named.enc)]] (.pv (.bool y19.1)) [.varp [.int .i64 y19.2], .var [.clo 80 []], .varp [.int .i64 c10, .int .i64 c11, .sl (c12.map eInt), .sl (c13.map Edge.enc), .sl (c14.map Named.enc)]]]
  have k23 : All Q22 := ⟨h15, h17, rowOb h18, rfl, forest_around_2.ok a16 s.2 c10 c11 c12 c13 c14 e20, trivial⟩
  refine br_ok hx (fun h24 hx => ?_) (fun h24 hx => ?_)
  ·obtain rfl := sI hx
   exact WK.run (an := (A21 ++ [.br true, .reg []])) (kt := [4]) (ko := [(0, 0), (2, 2), (4, 4)]) (ps := (Q22 ++ [y19.1 = true])) (by kernel_rfl) (All_append.2 ⟨k23, ⟨h24, trivial⟩⟩) hn
  ·obtain rfl := sI hx
   exact WK.run (an := (A21 ++ [.br false, .reg []])) (kt := [0, 1, 7, 8]) (ko := [(0, 0), (2, 2), (4, 4)]) (ps := (Q22 ++ [y19.1 = false])) (by kernel_rfl) (All_append.2 ⟨k23, ⟨h24, trivial⟩⟩) hn
 ·obtain rfl := sI hx
  exact WK.run (an := [.lp, .reg [], .br false]) (kt := []) (ko := [(0, 0), (2, 2), (4, 4)]) (ps := [(decide (s.1 < c9)) = false]) (by kernel_rfl) ⟨h15, trivial⟩ hn
noncomputable def sIndexFuncEE_2 (v1 : List Edge) (v2 : Int) (v3 : Int) (v4 : Int) (v5 : List Int) (v6 : List Edge) (v7 : List Named) : Option (Int × Int × Int × Int × (List Int) × (List Edge) × (List Named)) :=
 bd (loopN fuel (sIndexFuncEE_2.l0 v1 ((v1.length : Nat) : Int) v3 v4 v5 v6 v7) (0, v2)) fun q25 =>
 match q25 with
 | .inl q25 =>
  some (q25.1, q25.2, v3, v4, v5, v6, v7)
 | .inr q25 =>
  some ((-1), q25, v3, v4, v5, v6, v7)
theorem sIndexFuncEE_2.ok (v1 : List Edge) (v2 : Int) (v3 : Int) (v4 : Int) (v5 : List Int) (v6 : List Edge) (v7 : List Named) {x : Int × Int × Int × Int × (List Int) × (List Edge) × (List Named)} (hx : sIndexFuncEE_2 v1 v2 v3 v4 v5 v6 v7 = some x) :
  Spec Try.prog 79 [.pv (.sl (v1.map Edge.enc)), .clo 81 [.ref 0 0 0 0, .ref 2 0 0 0, .ref 4 0 0 0]] [.varp [.int .i64 v2], .var [.clo 80 []], .varp [.int .i64 v3, .int .i64 v4, .sl (v5.map eInt), .sl (v6.map Edge.enc), .sl (v7.map Named.enc)]] (.pv (.int .i64 x.1)) [.varp [.int .i64 x.2.1], .var [.clo 80 []], .varp [.int .i64 x.2.2.1, .int .i64 x.2.2.2.1, .sl (x.2.2.2.2.1.map eInt), .sl (x.2.2.2.2.2.1.map Edge.enc), .sl (x.2.2.2.2.2.2.map Named.enc)]] := by
 refine Spec.of (c := b79) Try.func79 rfl rfl rfl ?_
 unfold sIndexFuncEE_2 at hx
 refine bd_ok hx fun q25 e26 hx => ?_
 refine WK.run (an := [.reg [], .reg [(1, none, .val (.pv (.int .i64 ((v1.length : Nat) : Int))))]]) (kt := [0, 1, 7, 8]) (ko := [(0, 0), (2, 2), (4, 4)]) (ps := [AV.pv (.int .i64 ((v1.map Edge.enc).length : Nat)) = .pv (.int .i64 (v1.length : Nat))]) (by kernel_rfl) ⟨lenOb, trivial⟩ (WK.enterLoop (sIndexFuncEE_2.l0.ok v1 ((v1.length : Nat) : Int) v3 v4 v5 v6 v7 _ _ _ _ e26 ?_))
 rcases q25 with (q25 | q25)
 ·obtain rfl := sI hx
  exact WK.fin (fn := Try.f79) Try.func79 (an := []) (kt := [4]) (ko := [(0, 0), (2, 2), (4, 4)]) (frz := []) (ps := []) (qs := []) (by kernel_rfl) trivial trivial
 ·obtain rfl := sI hx
  exact WK.fin (fn := Try.f79) Try.func79 (an := [.reg []]) (kt := [4]) (ko := [(0, 0), (2, 2), (4, 4)]) (frz := []) (ps := []) (qs := []) (by kernel_rfl) trivial trivial
noncomputable def sContainsFuncEE_2 (v1 : List Edge) (v2 : Int) (v3 : Int) (v4 : Int) (v5 : List Int) (v6 : List Edge) (v7 : List Named) : Option (Bool × Int × Int × Int × (List Int) × (List Edge) × (List Named)) :=
 bd (sIndexFuncEE_2 v1 v2 v3 v4 v5 v6 v7) fun y8 =>
 some ((decide (y8.1 ≥ 0)), y8.2.1, y8.2.2.1, y8.2.2.2.1, y8.2.2.2.2.1, y8.2.2.2.2.2.1, y8.2.2.2.2.2.2)
theorem sContainsFuncEE_2.ok (v1 : List Edge) (v2 : Int) (v3 : Int) (v4 : Int) (v5 : List Int) (v6 : List Edge) (v7 : List Named) {x : Bool × Int × Int × Int × (List Int) × (List Edge) × (List Named)} (hx : sContainsFuncEE_2 v1 v2 v3 v4 v5 v6 v7 = some x) :
  Spec Try.prog 53 [.pv (.sl (v1.map Edge.enc)), .clo 81 [.ref 0 0 0 0, .ref 2 0 0 0, .ref 4 0 0 0]] [.varp [.int .i64 v2], .var [.clo 80 []], .varp [.int .i64 v3, .int .i64 v4, .sl (v5.map eInt), .sl (v6.map Edge.enc), .sl (v7.map Named.enc)]] (.pv (.bool x.1)) [.varp [.int .i64 x.2.1], .var [.clo 80 []], .varp [.int .i64 x.2.2.1, .int .i64 x.2.2.2.1, .sl (x.2.2.2.2.1.map eInt), .sl (x.2.2.2.2.2.1.map Edge.enc), .sl (x.2.2.2.2.2.2.map Named.enc)]] := by
 refine Spec.of (c := b53) Try.func53 rfl rfl rfl ?_
 unfold sContainsFuncEE_2 at hx
 refine bd_ok hx fun y8 e9 hx => ?_
 obtain rfl := sI hx
 exact WK.fin (fn := Try.f53) Try.func53 (an := [.reg [], .reg [(2, none, .call [] [0, 2, 4] (.pv (.int .i64 y8.1)) [.varp [.int .i64 y8.2.1], .var [.clo 80 []], .varp [.int .i64 y8.2.2.1, .int .i64 y8.2.2.2.1, .sl (y8.2.2.2.2.1.map eInt), .sl (y8.2.2.2.2.2.1.map Edge.enc), .sl (y8.2.2.2.2.2.2.map Named.enc)]] [])]]) (kt := [4]) (ko := [(0, 0), (2, 2), (4, 4)]) (frz := []) (ps := [Spec Try.prog 79 [.pv (.sl (v1.map Edge.enc)), .clo 81 [.ref 0 0 0 0, .ref 2 0 0 0, .ref 4 0 0 0]] [.varp [.int .i64 v2], .var [.clo 80 []], .varp [.int .i64 v3, .int .i64 v4, .sl (v5.map eInt), .sl (v6.map Edge.enc), .sl (v7.map Named.enc)]] (.pv (.int .i64 y8.1)) [.varp [.int .i64 y8.2.1], .var [.clo 80 []], .varp [.int .i64 y8.2.2.1, .int .i64 y8.2.2.2.1, .sl (y8.2.2.2.2.1.map eInt), .sl (y8.2.2.2.2.2.1.map Edge.enc), .sl (y8.2.2.2.2.2.2.map Named.enc)]]]) (qs := []) (by kernel_rfl) ⟨sIndexFuncEE_2.ok v1 v2 v3 v4 v5 v6 v7 e9, trivial⟩ trivial
noncomputable abbrev b58 : Code := body Try.f58
noncomputable def forest_around (v1 : View) : Option Bool :=
 bd (forest_around_1 v1.Vertex.ID) fun y2 =>
 br y2 (
  bd (sContainsFuncEE_2 v1.Edges (-1) v1.Vertex.ID v1.Vertex.Side v1.Depots v1.Edges v1.Labels) fun y5 =>
  some (!y5.1)) (
  some false)
theorem forest_around.ok (v1 : View) {x : Bool} (hx : forest_around v1 = some x) :
  Spec Try.prog 58 [.aggp [.int .i64 v1.Vertex.ID, .int .i64 v1.Vertex.Side, .sl (v1.Depots.map eInt), .sl (v1.Edges.map Edge.enc), .sl (v1.Labels.map Named.enc)]] [] (.pv (.bool x)) [] := by
 refine Spec.of (c := b58) Try.func58 rfl rfl rfl ?_
 unfold forest_around at hx
 refine bd_ok hx fun y2 e3 hx => ?_
 refine br_ok hx (fun h4 hx => ?_) (fun h4 hx => ?_)
 ·refine bd_ok hx fun y5 e6 hx => ?_
  obtain rfl := sI hx
  exact WK.fin (fn := Try.f58) Try.func58 (an := [.reg [(0, none, .nm 1003)], .reg [(0, none, .nm 1005)], .reg [(0, none, .nm 1007)], .reg [], .reg [(4, none, .call [] [] (.pv (.bool y2)) [] []), (6, some true, .no), (9, none, .call [] [1007, 1005, 1003] (.pv (.bool y5.1)) [.varp [.int .i64 y5.2.1], .var [.clo 80 []], .varp [.int .i64 y5.2.2.1, .int .i64 y5.2.2.2.1, .sl (y5.2.2.2.2.1.map eInt), .sl (y5.2.2.2.2.2.1.map Edge.enc), .sl (y5.2.2.2.2.2.2.map Named.enc)]] [])]]) (kt := [2]) (ko := []) (frz := []) (ps := [1 = 1, 1 = 1, Spec Try.prog 80 [.pv (.int .i64 v1.Vertex.ID)] [] (.pv (.bool y2)) [], y2 = true, Spec Try.prog 53 [.pv (.sl (v1.Edges.map Edge.enc)), .clo 81 [.ref 0 0 0 0, .ref 2 0 0 0, .ref 4 0 0 0]] [.varp [.int .i64 (-1)], .var [.clo 80 []], .varp [.int .i64 v1.Vertex.ID, .int .i64 v1.Vertex.Side, .sl (v1.Depots.map eInt), .sl (v1.Edges.map Edge.enc), .sl (v1.Labels.map Named.enc)]] (.pv (.bool y5.1)) [.varp [.int .i64 y5.2.1], .var [.clo 80 []], .varp [.int .i64 y5.2.2.1, .int .i64 y5.2.2.2.1, .sl (y5.2.2.2.2.1.map eInt), .sl (y5.2.2.2.2.2.1.map Edge.enc), .sl (y5.2.2.2.2.2.2.map Named.enc)]]]) (qs := []) (by kernel_rfl) ⟨rfl, rfl, forest_around_1.ok v1.Vertex.ID e3, h4, sContainsFuncEE_2.ok v1.Edges (-1) v1.Vertex.ID v1.Vertex.Side v1.Depots v1.Edges v1.Labels e6, trivial⟩ trivial
 ·obtain rfl := sI hx
  exact WK.fin (fn := Try.f58) Try.func58 (an := [.reg [(0, none, .nm 1003)], .reg [(0, none, .nm 1005)], .reg [(0, none, .nm 1007)], .reg [], .reg [(4, none, .call [] [] (.pv (.bool y2)) [] []), (6, some false, .no)]]) (kt := [2]) (ko := []) (frz := []) (ps := [1 = 1, 1 = 1, Spec Try.prog 80 [.pv (.int .i64 v1.Vertex.ID)] [] (.pv (.bool y2)) [], y2 = false]) (qs := []) (by kernel_rfl) ⟨rfl, rfl, forest_around_1.ok v1.Vertex.ID e3, h4, trivial⟩ trivial
noncomputable abbrev b29 : Code := body Try.f29
noncomputable def forest_Good.l0 (c48 : List (Int × (Option (List Int)))) (c49 : Int) (c50 : List Int) (c51 : List Edge) (c52 : Int) (s : Int × Int) : Option (Nx (Int × Int) (Unit ⊕ (Int × Bool))) :=
 br (decide (s.2 < c52)) (
  getR c51 s.2 fun a54 =>
  bd (graph_Other a54 c49) fun y57 =>
  oc (mapGet c48 y57) (
   some (.done (.inl ()))) fun a61 => (
   oc (a61) (
    some (.done (.inl ()))) fun a63 => (
    gd (a63.isEmpty = false) <|
    getR a63 0 fun a66 =>
    getR c50 0 fun a69 =>
    br (a66 != a69) (
     some (.done (.inl ()))) (
     getR a63 1 fun a75 =>
     getR c50 1 fun a78 =>
     br (decide (a75 < (IntKind.i64.wrap (a78 - 1)))) (
      some (.done (.inl ()))) (
      getR a63 1 fun a85 =>
      getR c50 1 fun a88 =>
      br (a85 == (IntKind.i64.wrap (a88 - 1))) (
       br (decide (s.1 < 0)) (
        some (.cont (a54.ID, (IntKind.i64.wrap (s.2 + 1))))) (
        some (.cont (s.1, (IntKind.i64.wrap (s.2 + 1)))))) (
       some (.cont (s.1, (IntKind.i64.wrap (s.2 + 1)))))))))) (
  getR c50 1 fun a95 =>
  some (.done (.inr (s.1, (a95 == 0)))))
abbrev forest_Good.l0.enc (c48 : List (Int × (Option (List Int)))) (c49 : Int) (c50 : List Int) (c51 : List Edge) (c52 : Int) (s : Int × Int) : St := ⟨121, [(3, .pv (.mp false (c48.map mKey) (c48.map (mRow (eOpt eInt))))), (4, .pv (.int .i64 c49)), (5, .pv (.sl (c50.map eInt))), (6, .pv (.int .i64 s.1)), (57, .pv (.sl (c51.map Edge.enc))), (58, .pv (.int .i64 c52)), (59, .pv (.int .i64 s.2))], []⟩
abbrev forest_Good.l0.post (c48 : List (Int × (Option (List Int)))) (c49 : Int) (c50 : List Int) (c51 : List Edge) (c52 : Int) (r : AV) (outs : List AObj) (q : Unit ⊕ (Int × Bool)) : Prop := match q with | .inl q => WK Try.prog (29, 0) [.code (sub b29 [1, 1, 1, 1, 1, 0, 1, 0, 0, 1, 1, 0, 0, 1, 1, 0, 1, 0, 1]), .code (sub b29 [1, 1, 1, 1, 1, 0, 1, 0, 0, 1, 1, 0, 0, 1, 1, 1]), .inBlock 1, .code (sub b29 [1, 1, 1, 1, 1, 0, 1, 0, 0, 1, 1, 1]), .inLoop (sub b29 [1, 1, 1, 1, 1, 0, 1, 0, 0]), .inBlock 0, .code (sub b29 [1, 1, 1, 1, 1, 1])] ⟨121, [(2, .pv (.bool false))], []⟩ r outs | .inr q => WK Try.prog (29, 0) [.code (sub b29 [1, 1, 1, 1, 1, 1, 0, 1]), .code (sub b29 [1, 1, 1, 1, 1, 1, 1])] ⟨121, [(5, .pv (.sl (c50.map eInt))), (6, .pv (.int .i64 q.1)), (107, .pv (.bool q.2))], []⟩ r outs
theorem forest_Good.l0.ok (c48 : List (Int × (Option (List Int)))) (c49 : Int) (c50 : List Int) (c51 : List Edge) (c52 : Int) (r : AV) (outs : List AObj) (s : Int × Int) (q : Unit ⊕ (Int × Bool)) (h : loopN fuel (forest_Good.l0 c48 c49 c50 c51 c52) s = some q) (hd : forest_Good.l0.post c48 c49 c50 c51 c52 r outs q) :
  WK Try.prog (29, 0) [.inLoop (sub b29 [1, 1, 1, 1, 1, 0, 1, 0, 0]), .inBlock 0, .code (sub b29 [1, 1, 1, 1, 1, 1])] (forest_Good.l0.enc c48 c49 c50 c51 c52 s) r outs := by
 refine WK.loop (forest_Good.l0.enc c48 c49 c50 c51 c52) (forest_Good.l0 c48 c49 c50 c51 c52) (forest_Good.l0.post c48 c49 c50 c51 c52 r outs) ?_ fuel s q h hd
 intro s x hx hn
 unfold forest_Good.l0 at hx
 refine br_ok hx (fun h53 hx => ?_) (fun h53 hx => ?_)
 ·refine getR_ok hx fun a54 h55 h56 hx => ?_
  refine bd_ok hx fun y57 e58 hx => ?_
  let Q59 : List Prop := [(decide (s.2 < c52)) = true, 0 ≤ (s.2 : Int), (c51.map Edge.enc)[(s.2 : Int).toNat]? = some (Edge.enc a54), (Edge.enc a54).length = 6, 6 = 6, Spec Try.prog 35 [.aggp [.int .i64 a54.ID, .int .i64 a54.From, .int .i64 a54.To, .bool a54.Directed, .int .i64 a54.Weight, .int .i64 a54.Cap], .pv (.int .i64 c49)] [] (.pv (.int .i64 y57)) []]
  have k60 : All Q59 := ⟨h53, h55, rowOb h56, rfl, rfl, graph_Other.ok a54 c49 e58, trivial⟩
  refine oc_ok hx (fun h62 hx => ?_) (fun a61 h62 hx => ?_)
  ·obtain rfl := sI hx
   exact WK.run (an := [.lp, .reg [], .br true, .reg [(0, none, .row (Edge.enc a54)), (2, none, .nm 1007)], .reg [(3, none, .call [] [] (.pv (.int .i64 y57)) [] []), (4, none, .mget .undef none)], .draw [0, 1, 2, 3, 4, 5, 6, 7, 8, 9, 10, 11, 12, 13, 14, 15, 16, 17, 18, 19, 20] [], .bk, .reg []]) (kt := [2]) (ko := []) (ps := (Q59 ++ [intKeys .i64 (c48.map mKey), mfind (c48.map mKey) (c48.map (mRow (eOpt eInt))) (.int .i64 y57) = none])) (by kernel_rfl) (All_append.2 ⟨k60, ⟨ikOb, mfindOb0 h62, trivial⟩⟩) hn
  ·refine oc_ok hx (fun h64 hx => ?_) (fun a63 h64 hx => ?_)
   ·obtain rfl := sI hx
    exact WK.run (an := [.lp, .reg [], .br true, .reg [(0, none, .row (Edge.enc a54)), (2, none, .nm 1007)], .reg [(3, none, .call [] [] (.pv (.int .i64 y57)) [] []), (4, none, .mget (.pv .nilsl) (some [.nilsl]))], .draw [0, 1, 2, 3, 4, 5, 6, 7, 8, 9, 10, 11, 12, 13, 14, 15, 16, 17, 18, 19, 20] [], .bk, .reg []]) (kt := [2]) (ko := []) (ps := (Q59 ++ [intKeys .i64 (c48.map mKey), mfind (c48.map mKey) (c48.map (mRow (eOpt eInt))) (.int .i64 y57) = some [.nilsl], rowAV false [.nilsl] = some (.pv .nilsl)])) (by kernel_rfl) (All_append.2 ⟨k60, ⟨ikOb, mfindOb_n h62 h64, rfl, trivial⟩⟩) hn
   ·refine gd_ok hx fun h65 hx => ?_
    refine getR_ok hx fun a66 h67 h68 hx => ?_
    refine getR_ok hx fun a69 h70 h71 hx => ?_
    let Q72 : List Prop := (Q59 ++ [intKeys .i64 (c48.map mKey), mfind (c48.map mKey) (c48.map (mRow (eOpt eInt))) (.int .i64 y57) = some [.sl (a63.map eInt)], rowAV false [.sl (a63.map eInt)] = some (.pv (.sl (a63.map eInt))), (a63.map eInt) ≠ [], 0 ≤ (0 : Int), (a63.map eInt)[(0 : Int).toNat]? = some (eInt a66), (eInt a66).length = 1, 0 ≤ (0 : Int), (c50.map eInt)[(0 : Int).toNat]? = some (eInt a69), (eInt a69).length = 1])
    have k73 : All Q72 := (All_append.2 ⟨k60, ⟨ikOb, mfindOb_s h62 h64, rfl, neOb h65, h67, rowOb h68, rfl, h70, rowOb h71, rfl, trivial⟩⟩)
    refine br_ok hx (fun h74 hx => ?_) (fun h74 hx => ?_)
    ·obtain rfl := sI hx
     exact WK.run (an := [.lp, .reg [], .br true, .reg [(0, none, .row (Edge.enc a54)), (2, none, .nm 1007)], .reg [(3, none, .call [] [] (.pv (.int .i64 y57)) [] []), (4, none, .mget (.pv (.sl (a63.map eInt))) (some [.sl (a63.map eInt)]))], .draw [0, 1, 2, 3, 4, 5, 6, 7, 8, 9, 10, 11, 12, 13, 14, 15, 16, 17, 18, 19, 20] [(4, none, .row (eInt a66)), (7, none, .row (eInt a69)), (12, some true, .no), (13, some true, .no), (14, some true, .no), (15, some true, .no), (16, some true, .no), (17, some true, .no), (18, some true, .no), (19, some true, .no), (20, none, .bit true)], .bk, .reg []]) (kt := [2]) (ko := []) (ps := (Q72 ++ [(a66 != a69) = true, (a66 != a69) = true, (a66 != a69) = true, (a66 != a69) = true, (a66 != a69) = true, (a66 != a69) = true, (a66 != a69) = true, (a66 != a69) = true, (a66 != a69) = true])) (by kernel_rfl) (All_append.2 ⟨k73, ⟨h74, h74, h74, h74, h74, h74, h74, h74, h74, trivial⟩⟩) hn
    ·refine getR_ok hx fun a75 h76 h77 hx => ?_
     refine getR_ok hx fun a78 h79 h80 hx => ?_
     let A81 : List An := [.lp, .reg [], .br true, .reg [(0, none, .row (Edge.enc a54)), (2, none, .nm 1007)], .reg [(3, none, .call [] [] (.pv (.int .i64 y57)) [] []), (4, none, .mget (.pv (.sl (a63.map eInt))) (some [.sl (a63.map eInt)]))], .draw [0, 1, 2, 3, 4, 5, 6, 7, 8, 9, 10, 11, 12, 13, 14, 15, 16, 17, 18, 19, 20] [(4, none, .row (eInt a66)), (7, none, .row (eInt a69)), (12, some false, .no), (13, some false, .row (eInt a75)), (14, some false, .no), (15, some false, .no), (16, some false, .row (eInt a78)), (17, some false, .no), (18, some false, .no), (19, some false, .no), (20, none, .bit false)]]
     let Q82 : List Prop := (Q72 ++ [(a66 != a69) = false, (a66 != a69) = false, 0 ≤ (1 : Int), (a63.map eInt)[(1 : Int).toNat]? = some (eInt a75), (eInt a75).length = 1, (a66 != a69) = false, (a66 != a69) = false, (a66 != a69) = false, 0 ≤ (1 : Int), (c50.map eInt)[(1 : Int).toNat]? = some (eInt a78), (eInt a78).length = 1, (a66 != a69) = false, (a66 != a69) = false, (a66 != a69) = false, (a66 != a69) = false])
     have k83 : All Q82 := (All_append.2 ⟨k73, ⟨h74, h74, h76, rowOb h77, rfl, h74, h74, h74, h79, rowOb h80, rfl, h74, h74, h74, h74, trivial⟩⟩)
     refine br_ok hx (fun h84 hx => ?_) (fun h84 hx => ?_)
     ·obtain rfl := sI hx
      exact WK.run (an := (A81 ++ [.br true, .reg []])) (kt := [2]) (ko := []) (ps := (Q82 ++ [(decide (a75 < (IntKind.i64.wrap (a78 - 1)))) = true])) (by kernel_rfl) (All_append.2 ⟨k83, ⟨h84, trivial⟩⟩) hn
     ·refine getR_ok hx fun a85 h86 h87 hx => ?_
      refine getR_ok hx fun a88 h89 h90 hx => ?_
      let Q91 : List Prop := (Q82 ++ [(decide (a75 < (IntKind.i64.wrap (a78 - 1)))) = false, 0 ≤ (1 : Int), (a63.map eInt)[(1 : Int).toNat]? = some (eInt a85), (eInt a85).length = 1, 0 ≤ (1 : Int), (c50.map eInt)[(1 : Int).toNat]? = some (eInt a88), (eInt a88).length = 1])
      have k92 : All Q91 := (All_append.2 ⟨k83, ⟨h84, h86, rowOb h87, rfl, h89, rowOb h90, rfl, trivial⟩⟩)
      refine br_ok hx (fun h93 hx => ?_) (fun h93 hx => ?_)
      ·refine br_ok hx (fun h94 hx => ?_) (fun h94 hx => ?_)
       ·obtain rfl := sI hx
        exact WK.run (an := (A81 ++ [.br false, .draw [0, 1, 2, 3, 4, 5, 6, 7, 8, 9, 10, 11] [(1, none, .row (eInt a85)), (4, none, .row (eInt a88)), (9, some true, .no), (10, some true, .no), (11, none, .bit true)], .br true, .reg [], .reg []])) (kt := [3, 4, 5, 6, 57, 58, 59]) (ko := []) (ps := (Q91 ++ [(a85 == (IntKind.i64.wrap (a88 - 1))) = true, (a85 == (IntKind.i64.wrap (a88 - 1))) = true, (a85 == (IntKind.i64.wrap (a88 - 1))) = true, (decide (s.1 < 0)) = true])) (by kernel_rfl) (All_append.2 ⟨k92, ⟨h93, h93, h93, h94, trivial⟩⟩) hn
       ·obtain rfl := sI hx
        exact WK.run (an := (A81 ++ [.br false, .draw [0, 1, 2, 3, 4, 5, 6, 7, 8, 9, 10, 11] [(1, none, .row (eInt a85)), (4, none, .row (eInt a88)), (9, some true, .no), (10, some true, .no), (11, none, .bit true)], .br false, .reg []])) (kt := [3, 4, 5, 6, 57, 58, 59]) (ko := []) (ps := (Q91 ++ [(a85 == (IntKind.i64.wrap (a88 - 1))) = true, (a85 == (IntKind.i64.wrap (a88 - 1))) = true, (a85 == (IntKind.i64.wrap (a88 - 1))) = true, (decide (s.1 < 0)) = false])) (by kernel_rfl) (All_append.2 ⟨k92, ⟨h93, h93, h93, h94, trivial⟩⟩) hn
      ·obtain rfl := sI hx
       exact WK.run (an := (A81 ++ [.br false, .draw [0, 1, 2, 3, 4, 5, 6, 7, 8, 9, 10, 11] [(1, none, .row (eInt a85)), (4, none, .row (eInt a88)), (9, some false, .no), (10, some false, .no), (11, none, .bit false)], .bk, .reg []])) (kt := [3, 4, 5, 6, 57, 58, 59]) (ko := []) (ps := (Q91 ++ [(a85 == (IntKind.i64.wrap (a88 - 1))) = false, (a85 == (IntKind.i64.wrap (a88 - 1))) = false, (a85 == (IntKind.i64.wrap (a88 - 1))) = false])) (by kernel_rfl) (All_append.2 ⟨k92, ⟨h93, h93, h93, trivial⟩⟩) hn
 ·refine getR_ok hx fun a95 h96 h97 hx => ?_
  obtain rfl := sI hx
  exact WK.run (an := [.lp, .reg [], .br false, .reg [(1, none, .row (eInt a95))]]) (kt := [5, 6, 107]) (ko := []) (ps := [(decide (s.2 < c52)) = false, 0 ≤ (1 : Int), (c50.map eInt)[(1 : Int).toNat]? = some (eInt a95), (eInt a95).length = 1]) (by kernel_rfl) ⟨h53, h96, rowOb h97, rfl, trivial⟩ hn
noncomputable def forest_Good (v1 : View) : Option Bool :=
 bd (forest_seen v1) fun y2 =>
 oc (mapGet y2 v1.Vertex.ID) (
  bd (forest_around v1) fun y6 =>
  br (!y6) (
   some false) (
   some false)) fun a4 => (
  oc (a4) (
   bd (forest_around v1) fun y13 =>
   br (!y13) (
    some false) (
    some false)) fun a11 => (
   bd (forest_around v1) fun y18 =>
   br (!y18) (
    some false) (
    gd (a11.isEmpty = false) <|
    getR a11 0 fun a24 =>
    br (decide (a24 < 0)) (
     some false) (
     getR a11 0 fun a28 =>
     br (decide (a28 > v1.Vertex.ID)) (
      some false) (
      getR a11 1 fun a35 =>
      br (decide (a35 < 0)) (
       some false) (
       getR a11 1 fun a41 =>
       getR a11 0 fun a44 =>
       br (!((a41 == 0) == (a44 == v1.Vertex.ID))) (
        some false) (
        bd (loopN fuel (forest_Good.l0 y2 v1.Vertex.ID a11 v1.Edges ((v1.Edges.length : Nat) : Int)) ((-1), 0)) fun q98 =>
        match q98 with
        | .inl q98 =>
         some false
        | .inr q98 =>
         br q98.2 (
          getR a11 2 fun a101 =>
          some (a101 == (-1))) (
          br (decide (q98.1 ≥ 0)) (
           getR a11 2 fun a105 =>
           some (a105 == q98.1)) (
           some false)))))))))
theorem forest_Good.ok (v1 : View) {x : Bool} (hx : forest_Good v1 = some x) :
  Spec Try.prog 29 [.aggp [.int .i64 v1.Vertex.ID, .int .i64 v1.Vertex.Side, .sl (v1.Depots.map eInt), .sl (v1.Edges.map Edge.enc), .sl (v1.Labels.map Named.enc)]] [] (.pv (.bool x)) [] := by
 refine Spec.of (c := b29) Try.func29 rfl rfl rfl ?_
 unfold forest_Good at hx
 refine bd_ok hx fun y2 e3 hx => ?_
 refine oc_ok hx (fun h5 hx => ?_) (fun a4 h5 hx => ?_)
 ·refine bd_ok hx fun y6 e7 hx => ?_
  let Q8 : List Prop := [Spec Try.prog 57 [.aggp [.int .i64 v1.Vertex.ID, .int .i64 v1.Vertex.Side, .sl (v1.Depots.map eInt), .sl (v1.Edges.map Edge.enc), .sl (v1.Labels.map Named.enc)]] [] (.pv (.mp false (y2.map mKey) (y2.map (mRow (eOpt eInt))))) [], intKeys .i64 (y2.map mKey), mfind (y2.map mKey) (y2.map (mRow (eOpt eInt))) (.int .i64 v1.Vertex.ID) = none, Spec Try.prog 58 [.aggp [.int .i64 v1.Vertex.ID, .int .i64 v1.Vertex.Side, .sl (v1.Depots.map eInt), .sl (v1.Edges.map Edge.enc), .sl (v1.Labels.map Named.enc)]] [] (.pv (.bool y6)) []]
  have k9 : All Q8 := ⟨forest_seen.ok v1 e3, ikOb, mfindOb0 h5, forest_around.ok v1 e7, trivial⟩
  refine br_ok hx (fun h10 hx => ?_) (fun h10 hx => ?_)
  ·obtain rfl := sI hx
   exact WK.fin (fn := Try.f29) Try.func29 (an := [.reg [(0, none, .nm 1003)], .draw [0, 1, 2, 3, 4, 5, 6] [(1, none, .call [] [] (.pv (.mp false (y2.map mKey) (y2.map (mRow (eOpt eInt))))) [] [])], .reg [(2, none, .mget .undef none)], .draw [0, 1, 2, 3, 4, 5, 6, 7, 8, 9, 10, 11, 12, 13, 14, 15, 16, 17, 18, 19, 20, 21, 22, 23, 24, 25, 26, 27, 28, 29, 30, 31, 32, 33, 34, 35, 36, 37] [(1, none, .call [] [] (.pv (.bool y6)) [] []), (4, some true, .no), (5, some true, .no), (6, none, .bit true)], .bk, .reg []]) (kt := [2]) (ko := []) (frz := []) (ps := (Q8 ++ [(!y6) = true, (!y6) = true, (!y6) = true])) (qs := []) (by kernel_rfl) (All_append.2 ⟨k9, ⟨h10, h10, h10, trivial⟩⟩) trivial
  ·obtain rfl := sI hx
   exact WK.fin (fn := Try.f29) Try.func29 (an := [.reg [(0, none, .nm 1003)], .draw [0, 1, 2, 3, 4, 5, 6] [(1, none, .call [] [] (.pv (.mp false (y2.map mKey) (y2.map (mRow (eOpt eInt))))) [] [])], .reg [(2, none, .mget .undef none)], .draw [0, 1, 2, 3, 4, 5, 6, 7, 8, 9, 10, 11, 12, 13, 14, 15, 16, 17, 18, 19, 20, 21, 22, 23, 24, 25, 26, 27, 28, 29, 30, 31, 32, 33, 34, 35, 36, 37] [(1, none, .call [] [] (.pv (.bool y6)) [] []), (4, some false, .no), (5, some false, .no), (6, none, .bit false)], .bk, .reg []]) (kt := [2]) (ko := []) (frz := []) (ps := (Q8 ++ [(!y6) = false, (!y6) = false, (!y6) = false])) (qs := []) (by kernel_rfl) (All_append.2 ⟨k9, ⟨h10, h10, h10, trivial⟩⟩) trivial
 ·refine oc_ok hx (fun h12 hx => ?_) (fun a11 h12 hx => ?_)
  ·refine bd_ok hx fun y13 e14 hx => ?_
   let Q15 : List Prop := [Spec Try.prog 57 [.aggp [.int .i64 v1.Vertex.ID, .int .i64 v1.Vertex.Side, .sl (v1.Depots.map eInt), .sl (v1.Edges.map Edge.enc), .sl (v1.Labels.map Named.enc)]] [] (.pv (.mp false (y2.map mKey) (y2.map (mRow (eOpt eInt))))) [], intKeys .i64 (y2.map mKey), mfind (y2.map mKey) (y2.map (mRow (eOpt eInt))) (.int .i64 v1.Vertex.ID) = some [.nilsl], rowAV false [.nilsl] = some (.pv .nilsl), Spec Try.prog 58 [.aggp [.int .i64 v1.Vertex.ID, .int .i64 v1.Vertex.Side, .sl (v1.Depots.map eInt), .sl (v1.Edges.map Edge.enc), .sl (v1.Labels.map Named.enc)]] [] (.pv (.bool y13)) []]
   have k16 : All Q15 := ⟨forest_seen.ok v1 e3, ikOb, mfindOb_n h5 h12, rfl, forest_around.ok v1 e14, trivial⟩
   refine br_ok hx (fun h17 hx => ?_) (fun h17 hx => ?_)
   ·obtain rfl := sI hx
    exact WK.fin (fn := Try.f29) Try.func29 (an := [.reg [(0, none, .nm 1003)], .draw [0, 1, 2, 3, 4, 5, 6] [(1, none, .call [] [] (.pv (.mp false (y2.map mKey) (y2.map (mRow (eOpt eInt))))) [] [])], .reg [(2, none, .mget (.pv .nilsl) (some [.nilsl]))], .draw [0, 1, 2, 3, 4, 5, 6, 7, 8, 9, 10, 11, 12, 13, 14, 15, 16, 17, 18, 19, 20, 21, 22, 23, 24, 25, 26, 27, 28, 29, 30, 31, 32, 33, 34, 35, 36, 37] [(1, none, .call [] [] (.pv (.bool y13)) [] []), (4, some true, .no), (5, some true, .no), (6, none, .bit true)], .bk, .reg []]) (kt := [2]) (ko := []) (frz := []) (ps := (Q15 ++ [(!y13) = true, (!y13) = true, (!y13) = true])) (qs := []) (by kernel_rfl) (All_append.2 ⟨k16, ⟨h17, h17, h17, trivial⟩⟩) trivial
   ·obtain rfl := sI hx
    exact WK.fin (fn := Try.f29) Try.func29 (an := [.reg [(0, none, .nm 1003)], .draw [0, 1, 2, 3, 4, 5, 6] [(1, none, .call [] [] (.pv (.mp false (y2.map mKey) (y2.map (mRow (eOpt eInt))))) [] [])], .reg [(2, none, .mget (.pv .nilsl) (some [.nilsl]))], .draw [0, 1, 2, 3, 4, 5, 6, 7, 8, 9, 10, 11, 12, 13, 14, 15, 16, 17, 18, 19, 20, 21, 22, 23, 24, 25, 26, 27, 28, 29, 30, 31, 32, 33, 34, 35, 36, 37] [(1, none, .call [] [] (.pv (.bool y13)) [] []), (4, some false, .no), (5, some false, .no), (6, none, .bit false)], .bk, .reg []]) (kt := [2]) (ko := []) (frz := []) (ps := (Q15 ++ [(!y13) = false, (!y13) = false, (!y13) = false])) (qs := []) (by kernel_rfl) (All_append.2 ⟨k16, ⟨h17, h17, h17, trivial⟩⟩) trivial
  ·refine bd_ok hx fun y18 e19 hx => ?_
   let Q20 : List Prop := [Spec Try.prog 57 [.aggp [.int .i64 v1.Vertex.ID, .int .i64 v1.Vertex.Side, .sl (v1.Depots.map eInt), .sl (v1.Edges.map Edge.enc), .sl (v1.Labels.map Named.enc)]] [] (.pv (.mp false (y2.map mKey) (y2.map (mRow (eOpt eInt))))) [], intKeys .i64 (y2.map mKey), mfind (y2.map mKey) (y2.map (mRow (eOpt eInt))) (.int .i64 v1.Vertex.ID) = some [.sl (a11.map eInt)], rowAV false [.sl (a11.map eInt)] = some (.pv (.sl (a11.map eInt))), Spec Try.prog 58 [.aggp [.int .i64 v1.Vertex.ID, .int .i64 v1.Vertex.Side, .sl (v1.Depots.map eInt), .sl (v1.Edges.map Edge.enc), .sl (v1.Labels.map Named.enc)]] [] (.pv (.bool y18)) []]
   have k21 : All Q20 := ⟨forest_seen.ok v1 e3, ikOb, mfindOb_s h5 h12, rfl, forest_around.ok v1 e19, trivial⟩
   refine br_ok hx (fun h22 hx => ?_) (fun h22 hx => ?_)
   ·obtain rfl := sI hx
    exact WK.fin (fn := Try.f29) Try.func29 (an := [.reg [(0, none, .nm 1003)], .draw [0, 1, 2, 3, 4, 5, 6] [(1, none, .call [] [] (.pv (.mp false (y2.map mKey) (y2.map (mRow (eOpt eInt))))) [] [])], .reg [(2, none, .mget (.pv (.sl (a11.map eInt))) (some [.sl (a11.map eInt)]))], .draw [0, 1, 2, 3, 4, 5, 6, 7, 8, 9, 10, 11, 12, 13, 14, 15, 16, 17, 18, 19, 20, 21, 22, 23, 24, 25, 26, 27, 28, 29, 30, 31, 32, 33, 34, 35, 36, 37] [(1, none, .call [] [] (.pv (.bool y18)) [] []), (4, some true, .no), (5, some true, .no), (6, none, .bit true)], .bk, .reg []]) (kt := [2]) (ko := []) (frz := []) (ps := (Q20 ++ [(!y18) = true, (!y18) = true, (!y18) = true])) (qs := []) (by kernel_rfl) (All_append.2 ⟨k21, ⟨h22, h22, h22, trivial⟩⟩) trivial
   ·refine gd_ok hx fun h23 hx => ?_
    refine getR_ok hx fun a24 h25 h26 hx => ?_
    refine br_ok hx (fun h27 hx => ?_) (fun h27 hx => ?_)
    ·obtain rfl := sI hx
     exact WK.fin (fn := Try.f29) Try.func29 (an := [.reg [(0, none, .nm 1003)], .draw [0, 1, 2, 3, 4, 5, 6] [(1, none, .call [] [] (.pv (.mp false (y2.map mKey) (y2.map (mRow (eOpt eInt))))) [] [])], .reg [(2, none, .mget (.pv (.sl (a11.map eInt))) (some [.sl (a11.map eInt)]))], .draw [0, 1, 2, 3, 4, 5, 6, 7, 8, 9, 10, 11, 12, 13, 14, 15, 16, 17, 18, 19, 20, 21, 22, 23, 24, 25, 26, 27, 28, 29, 30, 31, 32, 33, 34, 35, 36, 37] [(1, none, .call [] [] (.pv (.bool y18)) [] []), (4, some false, .no), (5, some false, .no), (6, none, .bit false), (9, none, .row (eInt a24)), (14, some true, .no), (15, some true, .no), (16, some true, .no), (17, some true, .no), (18, some true, .no), (19, none, .bit true)], .bk, .reg []]) (kt := [2]) (ko := []) (frz := []) (ps := (Q20 ++ [(!y18) = false, (!y18) = false, (a11.map eInt) ≠ [], (!y18) = false, 0 ≤ (0 : Int), (a11.map eInt)[(0 : Int).toNat]? = some (eInt a24), (eInt a24).length = 1, (decide (a24 < 0)) = true, (decide (a24 < 0)) = true, (decide (a24 < 0)) = true, (decide (a24 < 0)) = true, (decide (a24 < 0)) = true, (decide (a24 < 0)) = true])) (qs := []) (by kernel_rfl) (All_append.2 ⟨k21, ⟨h22, h22, neOb h23, h22, h25, rowOb h26, rfl, h27, h27, h27, h27, h27, h27, trivial⟩⟩) trivial
    ·refine getR_ok hx fun a28 h29 h30 hx => ?_
     let B31 : Anns := [(1, none, .call [] [] (.pv (.bool y18)) [] []), (4, some false, .no), (5, some false, .no), (6, none, .bit false), (9, none, .row (eInt a24)), (14, some false, .no), (15, some false, .row (eInt a28)), (16, some false, .no), (17, some false, .no), (18, some false, .no), (19, none, .bit false)]
     let Q32 : List Prop := (Q20 ++ [(!y18) = false, (!y18) = false, (a11.map eInt) ≠ [], (!y18) = false, 0 ≤ (0 : Int), (a11.map eInt)[(0 : Int).toNat]? = some (eInt a24), (eInt a24).length = 1, (decide (a24 < 0)) = false, (decide (a24 < 0)) = false, 0 ≤ (0 : Int), (a11.map eInt)[(0 : Int).toNat]? = some (eInt a28), (eInt a28).length = 1, (decide (a24 < 0)) = false, (decide (a24 < 0)) = false, (decide (a24 < 0)) = false, (decide (a24 < 0)) = false])
     have k33 : All Q32 := (All_append.2 ⟨k21, ⟨h22, h22, neOb h23, h22, h25, rowOb h26, rfl, h27, h27, h29, rowOb h30, rfl, h27, h27, h27, h27, trivial⟩⟩)
     refine br_ok hx (fun h34 hx => ?_) (fun h34 hx => ?_)
     ·obtain rfl := sI hx
      exact WK.fin (fn := Try.f29) Try.func29 (an := [.reg [(0, none, .nm 1003)], .draw [0, 1, 2, 3, 4, 5, 6] [(1, none, .call [] [] (.pv (.mp false (y2.map mKey) (y2.map (mRow (eOpt eInt))))) [] [])], .reg [(2, none, .mget (.pv (.sl (a11.map eInt))) (some [.sl (a11.map eInt)]))], .draw [0, 1, 2, 3, 4, 5, 6, 7, 8, 9, 10, 11, 12, 13, 14, 15, 16, 17, 18, 19, 20, 21, 22, 23, 24, 25, 26, 27, 28, 29, 30, 31, 32, 33, 34, 35, 36, 37] (B31 ++ [(21, some true, .no), (22, some true, .no), (23, some true, .no), (24, some true, .no), (25, none, .bit true)]), .bk, .reg []]) (kt := [2]) (ko := []) (frz := []) (ps := (Q32 ++ [(decide (a28 > v1.Vertex.ID)) = true, (decide (a28 > v1.Vertex.ID)) = true, (decide (a28 > v1.Vertex.ID)) = true, (decide (a28 > v1.Vertex.ID)) = true, (decide (a28 > v1.Vertex.ID)) = true])) (qs := []) (by kernel_rfl) (All_append.2 ⟨k33, ⟨h34, h34, h34, h34, h34, trivial⟩⟩) trivial
     ·refine getR_ok hx fun a35 h36 h37 hx => ?_
      let Q38 : List Prop := (Q32 ++ [(decide (a28 > v1.Vertex.ID)) = false, (decide (a28 > v1.Vertex.ID)) = false, 0 ≤ (1 : Int), (a11.map eInt)[(1 : Int).toNat]? = some (eInt a35), (eInt a35).length = 1, (decide (a28 > v1.Vertex.ID)) = false, (decide (a28 > v1.Vertex.ID)) = false, (decide (a28 > v1.Vertex.ID)) = false])
      have k39 : All Q38 := (All_append.2 ⟨k33, ⟨h34, h34, h36, rowOb h37, rfl, h34, h34, h34, trivial⟩⟩)
      refine br_ok hx (fun h40 hx => ?_) (fun h40 hx => ?_)
      ·obtain rfl := sI hx
       exact WK.fin (fn := Try.f29) Try.func29 (an := [.reg [(0, none, .nm 1003)], .draw [0, 1, 2, 3, 4, 5, 6] [(1, none, .call [] [] (.pv (.mp false (y2.map mKey) (y2.map (mRow (eOpt eInt))))) [] [])], .reg [(2, none, .mget (.pv (.sl (a11.map eInt))) (some [.sl (a11.map eInt)]))], .draw [0, 1, 2, 3, 4, 5, 6, 7, 8, 9, 10, 11, 12, 13, 14, 15, 16, 17, 18, 19, 20, 21, 22, 23, 24, 25, 26, 27, 28, 29, 30, 31, 32, 33, 34, 35, 36, 37] (B31 ++ [(21, some false, .no), (22, some false, .row (eInt a35)), (23, some false, .no), (24, some false, .no), (25, none, .bit false), (27, some true, .no), (28, some true, .no), (29, some true, .no), (30, some true, .no), (31, some true, .no), (32, some true, .no), (33, some true, .no), (34, some true, .no), (35, some true, .no), (36, some true, .no), (37, none, .bit true)]), .bk, .reg []]) (kt := [2]) (ko := []) (frz := []) (ps := (Q38 ++ [(decide (a35 < 0)) = true, (decide (a35 < 0)) = true, (decide (a35 < 0)) = true, (decide (a35 < 0)) = true, (decide (a35 < 0)) = true, (decide (a35 < 0)) = true, (decide (a35 < 0)) = true, (decide (a35 < 0)) = true, (decide (a35 < 0)) = true, (decide (a35 < 0)) = true, (decide (a35 < 0)) = true])) (qs := []) (by kernel_rfl) (All_append.2 ⟨k39, ⟨h40, h40, h40, h40, h40, h40, h40, h40, h40, h40, h40, trivial⟩⟩) trivial
      ·refine getR_ok hx fun a41 h42 h43 hx => ?_
       refine getR_ok hx fun a44 h45 h46 hx => ?_
       refine WK.run (an := [.reg [(0, none, .nm 1003)], .draw [0, 1, 2, 3, 4, 5, 6] [(1, none, .call [] [] (.pv (.mp false (y2.map mKey) (y2.map (mRow (eOpt eInt))))) [] [])], .reg [(2, none, .mget (.pv (.sl (a11.map eInt))) (some [.sl (a11.map eInt)]))], .draw [0, 1, 2, 3, 4, 5, 6, 7, 8, 9, 10, 11, 12, 13, 14, 15, 16, 17, 18, 19, 20, 21, 22, 23, 24, 25, 26, 27, 28, 29, 30, 31, 32, 33, 34, 35, 36, 37] (B31 ++ [(21, some false, .no), (22, some false, .row (eInt a35)), (23, some false, .no), (24, some false, .no), (25, none, .bit false), (27, some false, .no), (28, some false, .row (eInt a41)), (29, some false, .no), (30, some false, .no), (31, some false, .no), (32, some false, .row (eInt a44)), (33, some false, .no), (34, some false, .no), (35, some false, .no), (36, some false, .no), (37, none, .bit false)])]) (kt := [1, 3, 4, 5, 55]) (ko := [(1003, 101)]) (k' := [.code (sub b29 [1, 1, 1, 0, 1]), .code (sub b29 [1, 1, 1, 1])]) (σ' := ⟨121, [(1, .ref 101 0 0 0), (3, .pv (.mp false (y2.map mKey) (y2.map (mRow (eOpt eInt))))), (4, .pv (.int .i64 v1.Vertex.ID)), (5, .pv (.sl (a11.map eInt))), (55, .pv (.bool (!((a41 == 0) == (a44 == v1.Vertex.ID)))))], [(101, .varp [.int .i64 v1.Vertex.ID, .int .i64 v1.Vertex.Side, .sl (v1.Depots.map eInt), .sl (v1.Edges.map Edge.enc), .sl (v1.Labels.map Named.enc)])]⟩) (ps := (Q38 ++ [(decide (a35 < 0)) = false, (decide (a35 < 0)) = false, 0 ≤ (1 : Int), (a11.map eInt)[(1 : Int).toNat]? = some (eInt a41), (eInt a41).length = 1, (decide (a35 < 0)) = false, (decide (a35 < 0)) = false, (decide (a35 < 0)) = false, (decide (a35 < 0)) = false, 0 ≤ (0 : Int), (a11.map eInt)[(0 : Int).toNat]? = some (eInt a44), (eInt a44).length = 1, (decide (a35 < 0)) = false, (decide (a35 < 0)) = false, (decide (a35 < 0)) = false, (decide (a35 < 0)) = false, (decide (a35 < 0)) = false]))
        (by kernel_rfl) (All_append.2 ⟨k39, ⟨h40, h40, h42, rowOb h43, rfl, h40, h40, h40, h40, h45, rowOb h46, rfl, h40, h40, h40, h40, h40, trivial⟩⟩) ?_
       refine br_ok hx (fun h47 hx => ?_) (fun h47 hx => ?_)
       ·obtain rfl := sI hx
        exact WK.fin (fn := Try.f29) Try.func29 (an := [.br true, .reg []]) (kt := [2]) (ko := []) (frz := []) (ps := [(!((a41 == 0) == (a44 == v1.Vertex.ID))) = true]) (qs := []) (by kernel_rfl) ⟨h47, trivial⟩ trivial
       ·refine bd_ok hx fun q98 e99 hx => ?_
        refine WK.run (an := [.br false, .reg [], .reg [(2, none, .val (.pv (.int .i64 ((v1.Edges.length : Nat) : Int))))]]) (kt := [3, 4, 5, 6, 57, 58, 59]) (ko := []) (ps := [(!((a41 == 0) == (a44 == v1.Vertex.ID))) = false, AV.pv (.int .i64 ((v1.Edges.map Edge.enc).length : Nat)) = .pv (.int .i64 (v1.Edges.length : Nat))]) (by kernel_rfl) ⟨h47, lenOb, trivial⟩ (WK.enterLoop (forest_Good.l0.ok y2 v1.Vertex.ID a11 v1.Edges ((v1.Edges.length : Nat) : Int) _ _ _ _ e99 ?_))
        rcases q98 with (q98 | q98)
        ·obtain rfl := sI hx
         exact WK.fin (fn := Try.f29) Try.func29 (an := []) (kt := [2]) (ko := []) (frz := []) (ps := []) (qs := []) (by kernel_rfl) trivial trivial
        ·refine br_ok hx (fun h100 hx => ?_) (fun h100 hx => ?_)
         ·refine getR_ok hx fun a101 h102 h103 hx => ?_
          obtain rfl := sI hx
          exact WK.fin (fn := Try.f29) Try.func29 (an := [.br true, .reg [(1, none, .row (eInt a101))]]) (kt := [2]) (ko := []) (frz := []) (ps := [q98.2 = true, 0 ≤ (2 : Int), (a11.map eInt)[(2 : Int).toNat]? = some (eInt a101), (eInt a101).length = 1]) (qs := []) (by kernel_rfl) ⟨h100, h102, rowOb h103, rfl, trivial⟩ trivial
         ·refine br_ok hx (fun h104 hx => ?_) (fun h104 hx => ?_)
          ·refine getR_ok hx fun a105 h106 h107 hx => ?_
           obtain rfl := sI hx
           exact WK.fin (fn := Try.f29) Try.func29 (an := [.br false, .reg [(3, some true, .no), (4, none, .row (eInt a105))]]) (kt := [2]) (ko := []) (frz := []) (ps := [q98.2 = false, (decide (q98.1 ≥ 0)) = true, 0 ≤ (2 : Int), (a11.map eInt)[(2 : Int).toNat]? = some (eInt a105), (eInt a105).length = 1]) (qs := []) (by kernel_rfl) ⟨h100, h104, h106, rowOb h107, rfl, trivial⟩ trivial
          ·obtain rfl := sI hx
           exact WK.fin (fn := Try.f29) Try.func29 (an := [.br false, .reg [(3, some false, .no)]]) (kt := [2]) (ko := []) (frz := []) (ps := [q98.2 = false, (decide (q98.1 ≥ 0)) = false]) (qs := []) (by kernel_rfl) ⟨h100, h104, trivial⟩ trivial
noncomputable abbrev b31 : Code := body Try.f31
noncomputable def forest_Count (v1 : View) : Option Int :=
 bd (forest_seen v1) fun y2 =>
 oc (mapGet y2 v1.Vertex.ID) (
  some 0) fun a4 => (
  oc (a4) (
   some 0) fun a6 => (
   gd (a6.isEmpty = false) <|
   getR a6 1 fun a9 =>
   br (a9 == 0) (
    some 1) (
    some 0)))
theorem forest_Count.ok (v1 : View) {x : Int} (hx : forest_Count v1 = some x) :
  Spec Try.prog 31 [.aggp [.int .i64 v1.Vertex.ID, .int .i64 v1.Vertex.Side, .sl (v1.Depots.map eInt), .sl (v1.Edges.map Edge.enc), .sl (v1.Labels.map Named.enc)]] [] (.pv (.int .i64 x)) [] := by
 refine Spec.of (c := b31) Try.func31 rfl rfl rfl ?_
 unfold forest_Count at hx
 refine bd_ok hx fun y2 e3 hx => ?_
 refine oc_ok hx (fun h5 hx => ?_) (fun a4 h5 hx => ?_)
 ·obtain rfl := sI hx
  exact WK.fin (fn := Try.f31) Try.func31 (an := [.reg [(0, none, .nm 1003)], .draw [0, 1, 2, 3, 4, 5, 6] [(1, none, .call [] [] (.pv (.mp false (y2.map mKey) (y2.map (mRow (eOpt eInt))))) [] []), (5, none, .mget .undef none)], .reg [], .bk, .reg []]) (kt := [2]) (ko := []) (frz := []) (ps := [Spec Try.prog 57 [.aggp [.int .i64 v1.Vertex.ID, .int .i64 v1.Vertex.Side, .sl (v1.Depots.map eInt), .sl (v1.Edges.map Edge.enc), .sl (v1.Labels.map Named.enc)]] [] (.pv (.mp false (y2.map mKey) (y2.map (mRow (eOpt eInt))))) [], intKeys .i64 (y2.map mKey), mfind (y2.map mKey) (y2.map (mRow (eOpt eInt))) (.int .i64 v1.Vertex.ID) = none]) (qs := []) (by kernel_rfl) ⟨forest_seen.ok v1 e3, ikOb, mfindOb0 h5, trivial⟩ trivial
 ·refine oc_ok hx (fun h7 hx => ?_) (fun a6 h7 hx => ?_)
  ·obtain rfl := sI hx
   exact WK.fin (fn := Try.f31) Try.func31 (an := [.reg [(0, none, .nm 1003)], .draw [0, 1, 2, 3, 4, 5, 6] [(1, none, .call [] [] (.pv (.mp false (y2.map mKey) (y2.map (mRow (eOpt eInt))))) [] []), (5, none, .mget (.pv .nilsl) (some [.nilsl]))], .reg [], .bk, .reg []]) (kt := [2]) (ko := []) (frz := []) (ps := [Spec Try.prog 57 [.aggp [.int .i64 v1.Vertex.ID, .int .i64 v1.Vertex.Side, .sl (v1.Depots.map eInt), .sl (v1.Edges.map Edge.enc), .sl (v1.Labels.map Named.enc)]] [] (.pv (.mp false (y2.map mKey) (y2.map (mRow (eOpt eInt))))) [], intKeys .i64 (y2.map mKey), mfind (y2.map mKey) (y2.map (mRow (eOpt eInt))) (.int .i64 v1.Vertex.ID) = some [.nilsl], rowAV false [.nilsl] = some (.pv .nilsl)]) (qs := []) (by kernel_rfl) ⟨forest_seen.ok v1 e3, ikOb, mfindOb_n h5 h7, rfl, trivial⟩ trivial
  ·refine gd_ok hx fun h8 hx => ?_
   refine getR_ok hx fun a9 h10 h11 hx => ?_
   let Q12 : List Prop := [Spec Try.prog 57 [.aggp [.int .i64 v1.Vertex.ID, .int .i64 v1.Vertex.Side, .sl (v1.Depots.map eInt), .sl (v1.Edges.map Edge.enc), .sl (v1.Labels.map Named.enc)]] [] (.pv (.mp false (y2.map mKey) (y2.map (mRow (eOpt eInt))))) [], intKeys .i64 (y2.map mKey), mfind (y2.map mKey) (y2.map (mRow (eOpt eInt))) (.int .i64 v1.Vertex.ID) = some [.sl (a6.map eInt)], rowAV false [.sl (a6.map eInt)] = some (.pv (.sl (a6.map eInt))), (a6.map eInt) ≠ [], 0 ≤ (1 : Int), (a6.map eInt)[(1 : Int).toNat]? = some (eInt a9), (eInt a9).length = 1]
   have k13 : All Q12 := ⟨forest_seen.ok v1 e3, ikOb, mfindOb_s h5 h7, rfl, neOb h8, h10, rowOb h11, rfl, trivial⟩
   refine br_ok hx (fun h14 hx => ?_) (fun h14 hx => ?_)
   ·obtain rfl := sI hx
    exact WK.fin (fn := Try.f31) Try.func31 (an := [.reg [(0, none, .nm 1003)], .draw [0, 1, 2, 3, 4, 5, 6] [(1, none, .call [] [] (.pv (.mp false (y2.map mKey) (y2.map (mRow (eOpt eInt))))) [] []), (5, none, .mget (.pv (.sl (a6.map eInt))) (some [.sl (a6.map eInt)]))], .reg [(4, none, .row (eInt a9))], .br true, .reg []]) (kt := [2]) (ko := []) (frz := []) (ps := (Q12 ++ [(a9 == 0) = true])) (qs := []) (by kernel_rfl) (All_append.2 ⟨k13, ⟨h14, trivial⟩⟩) trivial
   ·obtain rfl := sI hx
    exact WK.fin (fn := Try.f31) Try.func31 (an := [.reg [(0, none, .nm 1003)], .draw [0, 1, 2, 3, 4, 5, 6] [(1, none, .call [] [] (.pv (.mp false (y2.map mKey) (y2.map (mRow (eOpt eInt))))) [] []), (5, none, .mget (.pv (.sl (a6.map eInt))) (some [.sl (a6.map eInt)]))], .reg [(4, none, .row (eInt a9))], .br false, .reg []]) (kt := [2]) (ko := []) (frz := []) (ps := (Q12 ++ [(a9 == 0) = false])) (qs := []) (by kernel_rfl) (All_append.2 ⟨k13, ⟨h14, trivial⟩⟩) trivial
noncomputable abbrev b8 : Code := body Try.f8
noncomputable def w7sane : Option Bool :=
 bd (w7example) fun y1 =>
 bd (forest_Labels y1) fun y3 =>
 bd (forest_Connected y1 2 3) fun y5 =>
 bd (forest_Connected y1 0 5) fun y7 =>
 bd (forest_Path y1 2 3) fun y9 =>
 bd (forest_Path y1 3 3) fun y11 =>
 bd (forest_Side y1 3) fun y13 =>
 bd (forest_Path y1 0 5) fun y15 =>
 bd (forest_Labels (Graph.mk [] [] [1])) fun y17 =>
 br (y3.2 != 0) (
  some false) (
  br (y5.2 != 0) (
   some false) (
   br (y7.2 != 0) (
    some false) (
    br (y9.2 != 0) (
     some false) (
     br (y11.2 != 0) (
      some false) (
      br (y13.2 != 0) (
       some false) (
       br (y15.2 != 70) (
        some false) (
        br (y17.2 != 70) (
         some false) (
         br (!y5.1) (
          some false) (
          br y7.1 (
           some false) (
           br (decide (((y11.1.length : Nat) : Int) > 0)) (
            some false) (
            bd (r7View y1 [(Named.mk 0 [0, 0, (-1)]), (Named.mk 1 [1, 0, (-1)]), (Named.mk 2 [1, 1, 0]), (Named.mk 3 [1, 1, 4]), (Named.mk 5 [5, 0, (-1)])] 3) fun y36 =>
            bd (r7Bent [(Named.mk 0 [0, 0, (-1)]), (Named.mk 1 [1, 0, (-1)]), (Named.mk 2 [1, 1, 0]), (Named.mk 3 [1, 1, 4]), (Named.mk 5 [5, 0, (-1)])] [(A3_Int.mk 3 1 1)]) fun y38 =>
            bd (r7View y1 y38 3) fun y40 =>
            bd (forest_CheckPath y1 2 3 [6]) fun y42 =>
            br y42 (
             bd (forest_CheckPath y1 2 3 [0]) fun y48 =>
             br (!y48) (
              bd (forest_CheckSide y1 0 5 [0, 1]) fun y53 =>
              br (!y53) (
               bd (forest_CheckSide y1 0 5 [0]) fun y58 =>
               br y58 (
                bd (r7SameLabels y3.1 [(Named.mk 0 [0, 0, (-1)]), (Named.mk 1 [1, 0, (-1)]), (Named.mk 2 [1, 1, 0]), (Named.mk 3 [1, 1, 4]), (Named.mk 5 [5, 0, (-1)])]) fun y64 =>
                br y64 (
                 bd (r3Ints y9.1 [0, 4]) fun y69 =>
                 br y69 (
                  bd (r3Ints y13.1 [1, 2, 3]) fun y72 =>
                  br y72 (
                   bd (forest_Good y36) fun y77 =>
                   br y77 (
                    bd (forest_Good y40) fun y81 =>
                    br (!y81) (
                     bd (forest_Count y36) fun y86 =>
                     br (y86 == 0) (
                      bd (r7View y1 [(Named.mk 0 [0, 0, (-1)]), (Named.mk 1 [1, 0, (-1)]), (Named.mk 2 [1, 1, 0]), (Named.mk 3 [1, 1, 4]), (Named.mk 5 [5, 0, (-1)])] 1) fun y89 =>
                      bd (forest_Count y89) fun y91 =>
                      some (y91 == 1)) (
                      some false)) (
                     some false)) (
                    some false)) (
                   some false)) (
                  some false)) (
                 some false)) (
                some false)) (
               some false)) (
              some false)) (
             some false))))))))))))
theorem w7sane.ok {x : Bool} (hx : w7sane = some x) :
  Spec Try.prog 8 [] [] (.pv (.bool x)) [] := by
 refine Spec.of (c := b8) Try.func8 rfl rfl rfl ?_
 unfold w7sane at hx
 refine bd_ok hx fun y1 e2 hx => ?_
 refine bd_ok hx fun y3 e4 hx => ?_
 refine bd_ok hx fun y5 e6 hx => ?_
 refine bd_ok hx fun y7 e8 hx => ?_
 refine bd_ok hx fun y9 e10 hx => ?_
 refine bd_ok hx fun y11 e12 hx => ?_
 refine bd_ok hx fun y13 e14 hx => ?_
 refine bd_ok hx fun y15 e16 hx => ?_
 refine bd_ok hx fun y17 e18 hx => ?_
 let A19 : List An := [.reg [], .reg [(0, none, .call [] [] (.aggp [.sl (y1.Vertices.map Vertex.enc), .sl (y1.Edges.map Edge.enc), .sl (y1.Depots.map eInt)]) [] []), (1, none, .nmv 1003 (.aggp [.sl ([].map Vertex.enc), .sl ([].map Edge.enc), .sl ([].map eInt)]))], .reg [(1, none, .call [] [] (.tup [.pv (.sl (y3.1.map Named.enc)), .pv (.int .i64 y3.2)]) [] [])], .reg [(0, none, .fz 1005 (.nm 1005)), (2, none, .fz 1007 (.nm 1007)), (4, none, .fz 1009 (.nm 1009)), (6, none, .fz 1011 (.nm 1011)), (8, none, .fz 1013 (.nm 1013)), (10, none, .nm 1015)], .reg [(1, none, .call [] [] (.tup [.pv (.bool y5.1), .pv (.int .i64 y5.2)]) [] [])], .reg [(1, none, .call [] [] (.tup [.pv (.bool y7.1), .pv (.int .i64 y7.2)]) [] [])], .reg [(1, none, .call [] [] (.tup [.pv (.sl (y9.1.map eInt)), .pv (.int .i64 y9.2)]) [] [])], .reg [(1, none, .call [] [] (.tup [.pv (.sl (y11.1.map eInt)), .pv (.int .i64 y11.2)]) [] [])], .reg [(1, none, .call [] [] (.tup [.pv (.sl (y13.1.map eInt)), .pv (.int .i64 y13.2)]) [] [])], .reg [(1, none, .call [] [] (.tup [.pv (.sl (y15.1.map eInt)), .pv (.int .i64 y15.2)]) [] [])], .reg [(0, none, .nm 1017), (1, none, .val (.agg [.pv (.sl ([].map Vertex.enc)), .pv (.sl ([].map Edge.enc)), .hd 1017 0 1 1])), (2, none, .call [1017] [] (.tup [.pv (.sl (y17.1.map Named.enc)), .pv (.int .i64 y17.2)]) [] [])]]
 let Q20 : List Prop := [Spec Try.prog 37 [] [] (.aggp [.sl (y1.Vertices.map Vertex.enc), .sl (y1.Edges.map Edge.enc), .sl (y1.Depots.map eInt)]) [], 3 = 3, Spec Try.prog 11 [.aggp [.sl (y1.Vertices.map Vertex.enc), .sl (y1.Edges.map Edge.enc), .sl (y1.Depots.map eInt)]] [] (.tup [.pv (.sl (y3.1.map Named.enc)), .pv (.int .i64 y3.2)]) [], 1 = 1, 1 = 1, 1 = 1, 1 = 1, 3 = ([0, 0, (-1)].map eInt).length, 1 = 1, 1 = 1, 1 = 1, 1 = 1, 3 = ([1, 0, (-1)].map eInt).length, 1 = 1, 1 = 1, 1 = 1, 1 = 1, 3 = ([1, 1, 0].map eInt).length, 1 = 1, 1 = 1, 1 = 1, 1 = 1, 3 = ([1, 1, 4].map eInt).length, 1 = 1, 1 = 1, 1 = 1, 1 = 1, 3 = ([5, 0, (-1)].map eInt).length, 2 = 2, 2 = 2, 2 = 2, 2 = 2, 2 = 2, 2 = 2, Spec Try.prog 15 [.aggp [.sl (y1.Vertices.map Vertex.enc), .sl (y1.Edges.map Edge.enc), .sl (y1.Depots.map eInt)], .pv (.int .i64 2), .pv (.int .i64 3)] [] (.tup [.pv (.bool y5.1), .pv (.int .i64 y5.2)]) [], Spec Try.prog 15 [.aggp [.sl (y1.Vertices.map Vertex.enc), .sl (y1.Edges.map Edge.enc), .sl (y1.Depots.map eInt)], .pv (.int .i64 0), .pv (.int .i64 5)] [] (.tup [.pv (.bool y7.1), .pv (.int .i64 y7.2)]) [], Spec Try.prog 17 [.aggp [.sl (y1.Vertices.map Vertex.enc), .sl (y1.Edges.map Edge.enc), .sl (y1.Depots.map eInt)], .pv (.int .i64 2), .pv (.int .i64 3)] [] (.tup [.pv (.sl (y9.1.map eInt)), .pv (.int .i64 y9.2)]) [], Spec Try.prog 17 [.aggp [.sl (y1.Vertices.map Vertex.enc), .sl (y1.Edges.map Edge.enc), .sl (y1.Depots.map eInt)], .pv (.int .i64 3), .pv (.int .i64 3)] [] (.tup [.pv (.sl (y11.1.map eInt)), .pv (.int .i64 y11.2)]) [], Spec Try.prog 19 [.aggp [.sl (y1.Vertices.map Vertex.enc), .sl (y1.Edges.map Edge.enc), .sl (y1.Depots.map eInt)], .pv (.int .i64 3)] [] (.tup [.pv (.sl (y13.1.map eInt)), .pv (.int .i64 y13.2)]) [], Spec Try.prog 17 [.aggp [.sl (y1.Vertices.map Vertex.enc), .sl (y1.Edges.map Edge.enc), .sl (y1.Depots.map eInt)], .pv (.int .i64 0), .pv (.int .i64 5)] [] (.tup [.pv (.sl (y15.1.map eInt)), .pv (.int .i64 y15.2)]) [], 1 = 1, 1 = 1, AV.hd 1017 0 1 1 = .hd 1017 0 1 1, 1 = ([1].map eInt).length, Spec Try.prog 11 [.aggp [.sl ([].map Vertex.enc), .sl ([].map Edge.enc), .sl ([1].map eInt)]] [] (.tup [.pv (.sl (y17.1.map Named.enc)), .pv (.int .i64 y17.2)]) []]
 have k21 : All Q20 := ⟨w7example.ok  e2, rfl, forest_Labels.ok y1 e4, rfl, rfl, rfl, rfl, rfl, rfl, rfl, rfl, rfl, rfl, rfl, rfl, rfl, rfl, rfl, rfl, rfl, rfl, rfl, rfl, rfl, rfl, rfl, rfl, rfl, rfl, rfl, rfl, rfl, rfl, rfl, forest_Connected.ok y1 2 3 e6, forest_Connected.ok y1 0 5 e8, forest_Path.ok y1 2 3 e10, forest_Path.ok y1 3 3 e12, forest_Side.ok y1 3 e14, forest_Path.ok y1 0 5 e16, rfl, rfl, rfl, rfl, forest_Labels.ok (Graph.mk [] [] [1]) e18, trivial⟩
 refine br_ok hx (fun h22 hx => ?_) (fun h22 hx => ?_)
 ·obtain rfl := sI hx
  exact WK.fin (fn := Try.f8) Try.func8 (an := (A19 ++ [.reg [(3, some true, .no)], .bk, .reg []])) (kt := [0]) (ko := []) (frz := []) (ps := (Q20 ++ [(y3.2 != 0) = true])) (qs := []) (by kernel_rfl) (All_append.2 ⟨k21, ⟨h22, trivial⟩⟩) trivial
 ·refine br_ok hx (fun h23 hx => ?_) (fun h23 hx => ?_)
  ·obtain rfl := sI hx
   exact WK.fin (fn := Try.f8) Try.func8 (an := (A19 ++ [.reg [(3, some false, .no), (7, some true, .no)], .bk, .reg []])) (kt := [0]) (ko := []) (frz := []) (ps := (Q20 ++ [(y3.2 != 0) = false, (y5.2 != 0) = true])) (qs := []) (by kernel_rfl) (All_append.2 ⟨k21, ⟨h22, h23, trivial⟩⟩) trivial
  ·refine br_ok hx (fun h24 hx => ?_) (fun h24 hx => ?_)
   ·obtain rfl := sI hx
    exact WK.fin (fn := Try.f8) Try.func8 (an := (A19 ++ [.reg [(3, some false, .no), (7, some false, .no), (11, some true, .no)], .bk, .reg []])) (kt := [0]) (ko := []) (frz := []) (ps := (Q20 ++ [(y3.2 != 0) = false, (y5.2 != 0) = false, (y7.2 != 0) = true])) (qs := []) (by kernel_rfl) (All_append.2 ⟨k21, ⟨h22, h23, h24, trivial⟩⟩) trivial
   ·refine br_ok hx (fun h25 hx => ?_) (fun h25 hx => ?_)
    ·obtain rfl := sI hx
     exact WK.fin (fn := Try.f8) Try.func8 (an := (A19 ++ [.reg [(3, some false, .no), (7, some false, .no), (11, some false, .no), (15, some true, .no)], .bk, .reg []])) (kt := [0]) (ko := []) (frz := []) (ps := (Q20 ++ [(y3.2 != 0) = false, (y5.2 != 0) = false, (y7.2 != 0) = false, (y9.2 != 0) = true])) (qs := []) (by kernel_rfl) (All_append.2 ⟨k21, ⟨h22, h23, h24, h25, trivial⟩⟩) trivial
    ·refine br_ok hx (fun h26 hx => ?_) (fun h26 hx => ?_)
     ·obtain rfl := sI hx
      exact WK.fin (fn := Try.f8) Try.func8 (an := (A19 ++ [.reg [(3, some false, .no), (7, some false, .no), (11, some false, .no), (15, some false, .no), (19, some true, .no)], .bk, .reg []])) (kt := [0]) (ko := []) (frz := []) (ps := (Q20 ++ [(y3.2 != 0) = false, (y5.2 != 0) = false, (y7.2 != 0) = false, (y9.2 != 0) = false, (y11.2 != 0) = true])) (qs := []) (by kernel_rfl) (All_append.2 ⟨k21, ⟨h22, h23, h24, h25, h26, trivial⟩⟩) trivial
     ·refine br_ok hx (fun h27 hx => ?_) (fun h27 hx => ?_)
      ·obtain rfl := sI hx
       exact WK.fin (fn := Try.f8) Try.func8 (an := (A19 ++ [.reg [(3, some false, .no), (7, some false, .no), (11, some false, .no), (15, some false, .no), (19, some false, .no), (23, some true, .no)], .bk, .reg []])) (kt := [0]) (ko := []) (frz := []) (ps := (Q20 ++ [(y3.2 != 0) = false, (y5.2 != 0) = false, (y7.2 != 0) = false, (y9.2 != 0) = false, (y11.2 != 0) = false, (y13.2 != 0) = true])) (qs := []) (by kernel_rfl) (All_append.2 ⟨k21, ⟨h22, h23, h24, h25, h26, h27, trivial⟩⟩) trivial
      ·refine br_ok hx (fun h28 hx => ?_) (fun h28 hx => ?_)
       ·obtain rfl := sI hx
        exact WK.fin (fn := Try.f8) Try.func8 (an := (A19 ++ [.reg [(3, some false, .no), (7, some false, .no), (11, some false, .no), (15, some false, .no), (19, some false, .no), (23, some false, .no), (27, some true, .no)], .bk, .reg []])) (kt := [0]) (ko := []) (frz := []) (ps := (Q20 ++ [(y3.2 != 0) = false, (y5.2 != 0) = false, (y7.2 != 0) = false, (y9.2 != 0) = false, (y11.2 != 0) = false, (y13.2 != 0) = false, (y15.2 != 70) = true])) (qs := []) (by kernel_rfl) (All_append.2 ⟨k21, ⟨h22, h23, h24, h25, h26, h27, h28, trivial⟩⟩) trivial
       ·refine br_ok hx (fun h29 hx => ?_) (fun h29 hx => ?_)
        ·obtain rfl := sI hx
         exact WK.fin (fn := Try.f8) Try.func8 (an := (A19 ++ [.reg [(3, some false, .no), (7, some false, .no), (11, some false, .no), (15, some false, .no), (19, some false, .no), (23, some false, .no), (27, some false, .no), (31, some true, .no)], .bk, .reg []])) (kt := [0]) (ko := []) (frz := []) (ps := (Q20 ++ [(y3.2 != 0) = false, (y5.2 != 0) = false, (y7.2 != 0) = false, (y9.2 != 0) = false, (y11.2 != 0) = false, (y13.2 != 0) = false, (y15.2 != 70) = false, (y17.2 != 70) = true])) (qs := []) (by kernel_rfl) (All_append.2 ⟨k21, ⟨h22, h23, h24, h25, h26, h27, h28, h29, trivial⟩⟩) trivial
        ·refine br_ok hx (fun h30 hx => ?_) (fun h30 hx => ?_)
         ·obtain rfl := sI hx
          exact WK.fin (fn := Try.f8) Try.func8 (an := (A19 ++ [.reg [(3, some false, .no), (7, some false, .no), (11, some false, .no), (15, some false, .no), (19, some false, .no), (23, some false, .no), (27, some false, .no), (31, some false, .no), (35, some true, .no)], .bk, .reg []])) (kt := [0]) (ko := []) (frz := []) (ps := (Q20 ++ [(y3.2 != 0) = false, (y5.2 != 0) = false, (y7.2 != 0) = false, (y9.2 != 0) = false, (y11.2 != 0) = false, (y13.2 != 0) = false, (y15.2 != 70) = false, (y17.2 != 70) = false, (!y5.1) = true])) (qs := []) (by kernel_rfl) (All_append.2 ⟨k21, ⟨h22, h23, h24, h25, h26, h27, h28, h29, h30, trivial⟩⟩) trivial
         ·refine br_ok hx (fun h31 hx => ?_) (fun h31 hx => ?_)
          ·obtain rfl := sI hx
           exact WK.fin (fn := Try.f8) Try.func8 (an := (A19 ++ [.reg [(3, some false, .no), (7, some false, .no), (11, some false, .no), (15, some false, .no), (19, some false, .no), (23, some false, .no), (27, some false, .no), (31, some false, .no), (35, some false, .no), (38, some true, .no)], .bk, .reg []])) (kt := [0]) (ko := []) (frz := []) (ps := (Q20 ++ [(y3.2 != 0) = false, (y5.2 != 0) = false, (y7.2 != 0) = false, (y9.2 != 0) = false, (y11.2 != 0) = false, (y13.2 != 0) = false, (y15.2 != 70) = false, (y17.2 != 70) = false, (!y5.1) = false, y7.1 = true])) (qs := []) (by kernel_rfl) (All_append.2 ⟨k21, ⟨h22, h23, h24, h25, h26, h27, h28, h29, h30, h31, trivial⟩⟩) trivial
          ·let A32 : List An := (A19 ++ [.reg [(3, some false, .no), (7, some false, .no), (11, some false, .no), (15, some false, .no), (19, some false, .no), (23, some false, .no), (27, some false, .no), (31, some false, .no), (35, some false, .no), (38, some false, .no), (39, none, .val (.pv (.int .i64 ((y11.1.length : Nat) : Int))))]])
           let Q33 : List Prop := (Q20 ++ [(y3.2 != 0) = false, (y5.2 != 0) = false, (y7.2 != 0) = false, (y9.2 != 0) = false, (y11.2 != 0) = false, (y13.2 != 0) = false, (y15.2 != 70) = false, (y17.2 != 70) = false, (!y5.1) = false, y7.1 = false, AV.pv (.int .i64 ((y11.1.map eInt).length : Nat)) = .pv (.int .i64 (y11.1.length : Nat))])
           have k34 : All Q33 := (All_append.2 ⟨k21, ⟨h22, h23, h24, h25, h26, h27, h28, h29, h30, h31, lenOb, trivial⟩⟩)
           refine br_ok hx (fun h35 hx => ?_) (fun h35 hx => ?_)
           ·obtain rfl := sI hx
            exact WK.fin (fn := Try.f8) Try.func8 (an := (A32 ++ [.br true, .reg []])) (kt := [0]) (ko := []) (frz := []) (ps := (Q33 ++ [(decide (((y11.1.length : Nat) : Int) > 0)) = true])) (qs := []) (by kernel_rfl) (All_append.2 ⟨k34, ⟨h35, trivial⟩⟩) trivial
           ·refine bd_ok hx fun y36 e37 hx => ?_
            refine bd_ok hx fun y38 e39 hx => ?_
            refine bd_ok hx fun y40 e41 hx => ?_
            refine bd_ok hx fun y42 e43 hx => ?_
            let A44 : List An := (A32 ++ [.br false, .reg [(2, none, .call [1015] [] (.aggp [.int .i64 y36.Vertex.ID, .int .i64 y36.Vertex.Side, .sl (y36.Depots.map eInt), .sl (y36.Edges.map Edge.enc), .sl (y36.Labels.map Named.enc)]) [] []), (3, none, .nmv 1019 (.aggp [.int .i64 0, .int .i64 0, .sl ([].map eInt), .sl ([].map Edge.enc), .sl ([].map Named.enc)]))], .draw [0, 1, 2, 3, 4, 5, 6, 7] [(3, none, .nm 1021), (4, none, .call [1015, 1021] [] (.pv (.sl (y38.map Named.enc))) [] []), (5, none, .call [] [] (.aggp [.int .i64 y40.Vertex.ID, .int .i64 y40.Vertex.Side, .sl (y40.Depots.map eInt), .sl (y40.Edges.map Edge.enc), .sl (y40.Labels.map Named.enc)]) [] []), (6, none, .nmv 1023 (.aggp [.int .i64 0, .int .i64 0, .sl ([].map eInt), .sl ([].map Edge.enc), .sl ([].map Named.enc)]))]])
            let Q45 : List Prop := (Q33 ++ [(decide (((y11.1.length : Nat) : Int) > 0)) = false, 5 = ([(Named.mk 0 [0, 0, (-1)]), (Named.mk 1 [1, 0, (-1)]), (Named.mk 2 [1, 1, 0]), (Named.mk 3 [1, 1, 4]), (Named.mk 5 [5, 0, (-1)])].map Named.enc).length, Spec Try.prog 27 [.aggp [.sl (y1.Vertices.map Vertex.enc), .sl (y1.Edges.map Edge.enc), .sl (y1.Depots.map eInt)], .pv (.sl ([(Named.mk 0 [0, 0, (-1)]), (Named.mk 1 [1, 0, (-1)]), (Named.mk 2 [1, 1, 0]), (Named.mk 3 [1, 1, 4]), (Named.mk 5 [5, 0, (-1)])].map Named.enc)), .pv (.int .i64 3)] [] (.aggp [.int .i64 y36.Vertex.ID, .int .i64 y36.Vertex.Side, .sl (y36.Depots.map eInt), .sl (y36.Edges.map Edge.enc), .sl (y36.Labels.map Named.enc)]) [], AV.pv (.int .i64 0) = .pv (.int .i64 0), AV.pv (.int .i64 0) = .pv (.int .i64 0), 5 = 5, 3 = 3, 3 = 3, 5 = ([(Named.mk 0 [0, 0, (-1)]), (Named.mk 1 [1, 0, (-1)]), (Named.mk 2 [1, 1, 0]), (Named.mk 3 [1, 1, 4]), (Named.mk 5 [5, 0, (-1)])].map Named.enc).length, 1 = ([(A3_Int.mk 3 1 1)].map A3_Int.enc).length, Spec Try.prog 28 [.pv (.sl ([(Named.mk 0 [0, 0, (-1)]), (Named.mk 1 [1, 0, (-1)]), (Named.mk 2 [1, 1, 0]), (Named.mk 3 [1, 1, 4]), (Named.mk 5 [5, 0, (-1)])].map Named.enc)), .pv (.sl ([(A3_Int.mk 3 1 1)].map A3_Int.enc))] [] (.pv (.sl (y38.map Named.enc))) [], Spec Try.prog 27 [.aggp [.sl (y1.Vertices.map Vertex.enc), .sl (y1.Edges.map Edge.enc), .sl (y1.Depots.map eInt)], .pv (.sl (y38.map Named.enc)), .pv (.int .i64 3)] [] (.aggp [.int .i64 y40.Vertex.ID, .int .i64 y40.Vertex.Side, .sl (y40.Depots.map eInt), .sl (y40.Edges.map Edge.enc), .sl (y40.Labels.map Named.enc)]) [], AV.pv (.int .i64 0) = .pv (.int .i64 0), AV.pv (.int .i64 0) = .pv (.int .i64 0), 5 = 5, 1 = 1, 1 = 1, 1 = ([6].map eInt).length, Spec Try.prog 22 [.aggp [.sl (y1.Vertices.map Vertex.enc), .sl (y1.Edges.map Edge.enc), .sl (y1.Depots.map eInt)], .pv (.int .i64 2), .pv (.int .i64 3), .pv (.sl ([6].map eInt))] [] (.pv (.bool y42)) []])
            have k46 : All Q45 := (All_append.2 ⟨k34, ⟨h35, rfl, r7View.ok y1 [(Named.mk 0 [0, 0, (-1)]), (Named.mk 1 [1, 0, (-1)]), (Named.mk 2 [1, 1, 0]), (Named.mk 3 [1, 1, 4]), (Named.mk 5 [5, 0, (-1)])] 3 e37, rfl, rfl, rfl, rfl, rfl, rfl, rfl, r7Bent.ok [(Named.mk 0 [0, 0, (-1)]), (Named.mk 1 [1, 0, (-1)]), (Named.mk 2 [1, 1, 0]), (Named.mk 3 [1, 1, 4]), (Named.mk 5 [5, 0, (-1)])] [(A3_Int.mk 3 1 1)] e39, r7View.ok y1 y38 3 e41, rfl, rfl, rfl, rfl, rfl, rfl, forest_CheckPath.ok y1 2 3 [6] e43, trivial⟩⟩)
            refine br_ok hx (fun h47 hx => ?_) (fun h47 hx => ?_)
            ·refine bd_ok hx fun y48 e49 hx => ?_
             let Q50 : List Prop := (Q45 ++ [y42 = true, 1 = 1, 1 = 1, 1 = ([0].map eInt).length, Spec Try.prog 22 [.aggp [.sl (y1.Vertices.map Vertex.enc), .sl (y1.Edges.map Edge.enc), .sl (y1.Depots.map eInt)], .pv (.int .i64 2), .pv (.int .i64 3), .pv (.sl ([0].map eInt))] [] (.pv (.bool y48)) []])
             have k51 : All Q50 := (All_append.2 ⟨k46, ⟨h47, rfl, rfl, rfl, forest_CheckPath.ok y1 2 3 [0] e49, trivial⟩⟩)
             refine br_ok hx (fun h52 hx => ?_) (fun h52 hx => ?_)
             ·refine bd_ok hx fun y53 e54 hx => ?_
              let Q55 : List Prop := (Q50 ++ [(!y48) = true, 1 = 1, 1 = 1, 1 = 1, 2 = ([0, 1].map eInt).length, Spec Try.prog 24 [.aggp [.sl (y1.Vertices.map Vertex.enc), .sl (y1.Edges.map Edge.enc), .sl (y1.Depots.map eInt)], .pv (.int .i64 0), .pv (.int .i64 5), .pv (.sl ([0, 1].map eInt))] [] (.pv (.bool y53)) []])
              have k56 : All Q55 := (All_append.2 ⟨k51, ⟨h52, rfl, rfl, rfl, rfl, forest_CheckSide.ok y1 0 5 [0, 1] e54, trivial⟩⟩)
              refine br_ok hx (fun h57 hx => ?_) (fun h57 hx => ?_)
              ·refine bd_ok hx fun y58 e59 hx => ?_
               let A60 : List An := (A44 ++ [.reg [(1, none, .nm 1025), (2, none, .call [1025] [] (.pv (.bool y42)) [] []), (4, some true, .no), (5, none, .nm 1027), (6, none, .call [1027] [] (.pv (.bool y48)) [] []), (10, some true, .no), (11, none, .nm 1029), (12, none, .call [1029] [] (.pv (.bool y53)) [] []), (16, some true, .no), (17, none, .nm 1031), (18, none, .call [1031] [] (.pv (.bool y58)) [] [])]])
               let Q61 : List Prop := (Q55 ++ [(!y53) = true, 1 = 1, 1 = 1, 1 = ([0].map eInt).length, Spec Try.prog 24 [.aggp [.sl (y1.Vertices.map Vertex.enc), .sl (y1.Edges.map Edge.enc), .sl (y1.Depots.map eInt)], .pv (.int .i64 0), .pv (.int .i64 5), .pv (.sl ([0].map eInt))] [] (.pv (.bool y58)) []])
               have k62 : All Q61 := (All_append.2 ⟨k56, ⟨h57, rfl, rfl, rfl, forest_CheckSide.ok y1 0 5 [0] e59, trivial⟩⟩)
               refine br_ok hx (fun h63 hx => ?_) (fun h63 hx => ?_)
               ·refine bd_ok hx fun y64 e65 hx => ?_
                let Q66 : List Prop := (Q61 ++ [y58 = true, 5 = ([(Named.mk 0 [0, 0, (-1)]), (Named.mk 1 [1, 0, (-1)]), (Named.mk 2 [1, 1, 0]), (Named.mk 3 [1, 1, 4]), (Named.mk 5 [5, 0, (-1)])].map Named.enc).length, Spec Try.prog 13 [.pv (.sl (y3.1.map Named.enc)), .pv (.sl ([(Named.mk 0 [0, 0, (-1)]), (Named.mk 1 [1, 0, (-1)]), (Named.mk 2 [1, 1, 0]), (Named.mk 3 [1, 1, 4]), (Named.mk 5 [5, 0, (-1)])].map Named.enc))] [] (.pv (.bool y64)) []])
                have k67 : All Q66 := (All_append.2 ⟨k62, ⟨h63, rfl, r7SameLabels.ok y3.1 [(Named.mk 0 [0, 0, (-1)]), (Named.mk 1 [1, 0, (-1)]), (Named.mk 2 [1, 1, 0]), (Named.mk 3 [1, 1, 4]), (Named.mk 5 [5, 0, (-1)])] e65, trivial⟩⟩)
                refine br_ok hx (fun h68 hx => ?_) (fun h68 hx => ?_)
                ·refine bd_ok hx fun y69 e70 hx => ?_
                 refine br_ok hx (fun h71 hx => ?_) (fun h71 hx => ?_)
                 ·refine bd_ok hx fun y72 e73 hx => ?_
                  let Q74 : List Prop := (Q66 ++ [y64 = true, 1 = 1, 1 = 1, 1 = 1, 2 = ([0, 4].map eInt).length, Spec Try.prog 21 [.pv (.sl (y9.1.map eInt)), .pv (.sl ([0, 4].map eInt))] [] (.pv (.bool y69)) [], y69 = true, 1 = 1, 1 = 1, 1 = 1, 1 = 1, 3 = ([1, 2, 3].map eInt).length, Spec Try.prog 21 [.pv (.sl (y13.1.map eInt)), .pv (.sl ([1, 2, 3].map eInt))] [] (.pv (.bool y72)) []])
                  have k75 : All Q74 := (All_append.2 ⟨k67, ⟨h68, rfl, rfl, rfl, rfl, r3Ints.ok y9.1 [0, 4] e70, h71, rfl, rfl, rfl, rfl, rfl, r3Ints.ok y13.1 [1, 2, 3] e73, trivial⟩⟩)
                  refine br_ok hx (fun h76 hx => ?_) (fun h76 hx => ?_)
                  ·refine bd_ok hx fun y77 e78 hx => ?_
                   let B79 : Anns := [(2, some true, .no), (4, none, .call [1015] [] (.pv (.bool y64)) [] []), (7, some true, .no), (8, none, .nm 1033), (9, none, .call [1033] [] (.pv (.bool y69)) [] []), (12, some true, .no), (13, none, .nm 1035), (14, none, .call [1035] [] (.pv (.bool y72)) [] []), (17, some true, .no), (18, none, .call [] [] (.pv (.bool y77)) [] [])]
                   refine br_ok hx (fun h80 hx => ?_) (fun h80 hx => ?_)
                   ·refine bd_ok hx fun y81 e82 hx => ?_
                    let Q83 : List Prop := (Q74 ++ [y72 = true, Spec Try.prog 29 [.aggp [.int .i64 y36.Vertex.ID, .int .i64 y36.Vertex.Side, .sl (y36.Depots.map eInt), .sl (y36.Edges.map Edge.enc), .sl (y36.Labels.map Named.enc)]] [] (.pv (.bool y77)) [], y77 = true, Spec Try.prog 29 [.aggp [.int .i64 y40.Vertex.ID, .int .i64 y40.Vertex.Side, .sl (y40.Depots.map eInt), .sl (y40.Edges.map Edge.enc), .sl (y40.Labels.map Named.enc)]] [] (.pv (.bool y81)) []])
                    have k84 : All Q83 := (All_append.2 ⟨k75, ⟨h76, forest_Good.ok y36 e78, h80, forest_Good.ok y40 e82, trivial⟩⟩)
                    refine br_ok hx (fun h85 hx => ?_) (fun h85 hx => ?_)
                    ·refine bd_ok hx fun y86 e87 hx => ?_
                     refine br_ok hx (fun h88 hx => ?_) (fun h88 hx => ?_)
                     ·refine bd_ok hx fun y89 e90 hx => ?_
                      refine bd_ok hx fun y91 e92 hx => ?_
                      obtain rfl := sI hx
                      exact WK.fin (fn := Try.f8) Try.func8 (an := (A60 ++ [.reg (B79 ++ [(21, some true, .no), (22, none, .call [] [] (.pv (.bool y81)) [] []), (26, some true, .no), (27, none, .call [] [] (.pv (.int .i64 y86)) [] []), (31, some true, .no), (33, none, .call [1015] [] (.aggp [.int .i64 y89.Vertex.ID, .int .i64 y89.Vertex.Side, .sl (y89.Depots.map eInt), .sl (y89.Edges.map Edge.enc), .sl (y89.Labels.map Named.enc)]) [] []), (34, none, .call [] [] (.pv (.int .i64 y91)) [] [])])])) (kt := [0]) (ko := []) (frz := []) (ps := (Q83 ++ [(!y81) = true, Spec Try.prog 31 [.aggp [.int .i64 y36.Vertex.ID, .int .i64 y36.Vertex.Side, .sl (y36.Depots.map eInt), .sl (y36.Edges.map Edge.enc), .sl (y36.Labels.map Named.enc)]] [] (.pv (.int .i64 y86)) [], (y86 == 0) = true, 5 = ([(Named.mk 0 [0, 0, (-1)]), (Named.mk 1 [1, 0, (-1)]), (Named.mk 2 [1, 1, 0]), (Named.mk 3 [1, 1, 4]), (Named.mk 5 [5, 0, (-1)])].map Named.enc).length, Spec Try.prog 27 [.aggp [.sl (y1.Vertices.map Vertex.enc), .sl (y1.Edges.map Edge.enc), .sl (y1.Depots.map eInt)], .pv (.sl ([(Named.mk 0 [0, 0, (-1)]), (Named.mk 1 [1, 0, (-1)]), (Named.mk 2 [1, 1, 0]), (Named.mk 3 [1, 1, 4]), (Named.mk 5 [5, 0, (-1)])].map Named.enc)), .pv (.int .i64 1)] [] (.aggp [.int .i64 y89.Vertex.ID, .int .i64 y89.Vertex.Side, .sl (y89.Depots.map eInt), .sl (y89.Edges.map Edge.enc), .sl (y89.Labels.map Named.enc)]) [], Spec Try.prog 31 [.aggp [.int .i64 y89.Vertex.ID, .int .i64 y89.Vertex.Side, .sl (y89.Depots.map eInt), .sl (y89.Edges.map Edge.enc), .sl (y89.Labels.map Named.enc)]] [] (.pv (.int .i64 y91)) []])) (qs := []) (by kernel_rfl) (All_append.2 ⟨k84, ⟨h85, forest_Count.ok y36 e87, h88, rfl, r7View.ok y1 [(Named.mk 0 [0, 0, (-1)]), (Named.mk 1 [1, 0, (-1)]), (Named.mk 2 [1, 1, 0]), (Named.mk 3 [1, 1, 4]), (Named.mk 5 [5, 0, (-1)])] 1 e90, forest_Count.ok y89 e92, trivial⟩⟩) trivial
                     ·obtain rfl := sI hx
                      exact WK.fin (fn := Try.f8) Try.func8 (an := (A60 ++ [.reg (B79 ++ [(21, some true, .no), (22, none, .call [] [] (.pv (.bool y81)) [] []), (26, some true, .no), (27, none, .call [] [] (.pv (.int .i64 y86)) [] []), (31, some false, .no)])])) (kt := [0]) (ko := []) (frz := []) (ps := (Q83 ++ [(!y81) = true, Spec Try.prog 31 [.aggp [.int .i64 y36.Vertex.ID, .int .i64 y36.Vertex.Side, .sl (y36.Depots.map eInt), .sl (y36.Edges.map Edge.enc), .sl (y36.Labels.map Named.enc)]] [] (.pv (.int .i64 y86)) [], (y86 == 0) = false])) (qs := []) (by kernel_rfl) (All_append.2 ⟨k84, ⟨h85, forest_Count.ok y36 e87, h88, trivial⟩⟩) trivial
                    ·obtain rfl := sI hx
                     exact WK.fin (fn := Try.f8) Try.func8 (an := (A60 ++ [.reg (B79 ++ [(21, some true, .no), (22, none, .call [] [] (.pv (.bool y81)) [] []), (26, some false, .no)])])) (kt := [0]) (ko := []) (frz := []) (ps := (Q83 ++ [(!y81) = false])) (qs := []) (by kernel_rfl) (All_append.2 ⟨k84, ⟨h85, trivial⟩⟩) trivial
                   ·obtain rfl := sI hx
                    exact WK.fin (fn := Try.f8) Try.func8 (an := (A60 ++ [.reg (B79 ++ [(21, some false, .no)])])) (kt := [0]) (ko := []) (frz := []) (ps := (Q74 ++ [y72 = true, Spec Try.prog 29 [.aggp [.int .i64 y36.Vertex.ID, .int .i64 y36.Vertex.Side, .sl (y36.Depots.map eInt), .sl (y36.Edges.map Edge.enc), .sl (y36.Labels.map Named.enc)]] [] (.pv (.bool y77)) [], y77 = false])) (qs := []) (by kernel_rfl) (All_append.2 ⟨k75, ⟨h76, forest_Good.ok y36 e78, h80, trivial⟩⟩) trivial
                  ·obtain rfl := sI hx
                   exact WK.fin (fn := Try.f8) Try.func8 (an := (A60 ++ [.reg [(2, some true, .no), (4, none, .call [1015] [] (.pv (.bool y64)) [] []), (7, some true, .no), (8, none, .nm 1033), (9, none, .call [1033] [] (.pv (.bool y69)) [] []), (12, some true, .no), (13, none, .nm 1035), (14, none, .call [1035] [] (.pv (.bool y72)) [] []), (17, some false, .no)]])) (kt := [0]) (ko := []) (frz := []) (ps := (Q74 ++ [y72 = false])) (qs := []) (by kernel_rfl) (All_append.2 ⟨k75, ⟨h76, trivial⟩⟩) trivial
                 ·obtain rfl := sI hx
                  exact WK.fin (fn := Try.f8) Try.func8 (an := (A60 ++ [.reg [(2, some true, .no), (4, none, .call [1015] [] (.pv (.bool y64)) [] []), (7, some true, .no), (8, none, .nm 1033), (9, none, .call [1033] [] (.pv (.bool y69)) [] []), (12, some false, .no)]])) (kt := [0]) (ko := []) (frz := []) (ps := (Q66 ++ [y64 = true, 1 = 1, 1 = 1, 1 = 1, 2 = ([0, 4].map eInt).length, Spec Try.prog 21 [.pv (.sl (y9.1.map eInt)), .pv (.sl ([0, 4].map eInt))] [] (.pv (.bool y69)) [], y69 = false])) (qs := []) (by kernel_rfl) (All_append.2 ⟨k67, ⟨h68, rfl, rfl, rfl, rfl, r3Ints.ok y9.1 [0, 4] e70, h71, trivial⟩⟩) trivial
                ·obtain rfl := sI hx
                 exact WK.fin (fn := Try.f8) Try.func8 (an := (A60 ++ [.reg [(2, some true, .no), (4, none, .call [1015] [] (.pv (.bool y64)) [] []), (7, some false, .no)]])) (kt := [0]) (ko := []) (frz := []) (ps := (Q66 ++ [y64 = false])) (qs := []) (by kernel_rfl) (All_append.2 ⟨k67, ⟨h68, trivial⟩⟩) trivial
               ·obtain rfl := sI hx
                exact WK.fin (fn := Try.f8) Try.func8 (an := (A60 ++ [.reg [(2, some false, .no)]])) (kt := [0]) (ko := []) (frz := []) (ps := (Q61 ++ [y58 = false])) (qs := []) (by kernel_rfl) (All_append.2 ⟨k62, ⟨h63, trivial⟩⟩) trivial
              ·obtain rfl := sI hx
               exact WK.fin (fn := Try.f8) Try.func8 (an := (A44 ++ [.reg [(1, none, .nm 1025), (2, none, .call [1025] [] (.pv (.bool y42)) [] []), (4, some true, .no), (5, none, .nm 1027), (6, none, .call [1027] [] (.pv (.bool y48)) [] []), (10, some true, .no), (11, none, .nm 1029), (12, none, .call [1029] [] (.pv (.bool y53)) [] []), (16, some false, .no)], .reg []])) (kt := [0]) (ko := []) (frz := []) (ps := (Q55 ++ [(!y53) = false])) (qs := []) (by kernel_rfl) (All_append.2 ⟨k56, ⟨h57, trivial⟩⟩) trivial
             ·obtain rfl := sI hx
              exact WK.fin (fn := Try.f8) Try.func8 (an := (A44 ++ [.reg [(1, none, .nm 1025), (2, none, .call [1025] [] (.pv (.bool y42)) [] []), (4, some true, .no), (5, none, .nm 1027), (6, none, .call [1027] [] (.pv (.bool y48)) [] []), (10, some false, .no)], .reg []])) (kt := [0]) (ko := []) (frz := []) (ps := (Q50 ++ [(!y48) = false])) (qs := []) (by kernel_rfl) (All_append.2 ⟨k51, ⟨h52, trivial⟩⟩) trivial
            ·obtain rfl := sI hx
             exact WK.fin (fn := Try.f8) Try.func8 (an := (A44 ++ [.reg [(1, none, .nm 1025), (2, none, .call [1025] [] (.pv (.bool y42)) [] []), (4, some false, .no)], .reg []])) (kt := [0]) (ko := []) (frz := []) (ps := (Q45 ++ [y42 = false])) (qs := []) (by kernel_rfl) (All_append.2 ⟨k46, ⟨h47, trivial⟩⟩) trivial
noncomputable abbrev b38 : Code := body Try.f38
noncomputable def r3pick (v1 : Int) (v2 : Int) : Option Int :=
 br (decide (v1 < 0)) (
  gd (v2 ≠ 0) <|
  some ((IntKind.i64.wrap (0 - (IntKind.i64.wrap (v1 + 1)))).tmod v2)) (
  gd (v2 ≠ 0) <|
  some (v1.tmod v2))
theorem r3pick.ok (v1 : Int) (v2 : Int) {x : Int} (hx : r3pick v1 v2 = some x) :
  Spec Try.prog 38 [.pv (.int .i64 v1), .pv (.int .i64 v2)] [] (.pv (.int .i64 x)) [] := by
 refine Spec.of (c := b38) Try.func38 rfl rfl rfl ?_
 unfold r3pick at hx
 refine br_ok hx (fun h3 hx => ?_) (fun h3 hx => ?_)
 ·refine gd_ok hx fun h4 hx => ?_
  obtain rfl := sI hx
  exact WK.fin (fn := Try.f38) Try.func38 (an := [.reg [], .reg [], .br true, .reg [], .reg []]) (kt := [4]) (ko := []) (frz := []) (ps := [(decide (v1 < 0)) = true, v2 ≠ 0]) (qs := []) (by kernel_rfl) ⟨h3, h4, trivial⟩ trivial
 ·refine gd_ok hx fun h5 hx => ?_
  obtain rfl := sI hx
  exact WK.fin (fn := Try.f38) Try.func38 (an := [.reg [], .reg [], .br false, .reg []]) (kt := [4]) (ko := []) (frz := []) (ps := [(decide (v1 < 0)) = false, v2 ≠ 0]) (qs := []) (by kernel_rfl) ⟨h3, h5, trivial⟩ trivial
noncomputable abbrev b9 : Code := body Try.f9
noncomputable def r3Made.l0 (c93 : Int) (c94 : Int) (c95 : List Vertex) (c96 : List Edge) (s : Int × (List Int)) : Option (Nx (Int × (List Int)) (List Int)) :=
 bd (r3pick (IntKind.i64.wrap (c93.tdiv 32)) 4) fun y98 =>
 br (decide (s.1 < y98)) (
  br (decide (s.1 < c94)) (
   gd (0 ≤ (s.1 : Int) ∧ (s.1 : Int) < ((c95.length : Nat) : Int)) <|
   bd (c95[(0 + (s.1 : Int).toNat)]?) fun a103 =>
   gd ((s.2 ++ [a103.ID]).length ≤ bigLen) <|
   some (.cont ((IntKind.i64.wrap (s.1 + 1)), (s.2 ++ [a103.ID])))) (
   some (.done s.2))) (
  some (.done s.2))
abbrev r3Made.l0.enc (c93 : Int) (c94 : Int) (c95 : List Vertex) (c96 : List Edge) (s : Int × (List Int)) : St := ⟨161, [(0, .pv (.int .i64 c93)), (6, .ref 101 0 0 0), (7, .ref 103 0 0 0), (8, .pv (.int .i64 c94)), (13, .pv (.int .i64 s.1))], [(101, .varp [.sl ([].map Vertex.enc), .sl ([].map Edge.enc), .sl ([].map eInt)]), (103, .var [.hd 105 0 ((c95.map Vertex.enc).length) 2, .hd 107 0 ((c96.map Edge.enc).length) 6, .hd 109 0 ((s.2.map eInt).length) 1]), (105, .sl false 2 (c95.map Vertex.enc)), (107, .sl false 6 (c96.map Edge.enc)), (109, .sl false 1 (s.2.map eInt))]⟩
abbrev r3Made.l0.post (c93 : Int) (c94 : Int) (c95 : List Vertex) (c96 : List Edge) (r : AV) (outs : List AObj) (q : (List Int)) : Prop := WK Try.prog (9, 0) [.code (sub b9 [1, 1, 1, 1, 1, 1, 1, 0]), .code (sub b9 [1, 1, 1, 1, 1, 1, 1, 1])] ⟨161, [(6, .ref 101 0 0 0), (7, .ref 103 0 0 0)], [(101, .varp [.sl ([].map Vertex.enc), .sl ([].map Edge.enc), .sl ([].map eInt)]), (103, .var [.hd 105 0 ((c95.map Vertex.enc).length) 2, .hd 107 0 ((c96.map Edge.enc).length) 6, .hd 109 0 ((q.map eInt).length) 1]), (105, .sl false 2 (c95.map Vertex.enc)), (107, .sl false 6 (c96.map Edge.enc)), (109, .sl false 1 (q.map eInt))]⟩ r outs
theorem r3Made.l0.ok (c93 : Int) (c94 : Int) (c95 : List Vertex) (c96 : List Edge) (r : AV) (outs : List AObj) (s : Int × (List Int)) (q : (List Int)) (h : loopN fuel (r3Made.l0 c93 c94 c95 c96) s = some q) (hd : r3Made.l0.post c93 c94 c95 c96 r outs q) :
  WK Try.prog (9, 0) [.inLoop (sub b9 [1, 1, 1, 1, 1, 1, 0, 1, 0, 0]), .inBlock 4, .code (sub b9 [1, 1, 1, 1, 1, 1, 1])] (r3Made.l0.enc c93 c94 c95 c96 s) r outs := by
 refine WK.loop (r3Made.l0.enc c93 c94 c95 c96) (r3Made.l0 c93 c94 c95 c96) (r3Made.l0.post c93 c94 c95 c96 r outs) ?_ fuel s q h hd
 intro s x hx hn
 unfold r3Made.l0 at hx
 refine bd_ok hx fun y98 e99 hx => ?_
 refine br_ok hx (fun h100 hx => ?_) (fun h100 hx => ?_)
 ·refine br_ok hx (fun h101 hx => ?_) (fun h101 hx => ?_)
  ·refine gd_ok hx fun h102 hx => ?_
   refine bd_ok hx fun a103 h104 hx => ?_
   refine gd_ok hx fun h105 hx => ?_
   obtain rfl := sI hx
   exact WK.run (an := [.lp, .reg [(3, none, .call [] [] (.pv (.int .i64 y98)) [] []), (6, some true, .no)], .br true, .draw [0, 1, 2, 3, 4, 5, 6, 7, 8, 9, 10, 11] [(7, none, .row (Vertex.enc a103)), (8, none, .nm 1039), (9, none, .app 1041 ((s.2 ++ [a103.ID]).map eInt))], .reg []]) (kt := [0, 6, 7, 8, 13]) (ko := [(101, 101), (103, 103), (105, 105), (107, 107), (1041, 109)]) (ps := [(32 : Int) ≠ 0, Spec Try.prog 38 [.pv (.int .i64 (IntKind.i64.wrap (c93.tdiv 32))), .pv (.int .i64 4)] [] (.pv (.int .i64 y98)) [], (decide (s.1 < y98)) = true, (decide (s.1 < c94)) = true, 0 ≤ (s.1 : Int), (s.1 : Int) < (((c95.map Vertex.enc).length : Nat) : Int), (c95.map Vertex.enc)[(0 + (s.1 : Int).toNat)]? = some (Vertex.enc a103), 1 = 1, 1 = 1, 0 + 1 ≤ ([a103.ID].map eInt).length, 0 + ((s.2.map eInt).length) = (s.2.map eInt).length, (s.2.map eInt).drop 0 ++ (cut1 ([a103.ID].map eInt) 0 1) = ((s.2 ++ [a103.ID]).map eInt), ((s.2 ++ [a103.ID]).map eInt).length ≤ bigLen, ∀ r ∈ (cut1 ([a103.ID].map eInt) 0 1), r.length = 1, 1 = 1]) (by kernel_rfl) ⟨by decide, r3pick.ok (IntKind.i64.wrap (c93.tdiv 32)) 4 e99, h100, h101, h102.1, lenLt h102.2, rowOb h104, rfl, rfl, Nat.le_of_eq (Nat.zero_add _), Nat.zero_add _, by simp [cut1, List.take_of_length_le], bigOb h105, one_len rfl, rfl, trivial⟩ hn
  ·obtain rfl := sI hx
   exact WK.run (an := [.lp, .reg [(3, none, .call [] [] (.pv (.int .i64 y98)) [] []), (6, some true, .no)], .br false]) (kt := [6, 7]) (ko := [(101, 101), (103, 103), (105, 105), (107, 107), (109, 109)]) (ps := [(32 : Int) ≠ 0, Spec Try.prog 38 [.pv (.int .i64 (IntKind.i64.wrap (c93.tdiv 32))), .pv (.int .i64 4)] [] (.pv (.int .i64 y98)) [], (decide (s.1 < y98)) = true, (decide (s.1 < c94)) = false]) (by kernel_rfl) ⟨by decide, r3pick.ok (IntKind.i64.wrap (c93.tdiv 32)) 4 e99, h100, h101, trivial⟩ hn
 ·obtain rfl := sI hx
  exact WK.run (an := [.lp, .reg [(3, none, .call [] [] (.pv (.int .i64 y98)) [] []), (6, some false, .no)], .bk]) (kt := [6, 7]) (ko := [(101, 101), (103, 103), (105, 105), (107, 107), (109, 109)]) (ps := [(32 : Int) ≠ 0, Spec Try.prog 38 [.pv (.int .i64 (IntKind.i64.wrap (c93.tdiv 32))), .pv (.int .i64 4)] [] (.pv (.int .i64 y98)) [], (decide (s.1 < y98)) = false]) (by kernel_rfl) ⟨by decide, r3pick.ok (IntKind.i64.wrap (c93.tdiv 32)) 4 e99, h100, trivial⟩ hn
noncomputable def r3Made.l1 (c40 : Int) (c41 : List A5_Int) (c42 : Int) (c43 : List Vertex) (s : Int × (List Edge)) : Option (Nx (Int × (List Edge)) ((List Edge) × (List Int))) :=
 br (decide (s.1 < ((c41.length : Nat) : Int))) (
  br (decide (s.1 < 20)) (
   bd (r3pick (IntKind.i64.wrap (c40.tdiv 4)) 20) fun y47 =>
   getR c41 s.1 fun a49 =>
   bd (r3pick a49.x0 c42) fun y52 =>
   gd (0 ≤ (y52 : Int) ∧ (y52 : Int) < ((c43.length : Nat) : Int)) <|
   bd (c43[(0 + (y52 : Int).toNat)]?) fun a55 =>
   getR c41 s.1 fun a57 =>
   bd (r3pick a57.x1 c42) fun y60 =>
   gd (0 ≤ (y60 : Int) ∧ (y60 : Int) < ((c43.length : Nat) : Int)) <|
   bd (c43[(0 + (y60 : Int).toNat)]?) fun a63 =>
   getR c41 s.1 fun a65 =>
   bd (r3pick a65.x2 2) fun y68 =>
   getR c41 s.1 fun a70 =>
   bd (r3pick a70.x3 12) fun y73 =>
   getR c41 s.1 fun a75 =>
   bd (r3pick a75.x4 6) fun y78 =>
   getR c41 s.1 fun a80 =>
   bd (r3pick a80.x4 11) fun y83 =>
   br (y83 == 10) (
    getR c41 s.1 fun a89 =>
    bd (r3pick a89.x3 2001) fun y92 =>
    gd ((s.2 ++ [(Edge.mk (IntKind.i64.wrap (s.1 + y47)) a55.ID a63.ID (y68 == 1) (IntKind.i64.wrap (y92 - 1000)) y78)]).length ≤ bigLen) <|
    some (.cont ((IntKind.i64.wrap (s.1 + 1)), (s.2 ++ [(Edge.mk (IntKind.i64.wrap (s.1 + y47)) a55.ID a63.ID (y68 == 1) (IntKind.i64.wrap (y92 - 1000)) y78)])))) (
    gd ((s.2 ++ [(Edge.mk (IntKind.i64.wrap (s.1 + y47)) a55.ID a63.ID (y68 == 1) (IntKind.i64.wrap (y73 - 3)) y78)]).length ≤ bigLen) <|
    some (.cont ((IntKind.i64.wrap (s.1 + 1)), (s.2 ++ [(Edge.mk (IntKind.i64.wrap (s.1 + y47)) a55.ID a63.ID (y68 == 1) (IntKind.i64.wrap (y73 - 3)) y78)]))))) (
   bd (loopN fuel (r3Made.l0 c40 c42 c43 s.2) (0, [])) fun q96 =>
   some (.done (s.2, q96)))) (
  bd (loopN fuel (r3Made.l0 c40 c42 c43 s.2) (0, [])) fun q98 =>
  some (.done (s.2, q98)))
abbrev r3Made.l1.enc (c40 : Int) (c41 : List A5_Int) (c42 : Int) (c43 : List Vertex) (s : Int × (List Edge)) : St := ⟨161, [(0, .pv (.int .i64 c40)), (1, .pv (.sl (c41.map A5_Int.enc))), (6, .ref 101 0 0 0), (7, .ref 103 0 0 0), (8, .pv (.int .i64 c42)), (11, .pv (.int .i64 s.1))], [(101, .varp [.sl ([].map Vertex.enc), .sl ([].map Edge.enc), .sl ([].map eInt)]), (103, .var [.hd 105 0 ((c43.map Vertex.enc).length) 2, .hd 107 0 ((s.2.map Edge.enc).length) 6, .hd 109 0 (([].map eInt).length) 1]), (105, .sl false 2 (c43.map Vertex.enc)), (107, .sl false 6 (s.2.map Edge.enc)), (109, .sl false 1 ([].map eInt))]⟩
abbrev r3Made.l1.post (c40 : Int) (c41 : List A5_Int) (c42 : Int) (c43 : List Vertex) (r : AV) (outs : List AObj) (q : ((List Edge) × (List Int))) : Prop := WK Try.prog (9, 0) [.code (sub b9 [1, 1, 1, 1, 1, 1, 1, 0]), .code (sub b9 [1, 1, 1, 1, 1, 1, 1, 1])] ⟨161, [(6, .ref 101 0 0 0), (7, .ref 103 0 0 0)], [(101, .varp [.sl ([].map Vertex.enc), .sl ([].map Edge.enc), .sl ([].map eInt)]), (103, .var [.hd 105 0 ((c43.map Vertex.enc).length) 2, .hd 107 0 ((q.1.map Edge.enc).length) 6, .hd 109 0 ((q.2.map eInt).length) 1]), (105, .sl false 2 (c43.map Vertex.enc)), (107, .sl false 6 (q.1.map Edge.enc)), (109, .sl false 1 (q.2.map eInt))]⟩ r outs
theorem r3Made.l1.ok (c40 : Int) (c41 : List A5_Int) (c42 : Int) (c43 : List Vertex) (r : AV) (outs : List AObj) (s : Int × (List Edge)) (q : ((List Edge) × (List Int))) (h : loopN fuel (r3Made.l1 c40 c41 c42 c43) s = some q) (hd : r3Made.l1.post c40 c41 c42 c43 r outs q) :
  WK Try.prog (9, 0) [.inLoop (sub b9 [1, 1, 1, 1, 1, 0, 1, 0, 0]), .inBlock 2, .code (sub b9 [1, 1, 1, 1, 1, 1])] (r3Made.l1.enc c40 c41 c42 c43 s) r outs := by
 refine WK.loop (r3Made.l1.enc c40 c41 c42 c43) (r3Made.l1 c40 c41 c42 c43) (r3Made.l1.post c40 c41 c42 c43 r outs) ?_ fuel s q h hd
 intro s x hx hn
 unfold r3Made.l1 at hx
 refine br_ok hx (fun h44 hx => ?_) (fun h44 hx => ?_)
 ·refine br_ok hx (fun h45 hx => ?_) (fun h45 hx => ?_)
  ·refine bd_ok hx fun y47 e48 hx => ?_
   refine getR_ok hx fun a49 h50 h51 hx => ?_
   refine bd_ok hx fun y52 e53 hx => ?_
   refine gd_ok hx fun h54 hx => ?_
   refine bd_ok hx fun a55 h56 hx => ?_
   refine getR_ok hx fun a57 h58 h59 hx => ?_
   refine bd_ok hx fun y60 e61 hx => ?_
   refine gd_ok hx fun h62 hx => ?_
   refine bd_ok hx fun a63 h64 hx => ?_
   refine getR_ok hx fun a65 h66 h67 hx => ?_
   refine bd_ok hx fun y68 e69 hx => ?_
   refine getR_ok hx fun a70 h71 h72 hx => ?_
   refine bd_ok hx fun y73 e74 hx => ?_
   refine getR_ok hx fun a75 h76 h77 hx => ?_
   refine bd_ok hx fun y78 e79 hx => ?_
   refine getR_ok hx fun a80 h81 h82 hx => ?_
   refine bd_ok hx fun y83 e84 hx => ?_
   let A85 : List An := [.lp, .reg [(2, none, .val (.pv (.int .i64 ((c41.length : Nat) : Int)))), (5, some true, .no)], .br true, .draw [0, 1, 2, 3, 4, 5, 6, 7, 8, 9, 10, 11, 12, 13, 14, 15, 16, 17, 18, 19, 20, 21, 22, 23, 24, 25, 26, 27, 28, 29, 30, 31, 32, 33, 34, 35, 36, 37, 38, 39, 40, 41, 42, 43, 44, 45, 46, 47, 48, 49, 50, 51] [(3, none, .call [] [] (.pv (.int .i64 y47)) [] []), (9, none, .row (A5_Int.enc a49)), (13, none, .call [] [] (.pv (.int .i64 y52)) [] []), (16, none, .row (Vertex.enc a55)), (21, none, .row (A5_Int.enc a57)), (25, none, .call [] [] (.pv (.int .i64 y60)) [] []), (28, none, .row (Vertex.enc a63)), (31, none, .row (A5_Int.enc a65)), (34, none, .call [] [] (.pv (.int .i64 y68)) [] []), (38, none, .row (A5_Int.enc a70)), (41, none, .call [] [] (.pv (.int .i64 y73)) [] []), (45, none, .row (A5_Int.enc a75)), (48, none, .call [] [] (.pv (.int .i64 y78)) [] []), (50, none, .nm 1043)], .reg [(2, none, .row (A5_Int.enc a80)), (5, none, .call [] [] (.pv (.int .i64 y83)) [] [])]]
   let Q86 : List Prop := [AV.pv (.int .i64 ((c41.map A5_Int.enc).length : Nat)) = .pv (.int .i64 (c41.length : Nat)), (decide (s.1 < ((c41.length : Nat) : Int))) = true, (decide (s.1 < 20)) = true, (4 : Int) ≠ 0, Spec Try.prog 38 [.pv (.int .i64 (IntKind.i64.wrap (c40.tdiv 4))), .pv (.int .i64 20)] [] (.pv (.int .i64 y47)) [], 0 ≤ (s.1 : Int), (c41.map A5_Int.enc)[(s.1 : Int).toNat]? = some (A5_Int.enc a49), (A5_Int.enc a49).length = 5, (0 : Int) ≤ 0, (0 : Int) < ((5 : Nat) : Int), Spec Try.prog 38 [.pv (.int .i64 a49.x0), .pv (.int .i64 c42)] [] (.pv (.int .i64 y52)) [], 0 ≤ (y52 : Int), (y52 : Int) < (((c43.map Vertex.enc).length : Nat) : Int), (c43.map Vertex.enc)[(0 + (y52 : Int).toNat)]? = some (Vertex.enc a55), 0 ≤ (s.1 : Int), (c41.map A5_Int.enc)[(s.1 : Int).toNat]? = some (A5_Int.enc a57), (A5_Int.enc a57).length = 5, (0 : Int) ≤ 1, (1 : Int) < ((5 : Nat) : Int), Spec Try.prog 38 [.pv (.int .i64 a57.x1), .pv (.int .i64 c42)] [] (.pv (.int .i64 y60)) [], 0 ≤ (y60 : Int), (y60 : Int) < (((c43.map Vertex.enc).length : Nat) : Int), (c43.map Vertex.enc)[(0 + (y60 : Int).toNat)]? = some (Vertex.enc a63), 0 ≤ (s.1 : Int), (c41.map A5_Int.enc)[(s.1 : Int).toNat]? = some (A5_Int.enc a65), (A5_Int.enc a65).length = 5, (0 : Int) ≤ 2, (2 : Int) < ((5 : Nat) : Int), Spec Try.prog 38 [.pv (.int .i64 a65.x2), .pv (.int .i64 2)] [] (.pv (.int .i64 y68)) [], 0 ≤ (s.1 : Int), (c41.map A5_Int.enc)[(s.1 : Int).toNat]? = some (A5_Int.enc a70), (A5_Int.enc a70).length = 5, (0 : Int) ≤ 3, (3 : Int) < ((5 : Nat) : Int), Spec Try.prog 38 [.pv (.int .i64 a70.x3), .pv (.int .i64 12)] [] (.pv (.int .i64 y73)) [], 0 ≤ (s.1 : Int), (c41.map A5_Int.enc)[(s.1 : Int).toNat]? = some (A5_Int.enc a75), (A5_Int.enc a75).length = 5, (0 : Int) ≤ 4, (4 : Int) < ((5 : Nat) : Int), Spec Try.prog 38 [.pv (.int .i64 a75.x4), .pv (.int .i64 6)] [] (.pv (.int .i64 y78)) [], 6 = 6, 0 ≤ (s.1 : Int), (c41.map A5_Int.enc)[(s.1 : Int).toNat]? = some (A5_Int.enc a80), (A5_Int.enc a80).length = 5, (0 : Int) ≤ 4, (4 : Int) < ((5 : Nat) : Int), Spec Try.prog 38 [.pv (.int .i64 a80.x4), .pv (.int .i64 11)] [] (.pv (.int .i64 y83)) []]
   have k87 : All Q86 := ⟨lenOb, h44, h45, by decide, r3pick.ok (IntKind.i64.wrap (c40.tdiv 4)) 20 e48, h50, rowOb h51, rfl, by decide, by decide, r3pick.ok a49.x0 c42 e53, h54.1, lenLt h54.2, rowOb h56, h58, rowOb h59, rfl, by decide, by decide, r3pick.ok a57.x1 c42 e61, h62.1, lenLt h62.2, rowOb h64, h66, rowOb h67, rfl, by decide, by decide, r3pick.ok a65.x2 2 e69, h71, rowOb h72, rfl, by decide, by decide, r3pick.ok a70.x3 12 e74, h76, rowOb h77, rfl, by decide, by decide, r3pick.ok a75.x4 6 e79, rfl, h81, rowOb h82, rfl, by decide, by decide, r3pick.ok a80.x4 11 e84, trivial⟩
   refine br_ok hx (fun h88 hx => ?_) (fun h88 hx => ?_)
   ·refine getR_ok hx fun a89 h90 h91 hx => ?_
    refine bd_ok hx fun y92 e93 hx => ?_
    refine gd_ok hx fun h94 hx => ?_
    obtain rfl := sI hx
    exact WK.run (an := (A85 ++ [.br true, .reg [(2, none, .row (A5_Int.enc a89)), (5, none, .call [] [] (.pv (.int .i64 y92)) [] [])], .reg [(3, none, .nm 1045), (4, none, .app 1047 ((s.2 ++ [(Edge.mk (IntKind.i64.wrap (s.1 + y47)) a55.ID a63.ID (y68 == 1) (IntKind.i64.wrap (y92 - 1000)) y78)]).map Edge.enc))], .reg []])) (kt := [0, 1, 6, 7, 8, 11]) (ko := [(101, 101), (103, 103), (105, 105), (1047, 107), (109, 109)]) (ps := (Q86 ++ [(y83 == 10) = true, 0 ≤ (s.1 : Int), (c41.map A5_Int.enc)[(s.1 : Int).toNat]? = some (A5_Int.enc a89), (A5_Int.enc a89).length = 5, (0 : Int) ≤ 3, (3 : Int) < ((5 : Nat) : Int), Spec Try.prog 38 [.pv (.int .i64 a89.x3), .pv (.int .i64 2001)] [] (.pv (.int .i64 y92)) [], 1 = 1, 6 = 6, 6 = 6, 0 + 1 ≤ ([(Edge.mk (IntKind.i64.wrap (s.1 + y47)) a55.ID a63.ID (y68 == 1) (IntKind.i64.wrap (y92 - 1000)) y78)].map Edge.enc).length, 0 + ((s.2.map Edge.enc).length) = (s.2.map Edge.enc).length, (s.2.map Edge.enc).drop 0 ++ (cut1 ([(Edge.mk (IntKind.i64.wrap (s.1 + y47)) a55.ID a63.ID (y68 == 1) (IntKind.i64.wrap (y92 - 1000)) y78)].map Edge.enc) 0 1) = ((s.2 ++ [(Edge.mk (IntKind.i64.wrap (s.1 + y47)) a55.ID a63.ID (y68 == 1) (IntKind.i64.wrap (y92 - 1000)) y78)]).map Edge.enc), ((s.2 ++ [(Edge.mk (IntKind.i64.wrap (s.1 + y47)) a55.ID a63.ID (y68 == 1) (IntKind.i64.wrap (y92 - 1000)) y78)]).map Edge.enc).length ≤ bigLen, ∀ r ∈ (cut1 ([(Edge.mk (IntKind.i64.wrap (s.1 + y47)) a55.ID a63.ID (y68 == 1) (IntKind.i64.wrap (y92 - 1000)) y78)].map Edge.enc) 0 1), r.length = 6, 1 = 1])) (by kernel_rfl) (All_append.2 ⟨k87, ⟨h88, h90, rowOb h91, rfl, by decide, by decide, r3pick.ok a89.x3 2001 e93, rfl, rfl, rfl, Nat.le_of_eq (Nat.zero_add _), Nat.zero_add _, by simp [cut1, List.take_of_length_le], bigOb h94, one_len rfl, rfl, trivial⟩⟩) hn
   ·refine gd_ok hx fun h95 hx => ?_
    obtain rfl := sI hx
    exact WK.run (an := (A85 ++ [.br false, .reg [(3, none, .nm 1049), (4, none, .app 1051 ((s.2 ++ [(Edge.mk (IntKind.i64.wrap (s.1 + y47)) a55.ID a63.ID (y68 == 1) (IntKind.i64.wrap (y73 - 3)) y78)]).map Edge.enc))], .reg []])) (kt := [0, 1, 6, 7, 8, 11]) (ko := [(101, 101), (103, 103), (105, 105), (1051, 107), (109, 109)]) (ps := (Q86 ++ [(y83 == 10) = false, 6 = 6, 6 = 6, 0 + 1 ≤ ([(Edge.mk (IntKind.i64.wrap (s.1 + y47)) a55.ID a63.ID (y68 == 1) (IntKind.i64.wrap (y73 - 3)) y78)].map Edge.enc).length, 0 + ((s.2.map Edge.enc).length) = (s.2.map Edge.enc).length, (s.2.map Edge.enc).drop 0 ++ (cut1 ([(Edge.mk (IntKind.i64.wrap (s.1 + y47)) a55.ID a63.ID (y68 == 1) (IntKind.i64.wrap (y73 - 3)) y78)].map Edge.enc) 0 1) = ((s.2 ++ [(Edge.mk (IntKind.i64.wrap (s.1 + y47)) a55.ID a63.ID (y68 == 1) (IntKind.i64.wrap (y73 - 3)) y78)]).map Edge.enc), ((s.2 ++ [(Edge.mk (IntKind.i64.wrap (s.1 + y47)) a55.ID a63.ID (y68 == 1) (IntKind.i64.wrap (y73 - 3)) y78)]).map Edge.enc).length ≤ bigLen, ∀ r ∈ (cut1 ([(Edge.mk (IntKind.i64.wrap (s.1 + y47)) a55.ID a63.ID (y68 == 1) (IntKind.i64.wrap (y73 - 3)) y78)].map Edge.enc) 0 1), r.length = 6, 1 = 1])) (by kernel_rfl) (All_append.2 ⟨k87, ⟨h88, rfl, rfl, Nat.le_of_eq (Nat.zero_add _), Nat.zero_add _, by simp [cut1, List.take_of_length_le], bigOb h95, one_len rfl, rfl, trivial⟩⟩) hn
  ·refine bd_ok hx fun q96 e97 hx => ?_
   refine WK.run (an := [.lp, .reg [(2, none, .val (.pv (.int .i64 ((c41.length : Nat) : Int)))), (5, some true, .no)], .br false, .reg []]) (kt := [0, 6, 7, 8, 13]) (ko := [(101, 101), (103, 103), (105, 105), (107, 107), (109, 109)]) (ps := [AV.pv (.int .i64 ((c41.map A5_Int.enc).length : Nat)) = .pv (.int .i64 (c41.length : Nat)), (decide (s.1 < ((c41.length : Nat) : Int))) = true, (decide (s.1 < 20)) = false]) (by kernel_rfl) ⟨lenOb, h44, h45, trivial⟩ (WK.enterLoop (r3Made.l0.ok c40 c42 c43 s.2 _ _ _ _ e97 ?_))
   obtain rfl := sI hx
   exact WK.run (an := []) (kt := [6, 7]) (ko := [(101, 101), (103, 103), (105, 105), (107, 107), (109, 109)]) (ps := []) (by kernel_rfl) trivial hn
 ·refine bd_ok hx fun q98 e99 hx => ?_
  refine WK.run (an := [.lp, .reg [(2, none, .val (.pv (.int .i64 ((c41.length : Nat) : Int)))), (5, some false, .no)], .bk, .reg []]) (kt := [0, 6, 7, 8, 13]) (ko := [(101, 101), (103, 103), (105, 105), (107, 107), (109, 109)]) (ps := [AV.pv (.int .i64 ((c41.map A5_Int.enc).length : Nat)) = .pv (.int .i64 (c41.length : Nat)), (decide (s.1 < ((c41.length : Nat) : Int))) = false]) (by kernel_rfl) ⟨lenOb, h44, trivial⟩ (WK.enterLoop (r3Made.l0.ok c40 c42 c43 s.2 _ _ _ _ e99 ?_))
  obtain rfl := sI hx
  exact WK.run (an := []) (kt := [6, 7]) (ko := [(101, 101), (103, 103), (105, 105), (107, 107), (109, 109)]) (ps := []) (by kernel_rfl) trivial hn
noncomputable def r3Made.l2 (c8 : Int) (c9 : List A5_Int) (c10 : Bool) (c11 : Int) (s : Int × (List Vertex)) : Option (Nx (Int × (List Vertex)) ((List Vertex) × (List Edge) × (List Int))) :=
 br (decide (s.1 < c11)) (
  br (!c10) (
   bd (r3pick (IntKind.i64.wrap (c8.tdiv 8)) 2) fun y15 =>
   br (y15 == 1) (
    bd (r3pick (IntKind.i64.wrap (c8.tdiv 64)) 3) fun y21 =>
    bd (r3pick (IntKind.i64.wrap ((IntKind.i64.wrap (c8.tdiv 16)) + (IntKind.i64.wrap (s.1 * (IntKind.i64.wrap (1 + y21)))))) 4) fun y23 =>
    gd ((s.2 ++ [(Vertex.mk (IntKind.i64.wrap (s.1 + (IntKind.i64.wrap (s.1.tdiv 2)))) y23)]).length ≤ bigLen) <|
    some (.cont ((IntKind.i64.wrap (s.1 + 1)), (s.2 ++ [(Vertex.mk (IntKind.i64.wrap (s.1 + (IntKind.i64.wrap (s.1.tdiv 2)))) y23)])))) (
    bd (r3pick (IntKind.i64.wrap (c8.tdiv 64)) 3) fun y28 =>
    bd (r3pick (IntKind.i64.wrap ((IntKind.i64.wrap (c8.tdiv 16)) + (IntKind.i64.wrap (s.1 * (IntKind.i64.wrap (1 + y28)))))) 4) fun y30 =>
    gd ((s.2 ++ [(Vertex.mk s.1 y30)]).length ≤ bigLen) <|
    some (.cont ((IntKind.i64.wrap (s.1 + 1)), (s.2 ++ [(Vertex.mk s.1 y30)]))))) (
   bd (r3pick (IntKind.i64.wrap (c8.tdiv 64)) 3) fun y35 =>
   bd (r3pick (IntKind.i64.wrap ((IntKind.i64.wrap (c8.tdiv 16)) + (IntKind.i64.wrap (s.1 * (IntKind.i64.wrap (1 + y35)))))) 4) fun y37 =>
   gd ((s.2 ++ [(Vertex.mk s.1 y37)]).length ≤ bigLen) <|
   some (.cont ((IntKind.i64.wrap (s.1 + 1)), (s.2 ++ [(Vertex.mk s.1 y37)]))))) (
  bd (loopN fuel (r3Made.l1 c8 c9 c11 s.2) (0, [])) fun q40 =>
  some (.done (s.2, q40.1, q40.2)))
abbrev r3Made.l2.enc (c8 : Int) (c9 : List A5_Int) (c10 : Bool) (c11 : Int) (s : Int × (List Vertex)) : St := ⟨161, [(0, .pv (.int .i64 c8)), (1, .pv (.sl (c9.map A5_Int.enc))), (2, .pv (.bool c10)), (6, .ref 101 0 0 0), (7, .ref 103 0 0 0), (8, .pv (.int .i64 c11)), (9, .pv (.int .i64 s.1))], [(101, .varp [.sl ([].map Vertex.enc), .sl ([].map Edge.enc), .sl ([].map eInt)]), (103, .var [.hd 105 0 ((s.2.map Vertex.enc).length) 2, .hd 107 0 (([].map Edge.enc).length) 6, .hd 109 0 (([].map eInt).length) 1]), (105, .sl false 2 (s.2.map Vertex.enc)), (107, .sl false 6 ([].map Edge.enc)), (109, .sl false 1 ([].map eInt))]⟩
abbrev r3Made.l2.post (c8 : Int) (c9 : List A5_Int) (c10 : Bool) (c11 : Int) (r : AV) (outs : List AObj) (q : ((List Vertex) × (List Edge) × (List Int))) : Prop := WK Try.prog (9, 0) [.code (sub b9 [1, 1, 1, 1, 1, 1, 1, 0]), .code (sub b9 [1, 1, 1, 1, 1, 1, 1, 1])] ⟨161, [(6, .ref 101 0 0 0), (7, .ref 103 0 0 0)], [(101, .varp [.sl ([].map Vertex.enc), .sl ([].map Edge.enc), .sl ([].map eInt)]), (103, .var [.hd 105 0 ((q.1.map Vertex.enc).length) 2, .hd 107 0 ((q.2.1.map Edge.enc).length) 6, .hd 109 0 ((q.2.2.map eInt).length) 1]), (105, .sl false 2 (q.1.map Vertex.enc)), (107, .sl false 6 (q.2.1.map Edge.enc)), (109, .sl false 1 (q.2.2.map eInt))]⟩ r outs
theorem r3Made.l2.ok (c8 : Int) (c9 : List A5_Int) (c10 : Bool) (c11 : Int) (r : AV) (outs : List AObj) (s : Int × (List Vertex)) (q : ((List Vertex) × (List Edge) × (List Int))) (h : loopN fuel (r3Made.l2 c8 c9 c10 c11) s = some q) (hd : r3Made.l2.post c8 c9 c10 c11 r outs q) :
  WK Try.prog (9, 0) [.inLoop (sub b9 [1, 1, 1, 1, 0, 1, 0, 0]), .inBlock 0, .code (sub b9 [1, 1, 1, 1, 1])] (r3Made.l2.enc c8 c9 c10 c11 s) r outs := by
 refine WK.loop (r3Made.l2.enc c8 c9 c10 c11) (r3Made.l2 c8 c9 c10 c11) (r3Made.l2.post c8 c9 c10 c11 r outs) ?_ fuel s q h hd
 intro s x hx hn
 unfold r3Made.l2 at hx
 refine br_ok hx (fun h12 hx => ?_) (fun h12 hx => ?_)
 ·refine br_ok hx (fun h13 hx => ?_) (fun h13 hx => ?_)
  ·refine bd_ok hx fun y15 e16 hx => ?_
   refine br_ok hx (fun h17 hx => ?_) (fun h17 hx => ?_)
   ·refine bd_ok hx fun y21 e22 hx => ?_
    refine bd_ok hx fun y23 e24 hx => ?_
    refine gd_ok hx fun h25 hx => ?_
    obtain rfl := sI hx
    exact WK.run (an := [.lp, .reg [], .br true, .reg [], .reg [(3, some true, .no), (5, none, .call [] [] (.pv (.int .i64 y15)) [] [])], .br true, .reg [], .draw [0, 1, 2, 3, 4, 5, 6, 7, 8, 9, 10, 11, 12, 13, 14, 15, 16, 17] [(8, none, .call [] [] (.pv (.int .i64 y21)) [] []), (12, none, .call [] [] (.pv (.int .i64 y23)) [] []), (14, none, .nm 1053), (15, none, .app 1055 ((s.2 ++ [(Vertex.mk (IntKind.i64.wrap (s.1 + (IntKind.i64.wrap (s.1.tdiv 2)))) y23)]).map Vertex.enc))], .reg []]) (kt := [0, 1, 2, 6, 7, 8, 9]) (ko := [(101, 101), (103, 103), (1055, 105), (107, 107), (109, 109)]) (ps := [(decide (s.1 < c11)) = true, (!c10) = true, (8 : Int) ≠ 0, Spec Try.prog 38 [.pv (.int .i64 (IntKind.i64.wrap (c8.tdiv 8))), .pv (.int .i64 2)] [] (.pv (.int .i64 y15)) [], (y15 == 1) = true, (2 : Int) ≠ 0, (16 : Int) ≠ 0, (64 : Int) ≠ 0, Spec Try.prog 38 [.pv (.int .i64 (IntKind.i64.wrap (c8.tdiv 64))), .pv (.int .i64 3)] [] (.pv (.int .i64 y21)) [], Spec Try.prog 38 [.pv (.int .i64 (IntKind.i64.wrap ((IntKind.i64.wrap (c8.tdiv 16)) + (IntKind.i64.wrap (s.1 * (IntKind.i64.wrap (1 + y21))))))), .pv (.int .i64 4)] [] (.pv (.int .i64 y23)) [], 2 = 2, 2 = 2, 0 + 1 ≤ ([(Vertex.mk (IntKind.i64.wrap (s.1 + (IntKind.i64.wrap (s.1.tdiv 2)))) y23)].map Vertex.enc).length, 0 + ((s.2.map Vertex.enc).length) = (s.2.map Vertex.enc).length, (s.2.map Vertex.enc).drop 0 ++ (cut1 ([(Vertex.mk (IntKind.i64.wrap (s.1 + (IntKind.i64.wrap (s.1.tdiv 2)))) y23)].map Vertex.enc) 0 1) = ((s.2 ++ [(Vertex.mk (IntKind.i64.wrap (s.1 + (IntKind.i64.wrap (s.1.tdiv 2)))) y23)]).map Vertex.enc), ((s.2 ++ [(Vertex.mk (IntKind.i64.wrap (s.1 + (IntKind.i64.wrap (s.1.tdiv 2)))) y23)]).map Vertex.enc).length ≤ bigLen, ∀ r ∈ (cut1 ([(Vertex.mk (IntKind.i64.wrap (s.1 + (IntKind.i64.wrap (s.1.tdiv 2)))) y23)].map Vertex.enc) 0 1), r.length = 2, 1 = 1]) (by kernel_rfl) ⟨h12, h13, by decide, r3pick.ok (IntKind.i64.wrap (c8.tdiv 8)) 2 e16, h17, by decide, by decide, by decide, r3pick.ok (IntKind.i64.wrap (c8.tdiv 64)) 3 e22, r3pick.ok (IntKind.i64.wrap ((IntKind.i64.wrap (c8.tdiv 16)) + (IntKind.i64.wrap (s.1 * (IntKind.i64.wrap (1 + y21)))))) 4 e24, rfl, rfl, Nat.le_of_eq (Nat.zero_add _), Nat.zero_add _, by simp [cut1, List.take_of_length_le], bigOb h25, one_len rfl, rfl, trivial⟩ hn
   ·refine bd_ok hx fun y28 e29 hx => ?_
    refine bd_ok hx fun y30 e31 hx => ?_
    refine gd_ok hx fun h32 hx => ?_
    obtain rfl := sI hx
    exact WK.run (an := [.lp, .reg [], .br true, .reg [], .reg [(3, some true, .no), (5, none, .call [] [] (.pv (.int .i64 y15)) [] [])], .br false, .draw [0, 1, 2, 3, 4, 5, 6, 7, 8, 9, 10, 11, 12, 13, 14, 15, 16, 17] [(8, none, .call [] [] (.pv (.int .i64 y28)) [] []), (12, none, .call [] [] (.pv (.int .i64 y30)) [] []), (14, none, .nm 1057), (15, none, .app 1059 ((s.2 ++ [(Vertex.mk s.1 y30)]).map Vertex.enc))], .reg []]) (kt := [0, 1, 2, 6, 7, 8, 9]) (ko := [(101, 101), (103, 103), (1059, 105), (107, 107), (109, 109)]) (ps := [(decide (s.1 < c11)) = true, (!c10) = true, (8 : Int) ≠ 0, Spec Try.prog 38 [.pv (.int .i64 (IntKind.i64.wrap (c8.tdiv 8))), .pv (.int .i64 2)] [] (.pv (.int .i64 y15)) [], (y15 == 1) = false, (16 : Int) ≠ 0, (64 : Int) ≠ 0, Spec Try.prog 38 [.pv (.int .i64 (IntKind.i64.wrap (c8.tdiv 64))), .pv (.int .i64 3)] [] (.pv (.int .i64 y28)) [], Spec Try.prog 38 [.pv (.int .i64 (IntKind.i64.wrap ((IntKind.i64.wrap (c8.tdiv 16)) + (IntKind.i64.wrap (s.1 * (IntKind.i64.wrap (1 + y28))))))), .pv (.int .i64 4)] [] (.pv (.int .i64 y30)) [], 2 = 2, 2 = 2, 0 + 1 ≤ ([(Vertex.mk s.1 y30)].map Vertex.enc).length, 0 + ((s.2.map Vertex.enc).length) = (s.2.map Vertex.enc).length, (s.2.map Vertex.enc).drop 0 ++ (cut1 ([(Vertex.mk s.1 y30)].map Vertex.enc) 0 1) = ((s.2 ++ [(Vertex.mk s.1 y30)]).map Vertex.enc), ((s.2 ++ [(Vertex.mk s.1 y30)]).map Vertex.enc).length ≤ bigLen, ∀ r ∈ (cut1 ([(Vertex.mk s.1 y30)].map Vertex.enc) 0 1), r.length = 2, 1 = 1]) (by kernel_rfl) ⟨h12, h13, by decide, r3pick.ok (IntKind.i64.wrap (c8.tdiv 8)) 2 e16, h17, by decide, by decide, r3pick.ok (IntKind.i64.wrap (c8.tdiv 64)) 3 e29, r3pick.ok (IntKind.i64.wrap ((IntKind.i64.wrap (c8.tdiv 16)) + (IntKind.i64.wrap (s.1 * (IntKind.i64.wrap (1 + y28)))))) 4 e31, rfl, rfl, Nat.le_of_eq (Nat.zero_add _), Nat.zero_add _, by simp [cut1, List.take_of_length_le], bigOb h32, one_len rfl, rfl, trivial⟩ hn
  ·refine bd_ok hx fun y35 e36 hx => ?_
   refine bd_ok hx fun y37 e38 hx => ?_
   refine gd_ok hx fun h39 hx => ?_
   obtain rfl := sI hx
   exact WK.run (an := [.lp, .reg [], .br true, .reg [], .reg [(3, some false, .no)], .bk, .draw [0, 1, 2, 3, 4, 5, 6, 7, 8, 9, 10, 11, 12, 13, 14, 15, 16, 17] [(8, none, .call [] [] (.pv (.int .i64 y35)) [] []), (12, none, .call [] [] (.pv (.int .i64 y37)) [] []), (14, none, .nm 1061), (15, none, .app 1063 ((s.2 ++ [(Vertex.mk s.1 y37)]).map Vertex.enc))], .reg []]) (kt := [0, 1, 2, 6, 7, 8, 9]) (ko := [(101, 101), (103, 103), (1063, 105), (107, 107), (109, 109)]) (ps := [(decide (s.1 < c11)) = true, (!c10) = false, (16 : Int) ≠ 0, (64 : Int) ≠ 0, Spec Try.prog 38 [.pv (.int .i64 (IntKind.i64.wrap (c8.tdiv 64))), .pv (.int .i64 3)] [] (.pv (.int .i64 y35)) [], Spec Try.prog 38 [.pv (.int .i64 (IntKind.i64.wrap ((IntKind.i64.wrap (c8.tdiv 16)) + (IntKind.i64.wrap (s.1 * (IntKind.i64.wrap (1 + y35))))))), .pv (.int .i64 4)] [] (.pv (.int .i64 y37)) [], 2 = 2, 2 = 2, 0 + 1 ≤ ([(Vertex.mk s.1 y37)].map Vertex.enc).length, 0 + ((s.2.map Vertex.enc).length) = (s.2.map Vertex.enc).length, (s.2.map Vertex.enc).drop 0 ++ (cut1 ([(Vertex.mk s.1 y37)].map Vertex.enc) 0 1) = ((s.2 ++ [(Vertex.mk s.1 y37)]).map Vertex.enc), ((s.2 ++ [(Vertex.mk s.1 y37)]).map Vertex.enc).length ≤ bigLen, ∀ r ∈ (cut1 ([(Vertex.mk s.1 y37)].map Vertex.enc) 0 1), r.length = 2, 1 = 1]) (by kernel_rfl) ⟨h12, h13, by decide, by decide, r3pick.ok (IntKind.i64.wrap (c8.tdiv 64)) 3 e36, r3pick.ok (IntKind.i64.wrap ((IntKind.i64.wrap (c8.tdiv 16)) + (IntKind.i64.wrap (s.1 * (IntKind.i64.wrap (1 + y35)))))) 4 e38, rfl, rfl, Nat.le_of_eq (Nat.zero_add _), Nat.zero_add _, by simp [cut1, List.take_of_length_le], bigOb h39, one_len rfl, rfl, trivial⟩ hn
 ·refine bd_ok hx fun q40 e41 hx => ?_
  refine WK.run (an := [.lp, .reg [], .br false, .reg []]) (kt := [0, 1, 6, 7, 8, 11]) (ko := [(101, 101), (103, 103), (105, 105), (107, 107), (109, 109)]) (ps := [(decide (s.1 < c11)) = false]) (by kernel_rfl) ⟨h12, trivial⟩ (WK.enterLoop (r3Made.l1.ok c8 c9 c11 s.2 _ _ _ _ e41 ?_))
  obtain rfl := sI hx
  exact WK.run (an := []) (kt := [6, 7]) (ko := [(101, 101), (103, 103), (105, 105), (107, 107), (109, 109)]) (ps := []) (by kernel_rfl) trivial hn
noncomputable def r3Made (v1 : Int) (v2 : List A5_Int) (v3 : Bool) : Option Graph :=
 bd (r3pick v1 8) fun y4 =>
 br v3 (
  bd (loopN fuel (r3Made.l2 v1 v2 v3 (IntKind.i64.wrap ((IntKind.i64.wrap (1 + y4)) + 10))) (0, [])) fun q42 =>
  some (Graph.mk q42.1 q42.2.1 q42.2.2)) (
  bd (loopN fuel (r3Made.l2 v1 v2 v3 (IntKind.i64.wrap (1 + y4))) (0, [])) fun q44 =>
  some (Graph.mk q44.1 q44.2.1 q44.2.2))
theorem r3Made.ok (v1 : Int) (v2 : List A5_Int) (v3 : Bool) {x : Graph} (hx : r3Made v1 v2 v3 = some x) :
  Spec Try.prog 9 [.pv (.int .i64 v1), .pv (.sl (v2.map A5_Int.enc)), .pv (.bool v3)] [] (.aggp [.sl (x.Vertices.map Vertex.enc), .sl (x.Edges.map Edge.enc), .sl (x.Depots.map eInt)]) [] := by
 refine Spec.of (c := b9) Try.func9 rfl rfl rfl ?_
 unfold r3Made at hx
 refine bd_ok hx fun y4 e5 hx => ?_
 let A6 : List An := [.reg [(0, none, .nmv 1003 (.aggp [.sl ([].map Vertex.enc), .sl ([].map Edge.enc), .sl ([].map eInt)]))], .new 1005 2, .new 1007 6, .new 1009 1, .reg [(0, none, .val (.agg [.hd 1005 0 0 2, .hd 1007 0 0 6, .hd 1009 0 0 1])), (1, none, .nmv 1011 (.aggp [.sl ([].map Vertex.enc), .sl ([].map Edge.enc), .sl ([].map eInt)]))], .reg [(1, none, .call [] [] (.pv (.int .i64 y4)) [] [])], .reg []]
 refine br_ok hx (fun h7 hx => ?_) (fun h7 hx => ?_)
 ·refine bd_ok hx fun q42 e43 hx => ?_
  refine WK.run (an := (A6 ++ [.br true, .reg [], .reg []])) (kt := [0, 1, 2, 6, 7, 8, 9]) (ko := [(1003, 101), (1011, 103), (1005, 105), (1007, 107), (1009, 109)]) (ps := [3 = 3, Spec Try.prog 38 [.pv (.int .i64 v1), .pv (.int .i64 8)] [] (.pv (.int .i64 y4)) [], v3 = true]) (by kernel_rfl) ⟨rfl, r3pick.ok v1 8 e5, h7, trivial⟩ (WK.enterLoop (r3Made.l2.ok v1 v2 v3 (IntKind.i64.wrap ((IntKind.i64.wrap (1 + y4)) + 10)) _ _ _ _ e43 ?_))
  obtain rfl := sI hx
  exact WK.fin (fn := Try.f9) Try.func9 (an := [.reg []]) (kt := [6]) (ko := [(101, 101), (105, 103), (107, 105), (109, 107)]) (frz := [103, 105, 107]) (ps := [3 = 3]) (qs := [(q42.1.map Vertex.enc).length = (q42.1.map Vertex.enc).length, (q42.2.1.map Edge.enc).length = (q42.2.1.map Edge.enc).length, (q42.2.2.map eInt).length = (q42.2.2.map eInt).length]) (by kernel_rfl) ⟨rfl, trivial⟩ ⟨rfl, rfl, rfl, trivial⟩
 ·refine bd_ok hx fun q44 e45 hx => ?_
  refine WK.run (an := (A6 ++ [.br false, .reg []])) (kt := [0, 1, 2, 6, 7, 8, 9]) (ko := [(1003, 101), (1011, 103), (1005, 105), (1007, 107), (1009, 109)]) (ps := [3 = 3, Spec Try.prog 38 [.pv (.int .i64 v1), .pv (.int .i64 8)] [] (.pv (.int .i64 y4)) [], v3 = false]) (by kernel_rfl) ⟨rfl, r3pick.ok v1 8 e5, h7, trivial⟩ (WK.enterLoop (r3Made.l2.ok v1 v2 v3 (IntKind.i64.wrap (1 + y4)) _ _ _ _ e45 ?_))
  obtain rfl := sI hx
  exact WK.fin (fn := Try.f9) Try.func9 (an := [.reg []]) (kt := [6]) (ko := [(101, 101), (105, 103), (107, 105), (109, 107)]) (frz := [103, 105, 107]) (ps := [3 = 3]) (qs := [(q44.1.map Vertex.enc).length = (q44.1.map Vertex.enc).length, (q44.2.1.map Edge.enc).length = (q44.2.1.map Edge.enc).length, (q44.2.2.map eInt).length = (q44.2.2.map eInt).length]) (by kernel_rfl) ⟨rfl, trivial⟩ ⟨rfl, rfl, rfl, trivial⟩
noncomputable abbrev b14 : Code := body Try.f14
noncomputable def w7pick (v1 : Int) (v2 : Int) : Option Int :=
 br (decide (v1 < 0)) (
  gd (v2 ≠ 0) <|
  some ((IntKind.i64.wrap (0 - (IntKind.i64.wrap (v1 + 1)))).tmod v2)) (
  gd (v2 ≠ 0) <|
  some (v1.tmod v2))
theorem w7pick.ok (v1 : Int) (v2 : Int) {x : Int} (hx : w7pick v1 v2 = some x) :
  Spec Try.prog 14 [.pv (.int .i64 v1), .pv (.int .i64 v2)] [] (.pv (.int .i64 x)) [] := by
 refine Spec.of (c := b14) Try.func14 rfl rfl rfl ?_
 unfold w7pick at hx
 refine br_ok hx (fun h3 hx => ?_) (fun h3 hx => ?_)
 ·refine gd_ok hx fun h4 hx => ?_
  obtain rfl := sI hx
  exact WK.fin (fn := Try.f14) Try.func14 (an := [.reg [], .reg [], .br true, .reg [], .reg []]) (kt := [4]) (ko := []) (frz := []) (ps := [(decide (v1 < 0)) = true, v2 ≠ 0]) (qs := []) (by kernel_rfl) ⟨h3, h4, trivial⟩ trivial
 ·refine gd_ok hx fun h5 hx => ?_
  obtain rfl := sI hx
  exact WK.fin (fn := Try.f14) Try.func14 (an := [.reg [], .reg [], .br false, .reg []]) (kt := [4]) (ko := []) (frz := []) (ps := [(decide (v1 < 0)) = false, v2 ≠ 0]) (qs := []) (by kernel_rfl) ⟨h3, h5, trivial⟩ trivial
end Go.Fw.Gen
