/- Plain programs, and the proofs that the code computes them; printed by a program of our own. -/
import Derived.Test.YtpdjphpjejjkpaaG1
set_option linter.unusedVariables false
set_option maxRecDepth 100000
namespace Go.Fx.Gen
open Go.Proofs Go.Fx

noncomputable def f61v12.l1 (p1 : List Edge) (p2 p3 : List Int) (p4 : Int) (p5 : List Vertex) (p6 : List Edge) (p7 p8 p9 : List Int) (p10 p11 : List (List Int)) (v16 : Int) (l17 : List Int) : Pg (Nx (Int × (List Int)) (Ex (List Int) Empty Empty)) :=
brr (decide (v16 < (L p1 : Int))) (
getR p1 v16 fun a18 =>
brr (a18.From == a18.To) (
cont ((IntKind.i64.wrap (v16 + 1)), l17)) (
clY yNo (r8_0v3.ok a18 (A2_Int.mk a18.From a18.To) p2 p3 p4 p5 p6 p7 p8 p9 p10 p11 l17) fun y19 =>
brr (!true) (
doneA (y19)) (
brr (!a18.Directed) (
clY yNo (r8_0v3.ok a18 (A2_Int.mk a18.To a18.From) p2 p3 p4 p5 p6 p7 p8 p9 p10 p11 y19) fun y20 =>
brr (!true) (
doneA (y20)) (
cont ((IntKind.i64.wrap (v16 + 1)), y20))) (
cont ((IntKind.i64.wrap (v16 + 1)), y19))))) (
doneA (l17))

noncomputable def f61v12 (p1 : List Edge) (p2 p3 : List Int) (p4 : Int) (p5 : List Vertex) (p6 : List Edge) (p7 p8 p9 : List Int) (p10 p11 : List (List Int)) (p12 : List Int) : Pg (List Int) :=
loop1 ((0 : Int), p12) (fun s21 => f61v12.l1 p1 p2 p3 p4 p5 p6 p7 p8 p9 p10 p11 s21.1 s21.2) (fun s21 => ([(0, .yl 0), (5, V p1), (6, V (L p1 : Int)), (7, V s21.1)], [(0, .lp [99, 100] (rfA Try.f8 0) (rfB Try.f8 0) 172 [4, 10, 11, 16, 17] [R 4, R 6, R 8, R 10, R 12] [] 0), (2, B p1), (4, mkVar (R 14)), (6, BA 24 p2), (8, BA 24 p3), (10, B p4), (12, mkVar (H Int 16)), (14, .svar [V p5, V p6, V p7, Ar 24 p8, Ar 24 p9, Ar 24 p10, Ar 24 p11]), (16, O s21.2)])) .inl fun r22 =>
.ret r22

theorem f61v12.ok (p1 : List Edge) (p2 p3 : List Int) (p4 : Int) (p5 : List Vertex) (p6 : List Edge) (p7 p8 p9 : List Int) (p10 p11 : List (List Int)) (p12 : List Int) {x} (h : (f61v12 p1 p2 p3 p4 p5 p6 p7 p8 p9 p10 p11 p12).run = some x) : Spec Try.prog 61 [.yl 0, R 2] [.lp [99, 100] (rfA Try.f8 0) (rfB Try.f8 0) 172 [4, 10, 11, 16, 17] [R 4, R 6, R 8, R 10, R 12] [] 0, B p1, mkVar (R 14), BA 24 p2, BA 24 p3, B p4, mkVar (H Int 16), .svar [V p5, V p6, V p7, Ar 24 p8, Ar 24 p9, Ar 24 p10, Ar 24 p11], O p12] (.tup []) [.lp [99, 100] (rfA Try.f8 0) (rfB Try.f8 0) 172 [4, 10, 11, 16, 17] [R 4, R 6, R 8, R 10, R 12] [] 0, B p1, mkVar (R 14), BA 24 p2, BA 24 p3, B p4, mkVar (H Int 16), .svar [V p5, V p6, V p7, Ar 24 p8, Ar 24 p9, Ar 24 p10, Ar 24 p11], O x] :=
  Prg.ok Try.func61 (res := fun x => .tup []) (outs := fun x => [.lp [99, 100] (rfA Try.f8 0) (rfB Try.f8 0) 172 [4, 10, 11, 16, 17] [R 4, R 6, R 8, R 10, R 12] [] 0, B p1, mkVar (R 14), BA 24 p2, BA 24 p3, B p4, mkVar (H Int 16), .svar [V p5, V p6, V p7, Ar 24 p8, Ar 24 p9, Ar 24 p10, Ar 24 p11], O x]) (by kernel_rfl) (by kernel_rfl) rfl h

noncomputable def f8v2.l2 (p1 : Graph) (y3 : (List Int) × (List Int) × (List (List Int)) × (List (List Int))) (y17 y18 y20 : List Int) (v41 : Int) (l42 : List Named) : Pg (Nx (Int × (List Named)) (Ex (List Named) Empty Empty)) :=
brr (decide (v41 < (L p1.Vertices : Int))) (
getR p1.Vertices v41 fun a43 =>
ck a43.ID 24 <|
rd y3.1 a43.ID.toNat fun a44 =>
ck a43.ID 24 <|
rd y17 a43.ID.toNat fun a45 =>
ck a43.ID 24 <|
rd y18 a43.ID.toNat fun a46 =>
ck a43.ID 24 <|
rd y3.2.1 a43.ID.toNat fun a47 =>
ck a43.ID 24 <|
rd y20 a43.ID.toNat fun a48 =>
cl (f28v2.ok p1 a43.ID) fun y49 =>
cl (f27.ok y49) fun _ =>
rf0 [4, 10, 11, 16, 17] (f61v12.ok y49 y17 y18 a43.ID p1.Vertices p1.Edges p1.Depots y3.1 y3.2.1 y3.2.2.1 y3.2.2.2 ([a44, a45, (-1), a46, (-1), a47, a48] : List Int)) fun y51 =>
ap l42 ([(Named.mk a43.ID y51)] : List Named) fun l52 =>
cont ((IntKind.i64.wrap (v41 + 1)), l52)) (
doneA l42)

noncomputable def f8v2.l1 (p1 : Graph) (y3 : (List Int) × (List Int) × (List (List Int)) × (List (List Int))) (v10 : Int) (l11 : List Int) : Pg (Nx (Int × (List Int)) (Ex (List Int) Empty Empty)) :=
brr (decide (v10 < (L p1.Vertices : Int))) (
getR p1.Vertices v10 fun a12 =>
ck a12.ID 24 <|
rd y3.1 a12.ID.toNat fun a13 =>
brr (a13 == a12.ID) (
ap l11 ([a12.ID] : List Int) fun l14 =>
cont ((IntKind.i64.wrap (v10 + 1)), l14)) (
cont ((IntKind.i64.wrap (v10 + 1)), l11))) (
doneA l11)

noncomputable def f8v2 (p1 : Graph) : Pg ((List Named) × Int) :=
cl (f21v1.ok p1) fun y2 =>
brr (!y2) (
.ret ((([] : List Named), (90 : Int)))) (
cl (f22v1.ok p1) fun y3 =>
loop1 ((0 : Int), ([] : List Int)) (fun s15 => f8v2.l1 p1 y3 s15.1 s15.2) (fun s15 => ([(1, R 101), (4, R 103), (5, H Int 501), (28, V p1.Vertices), (29, V (L p1.Vertices : Int)), (30, V s15.1)], [(101, B p1), (103, mkVar (R 105)), (105, .svar [V p1.Vertices, V p1.Edges, V p1.Depots, Ar 24 y3.1, Ar 24 y3.2.1, Ar 24 y3.2.2.1, Ar 24 y3.2.2.2]), (501, O s15.2)])) (.cut (.ext 0) fun x16 => ([(1, R 101), (4, R 103), (5, H Int 105)], [(101, B p1), (103, mkVar (R 107)), (105, O x16), (107, .svar [V p1.Vertices, V p1.Edges, V p1.Depots, Ar 24 y3.1, Ar 24 y3.2.1, Ar 24 y3.2.2.1, Ar 24 y3.2.2.2])])) fun x16 =>
clK [0] (f25v2.ok x16 p1.Vertices p1.Edges p1.Depots y3.1 y3.2.1 y3.2.2.1 y3.2.2.2) fun y17 =>
clK [0] (f25v3.ok x16 p1.Vertices p1.Edges p1.Depots y3.1 y3.2.1 y3.2.2.1 y3.2.2.2) fun y18 =>
clK [0] (f26v1.ok p1.Vertices p1.Edges p1.Depots y3.1 y3.2.1 y3.2.2.1 y3.2.2.2) fun y19 =>
clK [0] (f25v2.ok y19 p1.Vertices p1.Edges p1.Depots y3.1 y3.2.1 y3.2.2.1 y3.2.2.2) fun y20 =>
loop1 ((0 : Int), ([] : List Named)) (fun s53 => f8v2.l2 p1 y3 y17 y18 y20 s53.1 s53.2) (fun s53 => ([(1, R 101), (4, R 103), (10, R 105), (11, R 107), (12, R 109), (13, H Named 501), (65, V p1.Vertices), (66, V (L p1.Vertices : Int)), (67, V s53.1)], [(101, B p1), (103, mkVar (R 111)), (105, BA 24 y17), (107, BA 24 y18), (109, BA 24 y20), (111, .svar [V p1.Vertices, V p1.Edges, V p1.Depots, Ar 24 y3.1, Ar 24 y3.2.1, Ar 24 y3.2.2.1, Ar 24 y3.2.2.2]), (501, O s53.2)])) (.cut (.ext 2) fun x54 => ([(13, H Named 101)], [(101, O x54)])) fun x54 =>
.ret ((x54, (0 : Int))))

theorem f8v2.ok (p1 : Graph) {x} (h : (f8v2 p1).run = some x) : Spec Try.prog 8 [V p1] [] (.tup [V x.1, V x.2]) [] :=
  Prg.ok Try.func8 (res := fun x => .tup [V x.1, V x.2]) (outs := fun x => []) (by kernel_rfl) (by kernel_rfl) rfl h

noncomputable def f8v3.l2 (p1 : Graph) (y3 : (List Int) × (List Int) × (List (List Int)) × (List (List Int))) (y17 y18 y20 : List Int) (v41 : Int) (l42 : List Named) : Pg (Nx (Int × (List Named)) (Ex (List Named) Empty Empty)) :=
brr (decide (v41 < (L p1.Vertices : Int))) (
getR p1.Vertices v41 fun a43 =>
ck a43.ID 24 <|
rd y3.1 a43.ID.toNat fun a44 =>
ck a43.ID 24 <|
rd y17 a43.ID.toNat fun a45 =>
ck a43.ID 24 <|
rd y18 a43.ID.toNat fun a46 =>
ck a43.ID 24 <|
rd y3.2.1 a43.ID.toNat fun a47 =>
ck a43.ID 24 <|
rd y20 a43.ID.toNat fun a48 =>
cl (f28v2.ok p1 a43.ID) fun y49 =>
cl (f27.ok y49) fun _ =>
rf0 [4, 10, 11, 16, 17] (f61v12.ok y49 y17 y18 a43.ID p1.Vertices p1.Edges p1.Depots y3.1 y3.2.1 y3.2.2.1 y3.2.2.2 ([a44, a45, (-1), a46, (-1), a47, a48] : List Int)) fun y51 =>
ap l42 ([(Named.mk a43.ID y51)] : List Named) fun l52 =>
cont ((IntKind.i64.wrap (v41 + 1)), l52)) (
doneA l42)

noncomputable def f8v3.l1 (p1 : Graph) (y3 : (List Int) × (List Int) × (List (List Int)) × (List (List Int))) (v10 : Int) (l11 : List Int) : Pg (Nx (Int × (List Int)) (Ex (List Int) Empty Empty)) :=
brr (decide (v10 < (L p1.Vertices : Int))) (
getR p1.Vertices v10 fun a12 =>
ck a12.ID 24 <|
rd y3.1 a12.ID.toNat fun a13 =>
brr (a13 == a12.ID) (
ap l11 ([a12.ID] : List Int) fun l14 =>
cont ((IntKind.i64.wrap (v10 + 1)), l14)) (
cont ((IntKind.i64.wrap (v10 + 1)), l11))) (
doneA l11)

noncomputable def f8v3 (p1 : Graph) : Pg (Int × (List Named)) :=
cl (f21v1.ok p1) fun y2 =>
brr (!y2) (
nilA 2 2 <|
.ret (((90 : Int), ([] : List Named)))) (
cl (f22v1.ok p1) fun y3 =>
loop1 ((0 : Int), ([] : List Int)) (fun s15 => f8v3.l1 p1 y3 s15.1 s15.2) (fun s15 => ([(1, R 101), (4, R 103), (5, H Int 501), (28, V p1.Vertices), (29, V (L p1.Vertices : Int)), (30, V s15.1)], [(101, B p1), (103, mkVar (R 105)), (105, .svar [V p1.Vertices, V p1.Edges, V p1.Depots, Ar 24 y3.1, Ar 24 y3.2.1, Ar 24 y3.2.2.1, Ar 24 y3.2.2.2]), (501, O s15.2)])) (.cut (.ext 0) fun x16 => ([(1, R 101), (4, R 103), (5, H Int 105)], [(101, B p1), (103, mkVar (R 107)), (105, O x16), (107, .svar [V p1.Vertices, V p1.Edges, V p1.Depots, Ar 24 y3.1, Ar 24 y3.2.1, Ar 24 y3.2.2.1, Ar 24 y3.2.2.2])])) fun x16 =>
clK [0] (f25v2.ok x16 p1.Vertices p1.Edges p1.Depots y3.1 y3.2.1 y3.2.2.1 y3.2.2.2) fun y17 =>
clK [0] (f25v3.ok x16 p1.Vertices p1.Edges p1.Depots y3.1 y3.2.1 y3.2.2.1 y3.2.2.2) fun y18 =>
clK [0] (f26v1.ok p1.Vertices p1.Edges p1.Depots y3.1 y3.2.1 y3.2.2.1 y3.2.2.2) fun y19 =>
clK [0] (f25v2.ok y19 p1.Vertices p1.Edges p1.Depots y3.1 y3.2.1 y3.2.2.1 y3.2.2.2) fun y20 =>
loop1 ((0 : Int), ([] : List Named)) (fun s53 => f8v3.l2 p1 y3 y17 y18 y20 s53.1 s53.2) (fun s53 => ([(1, R 101), (4, R 103), (10, R 105), (11, R 107), (12, R 109), (13, H Named 501), (65, V p1.Vertices), (66, V (L p1.Vertices : Int)), (67, V s53.1)], [(101, B p1), (103, mkVar (R 111)), (105, BA 24 y17), (107, BA 24 y18), (109, BA 24 y20), (111, .svar [V p1.Vertices, V p1.Edges, V p1.Depots, Ar 24 y3.1, Ar 24 y3.2.1, Ar 24 y3.2.2.1, Ar 24 y3.2.2.2]), (501, O s53.2)])) (.cut (.ext 2) fun x54 => ([(13, H Named 101)], [(101, O x54)])) fun x54 =>
.ret (((0 : Int), x54)))

theorem f8v3.ok (p1 : Graph) {x} (h : (f8v3 p1).run = some x) : Spec Try.prog 8 [V p1] [] (.tup [H Named 0, V x.1]) [O x.2] :=
  Prg.ok Try.func8 (res := fun x => .tup [H Named 0, V x.1]) (outs := fun x => [O x.2]) (by kernel_rfl) (by kernel_rfl) rfl h

noncomputable def f11v1.l1 (y3 : List Named) (v12 : Int) (l13 : List (List Int)) (l14 : Bool) (l15 : List Int) : Pg (Nx (Int × (List (List Int)) × Bool × (List Int)) (Ex ((List (List Int)) × Bool × (List Int)) Empty Empty)) :=
brr (decide (v12 < (L y3 : Int))) (
ck v12 (L y3) <|
rd y3 (at0 v12) fun a16 =>
join1 (.reg 9) (
brr (v12 == 0) (
retA' true) (
ck (IntKind.i64.wrap (v12 - 1)) (L y3) <|
rd y3 (at0 (IntKind.i64.wrap (v12 - 1))) fun a17 =>
getR a17.Label (0 : Int) fun a18 =>
getR a16.Label (0 : Int) fun a19 =>
retA' (a18 != a19))) (.cut .nat fun x20 => ([(4, H Named 101), (6, H (List Int) 103), (8, R 105), (19, H Named 101), (20, V (L y3 : Int)), (21, V v12), (42, V x20)], [(101, O y3), (103, .slo (toks l13 l14) 107), (105, B a16), (107, O l15)])) fun x20 =>
join1 (.cond 42) (
brr x20 (
shutW 6 l13 l14 l15 fun l21 =>
bsN 44 <|
apNil l21 <|
lastW 6 17 l21 <|
retA' (l21, true, ([] : List Int))) (
retA' (l13, l14, l15))) (.cut .nat fun x22 => ([(4, H Named 101), (6, H (List Int) 103), (8, R 105), (19, H Named 101), (20, V (L y3 : Int)), (21, V v12)], [(101, O y3), (103, .slo (toks x22.1 x22.2.1) 107), (105, B a16), (107, O x22.2.2)])) fun x22 =>
ck (IntKind.i64.wrap (((toks x22.1 x22.2.1).length : Int) - 1)) (toks x22.1 x22.2.1).length <|
ldL x22.1 x22.2.1 (at0 (IntKind.i64.wrap (((toks x22.1 x22.2.1).length : Int) - 1))) <|
ap x22.2.2 ([a16.ID] : List Int) fun l23 =>
ck (IntKind.i64.wrap (((toks x22.1 x22.2.1).length : Int) - 1)) (toks x22.1 x22.2.1).length <|
stL x22.1 x22.2.1 (at0 (IntKind.i64.wrap (((toks x22.1 x22.2.1).length : Int) - 1))) <|
cont ((IntKind.i64.wrap (v12 + 1)), x22.1, x22.2.1, l23)) (
doneA (l13, l14, l15))

noncomputable def f11v1 (p1 : Graph) : Pg ((List (List Int)) × Int) :=
cl (f8v3.ok p1) fun y2 =>
brr (y2.1 != 0) (
.ret ((([] : List (List Int)), y2.1))) (
cl (f34v1.ok y2.2) fun y3 =>
nilA 6 1 <|
sloW 6 17 <|
loop1 ((0 : Int), ([] : List (List Int)), false, ([] : List Int)) (fun s24 => f11v1.l1 y3 s24.1 s24.2.1 s24.2.2.1 s24.2.2.2) (fun s24 => ([(4, H Named 101), (6, H (List Int) 103), (19, H Named 101), (20, V (L y3 : Int)), (21, V s24.1)], [(101, O y3), (103, .slo (toks s24.2.1 s24.2.2.1) 105), (105, O s24.2.2.2)])) (.cut (.ext 0) fun x25 => ([(6, H (List Int) 101)], [(101, .slo (toks x25.1 x25.2.1) 103), (103, O x25.2.2)])) fun x25 =>
shutW 6 x25.1 x25.2.1 x25.2.2 fun l26 =>
.ret ((l26, (0 : Int))))

theorem f11v1.ok (p1 : Graph) {x} (h : (f11v1 p1).run = some x) : Spec Try.prog 11 [V p1] [] (.tup [V x.1, V x.2]) [] :=
  Prg.ok Try.func11 (res := fun x => .tup [V x.1, V x.2]) (outs := fun x => []) (by kernel_rfl) (by kernel_rfl) rfl h

noncomputable def f12 (p1 : Edge) (p2 p3 : Int) : Pg Bool :=
brr (p1.From == p1.To) (
.ret (false)) (
brr (p1.From == p2) (
brr (p1.To == p3) (
.ret (true)) (
brr (!p1.Directed) (
brr (p1.From == p3) (
.ret ((p1.To == p2))) (
.ret (false))) (
.ret (false)))) (
brr (!p1.Directed) (
brr (p1.From == p3) (
.ret ((p1.To == p2))) (
.ret (false))) (
.ret (false))))

theorem f12.ok (p1 : Edge) (p2 p3 : Int) {x} (h : (f12 p1 p2 p3).run = some x) : Spec Try.prog 12 [V p1, V p2, V p3] [] (V x) [] :=
  Prg.ok Try.func12 (res := fun x => V x) (outs := fun x => []) (by kernel_rfl) (by kernel_rfl) rfl h

noncomputable def f4.l2 (y4 : Bool) (y5 : Graph) (y6 : (List Named) × Int) (y7 : (List (List Int)) × Int) (x55 : (List Int) × (List Int)) (v107 : Int) (a109 a110 a111 a112 : Edge) (v134 : Int) (l135 : List Bool) : Pg (Nx (Int × (List Bool)) (Ex (Bool) (List Bool) Empty)) :=
let e136 : Bool := (decide (v134 < (L ([(A2_Int.mk a109.From a110.To), (A2_Int.mk a111.To a112.From)] : List A2_Int) : Int)))
brr e136 (
ck v134 (L ([(A2_Int.mk a109.From a110.To), (A2_Int.mk a111.To a112.From)] : List A2_Int)) <|
rd ([(A2_Int.mk a109.From a110.To), (A2_Int.mk a111.To a112.From)] : List A2_Int) (at0 v134) fun a137 =>
getR y5.Edges v107 fun a138 =>
cl (f12.ok a138 a137.x0 a137.x1) fun y139 =>
brr (!y139) (
cont ((IntKind.i64.wrap (v134 + 1)), l135)) (
join1 (.reg 28) (
ck a137.x0 (L x55.1) <|
rd x55.1 (at0 a137.x0) fun a142 =>
ck a137.x1 (L x55.1) <|
rd x55.1 (at0 a137.x1) fun a143 =>
brr (a142 != a143) (
ck a137.x0 (L x55.2) <|
rd x55.2 (at0 a137.x0) fun a144 =>
ck a137.x1 (L x55.2) <|
rd x55.2 (at0 a137.x1) fun a145 =>
retA' (decide (a144 ≥ a145))) (
retA' false)) (.cut .nat fun x146 => ([(7, V y4), (8, R 101), (9, V y6.1), (11, V y7.1), (13, H Int 103), (14, H Int 105), (15, H Bool 107), (17, V v107), (20, V a137.x0), (21, V a137.x1), (170, H A2_Int 109), (171, V (L ([(A2_Int.mk a109.From a110.To), (A2_Int.mk a111.To a112.From)] : List A2_Int) : Int)), (172, V v134), (208, V x146)], [(101, B y5), (103, O x55.1), (105, O x55.2), (107, O l135), (109, O ([(A2_Int.mk a109.From a110.To), (A2_Int.mk a111.To a112.From)] : List A2_Int))])) fun x146 =>
brr x146 (
doneA (false)) (
join1 (.reg 30) (
ck a137.x0 (L x55.1) <|
rd x55.1 (at0 a137.x0) fun a149 =>
ck a137.x1 (L x55.1) <|
rd x55.1 (at0 a137.x1) fun a150 =>
brr (a149 != a150) (
ck a137.x0 (L x55.2) <|
rd x55.2 (at0 a137.x0) fun a151 =>
ck a137.x1 (L x55.2) <|
rd x55.2 (at0 a137.x1) fun a152 =>
retA' (a151 == (IntKind.i64.wrap (a152 - 1)))) (
retA' false)) (.cut .nat fun x153 => ([(7, V y4), (8, R 101), (9, V y6.1), (11, V y7.1), (13, H Int 103), (14, H Int 105), (15, H Bool 107), (17, V v107), (21, V a137.x1), (170, H A2_Int 109), (171, V (L ([(A2_Int.mk a109.From a110.To), (A2_Int.mk a111.To a112.From)] : List A2_Int) : Int)), (172, V v134), (229, V x153)], [(101, B y5), (103, O x55.1), (105, O x55.2), (107, O l135), (109, O ([(A2_Int.mk a109.From a110.To), (A2_Int.mk a111.To a112.From)] : List A2_Int))])) fun x153 =>
brr x153 (
ck a137.x1 (L x55.1) <|
rd x55.1 (at0 a137.x1) fun a154 =>
ck a154 (L l135) <|
st l135 (at0 a154) (fun x155 => true) fun l156 =>
cont ((IntKind.i64.wrap (v134 + 1)), l156)) (
cont ((IntKind.i64.wrap (v134 + 1)), l135))))) (
doneB l135)

noncomputable def f4.l5 (y4 : Bool) (y6 : (List Named) × Int) (y7 : (List (List Int)) × Int) (x55 : (List Int) × (List Int)) (v230 : Int) (v243 v244 : Int) : Pg (Nx (Int × Int) (Ex (Bool) Int Empty)) :=
getR y7.1 v230 fun a245 =>
brr (decide (v244 < (L a245 : Int))) (
getR y7.1 v230 fun a246 =>
getR a246 v244 fun a247 =>
join1 (.reg 47) (
brr ((decide (a247 < 0)) || (decide (a247 ≥ 24))) (
retA' true) (
brr (decide (v244 > 0)) (
getR y7.1 v230 fun a248 =>
getR a248 (IntKind.i64.wrap (v244 - 1)) fun a249 =>
brr (decide (a249 ≥ a247)) (
retA' true) (
ck a247 (L x55.1) <|
rd x55.1 (at0 a247) fun a250 =>
getR y7.1 v230 fun a251 =>
getR a251 (0 : Int) fun a252 =>
retA' (a250 != a252))) (
ck a247 (L x55.1) <|
rd x55.1 (at0 a247) fun a253 =>
getR y7.1 v230 fun a254 =>
getR a254 (0 : Int) fun a255 =>
retA' (a253 != a255)))) (.cut .nat fun x256 => ([(7, V y4), (9, V y6.1), (11, V y7.1), (13, H Int 101), (14, H Int 103), (24, V v243), (25, V v230), (26, V v244), (338, V x256)], [(101, O x55.1), (103, O x55.2)])) fun x256 =>
brr x256 (
doneA (false)) (
cont ((IntKind.i64.wrap (v243 + 1)), (IntKind.i64.wrap (v244 + 1))))) (
doneB v243)

noncomputable def f4.l6 (y4 : Bool) (y6 : (List Named) × Int) (y7 : (List (List Int)) × Int) (x55 : (List Int) × (List Int)) (v229 v230 : Int) : Pg (Nx (Int × Int) (Ex (Bool) Int Empty)) :=
brr (decide (v230 < (L y7.1 : Int))) (
loop2 (v229, (0 : Int)) (fun s257 => f4.l5 y4 y6 y7 x55 v230 s257.1 s257.2) (fun s257 => ([(7, V y4), (9, V y6.1), (11, V y7.1), (13, H Int 101), (14, H Int 103), (24, V s257.1), (25, V v230), (26, V s257.2)], [(101, O x55.1), (103, O x55.2)])) .inl (fun r258 =>
doneA r258) (.cut (.ext 10) fun x259 => ([(7, V y4), (9, V y6.1), (11, V y7.1), (13, H Int 101), (14, H Int 103), (24, V x259), (25, V v230)], [(101, O x55.1), (103, O x55.2)])) fun x259 =>
getR y7.1 v230 fun a260 =>
brr ((L a260 : Int) == 0) (
doneA (false)) (
brr (decide (v230 > 0)) (
getR y7.1 (IntKind.i64.wrap (v230 - 1)) fun a261 =>
getR a261 (0 : Int) fun a262 =>
ck a262 (L x55.2) <|
rd x55.2 (at0 a262) fun a263 =>
getR y7.1 v230 fun a264 =>
getR a264 (0 : Int) fun a265 =>
ck a265 (L x55.2) <|
rd x55.2 (at0 a265) fun a266 =>
brr (decide (a263 > a266)) (
doneA (false)) (
getR y7.1 (IntKind.i64.wrap (v230 - 1)) fun a267 =>
getR a267 (0 : Int) fun a268 =>
ck a268 (L x55.2) <|
rd x55.2 (at0 a268) fun a269 =>
getR y7.1 v230 fun a270 =>
getR a270 (0 : Int) fun a271 =>
ck a271 (L x55.2) <|
rd x55.2 (at0 a271) fun a272 =>
brr (a269 == a272) (
getR y7.1 (IntKind.i64.wrap (v230 - 1)) fun a273 =>
getR a273 (0 : Int) fun a274 =>
getR y7.1 v230 fun a275 =>
getR a275 (0 : Int) fun a276 =>
brr (decide (a274 ≥ a276)) (
doneA (false)) (
cont (x259, (IntKind.i64.wrap (v230 + 1))))) (
cont (x259, (IntKind.i64.wrap (v230 + 1)))))) (
cont (x259, (IntKind.i64.wrap (v230 + 1)))))) (
doneB v229)

noncomputable def f4.l4 (y6 : (List Named) × Int) (x55 : (List Int) × (List Int)) (x162 : List Bool) (v171 : Int) : Pg (Nx Int (Ex (Bool) Unit Empty)) :=
brr (decide (v171 < (L y6.1 : Int))) (
getR y6.1 v171 fun a172 =>
ck a172.ID (L x55.2) <|
rd x55.2 (at0 a172.ID) fun a173 =>
ck a172.ID (L x55.1) <|
rd x55.1 (at0 a172.ID) fun a174 =>
ck a174 (L x55.2) <|
rd x55.2 (at0 a174) fun a175 =>
brr (a173 != a175) (
doneA (false)) (
ck a172.ID (L x55.2) <|
rd x55.2 (at0 a172.ID) fun a176 =>
brr (decide (a176 < 0)) (
doneA (false)) (
ck a172.ID (L x55.2) <|
rd x55.2 (at0 a172.ID) fun a177 =>
ck a172.ID (L x55.1) <|
rd x55.1 (at0 a172.ID) fun a178 =>
ck a178 (L x162) <|
rd x162 (at0 a178) fun a179 =>
brr (!((decide (a177 > 0)) == a179)) (
doneA (false)) (
cont (IntKind.i64.wrap (v171 + 1)))))) (
doneB ())

noncomputable def f4.l3 (y4 : Bool) (y5 : Graph) (y6 : (List Named) × Int) (y7 : (List (List Int)) × Int) (x55 : (List Int) × (List Int)) (v107 : Int) (l108 : List Bool) : Pg (Nx (Int × (List Bool)) (Ex (Bool) (List Bool) Empty)) :=
brr (decide (v107 < (L y5.Edges : Int))) (
getR y5.Edges v107 fun a109 =>
getR y5.Edges v107 fun a110 =>
getR y5.Edges v107 fun a111 =>
getR y5.Edges v107 fun a112 =>
loop2 ((0 : Int), l108) (fun s157 => f4.l2 y4 y5 y6 y7 x55 v107 a109 a110 a111 a112 s157.1 s157.2) (fun s157 => ([(7, V y4), (8, R 101), (9, V y6.1), (11, V y7.1), (13, H Int 103), (14, H Int 105), (15, H Bool 107), (17, V v107), (170, H A2_Int 109), (171, V (L ([(A2_Int.mk a109.From a110.To), (A2_Int.mk a111.To a112.From)] : List A2_Int) : Int)), (172, V s157.1)], [(101, B y5), (103, O x55.1), (105, O x55.2), (107, O s157.2), (109, O ([(A2_Int.mk a109.From a110.To), (A2_Int.mk a111.To a112.From)] : List A2_Int))])) .inl (fun r158 =>
doneA r158) (.cut (.ext 4) fun x159 => ([(7, V y4), (8, R 101), (9, V y6.1), (11, V y7.1), (13, H Int 103), (14, H Int 105), (15, H Bool 107), (17, V v107)], [(101, B y5), (103, O x55.1), (105, O x55.2), (107, O x159)])) fun x159 =>
cont ((IntKind.i64.wrap (v107 + 1)), x159)) (
doneB l108)

noncomputable def f4.l1 (y4 : Bool) (y5 : Graph) (y6 : (List Named) × Int) (y7 : (List (List Int)) × Int) (l11 : List Bool) (v31 : Int) (l32 l33 : List Int) : Pg (Nx (Int × (List Int) × (List Int)) (Ex (Bool) ((List Int) × (List Int)) Empty)) :=
brr (decide (v31 < (L y6.1 : Int))) (
join1 (.reg 15) (
getR y6.1 v31 fun a35 =>
brr ((L a35.Label : Int) != 7) (
retA' true) (
getR y6.1 v31 fun a36 =>
getR y5.Vertices v31 fun a37 =>
brr (a36.ID != a37.ID) (
retA' true) (
getR y6.1 v31 fun a38 =>
getR a38.Label (0 : Int) fun a39 =>
brr (decide (a39 < 0)) (
retA' true) (
getR y6.1 v31 fun a40 =>
getR a40.Label (0 : Int) fun a41 =>
retA' (decide (a41 ≥ 24)))))) (.cut .nat fun x42 => ([(7, V y4), (8, R 101), (9, V y6.1), (11, V y7.1), (13, H Int 103), (14, H Int 105), (15, H Bool 107), (16, V v31), (108, V x42)], [(101, B y5), (103, O l32), (105, O l33), (107, O l11)])) fun x42 =>
brr x42 (
doneA (false)) (
getR y6.1 v31 fun a43 =>
getR y6.1 v31 fun a44 =>
getR a44.Label (0 : Int) fun a45 =>
ck a43.ID (L l32) <|
st l32 (at0 a43.ID) (fun x46 => a45) fun l47 =>
getR y6.1 v31 fun a48 =>
getR y6.1 v31 fun a49 =>
getR a49.Label (5 : Int) fun a50 =>
ck a48.ID (L l33) <|
st l33 (at0 a48.ID) (fun x51 => a50) fun l52 =>
cont ((IntKind.i64.wrap (v31 + 1)), l47, l52))) (
doneB (l32, l33))

noncomputable def f4 (p1 : Int) (p2 : List A5_Int) (p3 : Bool) : Pg Bool :=
cl (f6.ok) fun y4 =>
brr (!y4) (
.ret (false)) (
cl (f7.ok p1 p2 p3) fun y5 =>
cl (f8v2.ok y5) fun y6 =>
cl (f11v1.ok y5) fun y7 =>
join1 (.reg 7) (
brr ((y6.2 != 0) || (y7.2 != 0)) (
retA' true) (
retA' ((L y6.1 : Int) != (L y5.Vertices : Int)))) (.cut .nat fun x8 => ([(7, V y4), (8, R 101), (9, V y6.1), (11, V y7.1), (58, V x8)], [(101, B y5)])) fun x8 =>
brr x8 (
.ret (false)) (
mk (24 : Int) (24 : Int) (0 : Int) fun l9 =>
mk (24 : Int) (24 : Int) (0 : Int) fun l10 =>
mk (24 : Int) (24 : Int) (false : Bool) fun l11 =>
loop2 ((0 : Int), l9, l10) (fun s53 => f4.l1 y4 y5 y6 y7 l11 s53.1 s53.2.1 s53.2.2) (fun s53 => ([(7, V y4), (8, R 101), (9, V y6.1), (11, V y7.1), (13, H Int 103), (14, H Int 105), (15, H Bool 107), (16, V s53.1)], [(101, B y5), (103, O s53.2.1), (105, O s53.2.2), (107, O l11)])) .inl (fun r54 =>
.ret r54) (.cut (.ext 0) fun x55 => ([(7, V y4), (8, R 101), (9, V y6.1), (11, V y7.1), (13, H Int 103), (14, H Int 105), (15, H Bool 107)], [(101, B y5), (103, O x55.1), (105, O x55.2), (107, O l11)])) fun x55 =>
loop2 ((0 : Int), l11) (fun s160 => f4.l3 y4 y5 y6 y7 x55 s160.1 s160.2) (fun s160 => ([(7, V y4), (8, R 101), (9, V y6.1), (11, V y7.1), (13, H Int 103), (14, H Int 105), (15, H Bool 107), (17, V s160.1)], [(101, B y5), (103, O x55.1), (105, O x55.2), (107, O s160.2)])) .inl (fun r161 =>
.ret r161) (.cut (.ext 2) fun x162 => ([(7, V y4), (9, V y6.1), (11, V y7.1), (13, H Int 101), (14, H Int 103), (15, H Bool 105)], [(101, O x55.1), (103, O x55.2), (105, O x162)])) fun x162 =>
loop2 (0 : Int) (fun s180 => f4.l4 y6 x55 x162 s180) (fun s180 => ([(7, V y4), (9, V y6.1), (11, V y7.1), (13, H Int 101), (14, H Int 103), (15, H Bool 105), (22, V s180)], [(101, O x55.1), (103, O x55.2), (105, O x162)])) .inl (fun r181 =>
.ret r181) (.cut (.ext 6) fun _ => ([(7, V y4), (9, V y6.1), (11, V y7.1), (13, H Int 101), (14, H Int 103)], [(101, O x55.1), (103, O x55.2)])) fun _ =>
loop2 ((0 : Int), (0 : Int)) (fun s277 => f4.l6 y4 y6 y7 x55 s277.1 s277.2) (fun s277 => ([(7, V y4), (9, V y6.1), (11, V y7.1), (13, H Int 101), (14, H Int 103), (24, V s277.1), (25, V s277.2)], [(101, O x55.1), (103, O x55.2)])) .inl (fun r278 =>
.ret r278) (.cut (.ext 8) fun x279 => ([(7, V y4), (9, V y6.1), (24, V x279)], [])) fun x279 =>
.ret ((y4 && (x279 == (L y6.1 : Int))))))

theorem f4.ok (p1 : Int) (p2 : List A5_Int) (p3 : Bool) {x} (h : (f4 p1 p2 p3).run = some x) : Spec Try.prog 4 [V p1, V p2, V p3] [] (V x) [] :=
  Prg.ok Try.func4 (res := fun x => V x) (outs := fun x => []) (by kernel_rfl) (by kernel_rfl) rfl h

end Go.Fx.Gen
