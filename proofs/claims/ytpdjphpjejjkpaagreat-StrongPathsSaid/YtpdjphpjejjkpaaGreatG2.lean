/- Plain programs, and the proofs that the code computes them; printed by a program of our own. -/
import Derived.Test.YtpdjphpjejjkpaaGreatG1
set_option linter.unusedVariables false
set_option maxRecDepth 100000
namespace Go.Fx.Gen
open Go.Proofs Go.Fx

noncomputable def f77v12.l1 (p1 : List Edge) (p2 p3 : List Int) (p4 : Int) (p5 : List Vertex) (p6 : List Edge) (p7 p8 p9 : List Int) (p10 p11 : List (List Int)) (v16 : Int) (l17 : List Int) : Pg (Nx (Int × (List Int)) (Ex (List Int) Empty Empty)) :=
brr (decide (v16 < (L p1 : Int))) (
getR p1 v16 fun a18 =>
brr (a18.From == a18.To) (
cont ((IntKind.i64.wrap (v16 + 1)), l17)) (
clY yNo (r9_0v3.ok a18 (A2_Int.mk a18.From a18.To) p2 p3 p4 p5 p6 p7 p8 p9 p10 p11 l17) fun y19 =>
brr (!true) (
doneA (y19)) (
brr (!a18.Directed) (
clY yNo (r9_0v3.ok a18 (A2_Int.mk a18.To a18.From) p2 p3 p4 p5 p6 p7 p8 p9 p10 p11 y19) fun y20 =>
brr (!true) (
doneA (y20)) (
cont ((IntKind.i64.wrap (v16 + 1)), y20))) (
cont ((IntKind.i64.wrap (v16 + 1)), y19))))) (
doneA (l17))

noncomputable def f77v12 (p1 : List Edge) (p2 p3 : List Int) (p4 : Int) (p5 : List Vertex) (p6 : List Edge) (p7 p8 p9 : List Int) (p10 p11 : List (List Int)) (p12 : List Int) : Pg (List Int) :=
loop1 ((0 : Int), p12) (fun s21 => f77v12.l1 p1 p2 p3 p4 p5 p6 p7 p8 p9 p10 p11 s21.1 s21.2) (fun s21 => ([(0, .yl 0), (5, V p1), (6, V (L p1 : Int)), (7, V s21.1)], [(0, .lp [99, 100] (rfA Tryz.f9 0) (rfB Tryz.f9 0) 172 [4, 10, 11, 16, 17] [R 4, R 6, R 8, R 10, R 12] [] 0), (2, B p1), (4, mkVar (R 14)), (6, BA 24 p2), (8, BA 24 p3), (10, B p4), (12, mkVar (H Int 16)), (14, .svar [V p5, V p6, V p7, Ar 24 p8, Ar 24 p9, Ar 24 p10, Ar 24 p11]), (16, O s21.2)])) .inl fun r22 =>
.ret r22

theorem f77v12.ok (p1 : List Edge) (p2 p3 : List Int) (p4 : Int) (p5 : List Vertex) (p6 : List Edge) (p7 p8 p9 : List Int) (p10 p11 : List (List Int)) (p12 : List Int) {x} (h : (f77v12 p1 p2 p3 p4 p5 p6 p7 p8 p9 p10 p11 p12).run = some x) : Spec Tryz.prog 77 [.yl 0, R 2] [.lp [99, 100] (rfA Tryz.f9 0) (rfB Tryz.f9 0) 172 [4, 10, 11, 16, 17] [R 4, R 6, R 8, R 10, R 12] [] 0, B p1, mkVar (R 14), BA 24 p2, BA 24 p3, B p4, mkVar (H Int 16), .svar [V p5, V p6, V p7, Ar 24 p8, Ar 24 p9, Ar 24 p10, Ar 24 p11], O p12] (.tup []) [.lp [99, 100] (rfA Tryz.f9 0) (rfB Tryz.f9 0) 172 [4, 10, 11, 16, 17] [R 4, R 6, R 8, R 10, R 12] [] 0, B p1, mkVar (R 14), BA 24 p2, BA 24 p3, B p4, mkVar (H Int 16), .svar [V p5, V p6, V p7, Ar 24 p8, Ar 24 p9, Ar 24 p10, Ar 24 p11], O x] :=
  Prg.ok Tryz.func77 (res := fun x => .tup []) (outs := fun x => [.lp [99, 100] (rfA Tryz.f9 0) (rfB Tryz.f9 0) 172 [4, 10, 11, 16, 17] [R 4, R 6, R 8, R 10, R 12] [] 0, B p1, mkVar (R 14), BA 24 p2, BA 24 p3, B p4, mkVar (H Int 16), .svar [V p5, V p6, V p7, Ar 24 p8, Ar 24 p9, Ar 24 p10, Ar 24 p11], O x]) (by kernel_rfl) (by kernel_rfl) rfl h

noncomputable def f9v2.l2 (p1 : Graph) (y3 : (List Int) × (List Int) × (List (List Int)) × (List (List Int))) (y17 y18 y20 : List Int) (v41 : Int) (l42 : List Named) : Pg (Nx (Int × (List Named)) (Ex (List Named) Empty Empty)) :=
brr (decide (v41 < (L p1.Vertices : Int))) (
getR p1.Vertices v41 fun a43 =>
ck a43.ID 24 <|
rd y3.1 a43.ID.toNat fun a44 =>
ck a43.ID 24 <|
rd y17 a43.ID.toNat fun a45 =>
ck a43.ID 24 <|
rd y18 a43.ID.toNat fun a46 =>
ck a43.ID 24 <|
rd y3.2.1 a43.ID.toNat fun a47 =>
ck a43.ID 24 <|
rd y20 a43.ID.toNat fun a48 =>
cl (f37v2.ok p1 a43.ID) fun y49 =>
cl (f36.ok y49) fun _ =>
rf0 [4, 10, 11, 16, 17] (f77v12.ok y49 y17 y18 a43.ID p1.Vertices p1.Edges p1.Depots y3.1 y3.2.1 y3.2.2.1 y3.2.2.2 ([a44, a45, (-1), a46, (-1), a47, a48] : List Int)) fun y51 =>
ap l42 ([(Named.mk a43.ID y51)] : List Named) fun l52 =>
cont ((IntKind.i64.wrap (v41 + 1)), l52)) (
doneA l42)

noncomputable def f9v2.l1 (p1 : Graph) (y3 : (List Int) × (List Int) × (List (List Int)) × (List (List Int))) (v10 : Int) (l11 : List Int) : Pg (Nx (Int × (List Int)) (Ex (List Int) Empty Empty)) :=
brr (decide (v10 < (L p1.Vertices : Int))) (
getR p1.Vertices v10 fun a12 =>
ck a12.ID 24 <|
rd y3.1 a12.ID.toNat fun a13 =>
brr (a13 == a12.ID) (
ap l11 ([a12.ID] : List Int) fun l14 =>
cont ((IntKind.i64.wrap (v10 + 1)), l14)) (
cont ((IntKind.i64.wrap (v10 + 1)), l11))) (
doneA l11)

noncomputable def f9v2 (p1 : Graph) : Pg ((List Named) × Int) :=
cl (f30v1.ok p1) fun y2 =>
brr (!y2) (
.ret ((([] : List Named), (90 : Int)))) (
cl (f31v1.ok p1) fun y3 =>
loop1 ((0 : Int), ([] : List Int)) (fun s15 => f9v2.l1 p1 y3 s15.1 s15.2) (fun s15 => ([(1, R 101), (4, R 103), (5, H Int 501), (28, V p1.Vertices), (29, V (L p1.Vertices : Int)), (30, V s15.1)], [(101, B p1), (103, mkVar (R 105)), (105, .svar [V p1.Vertices, V p1.Edges, V p1.Depots, Ar 24 y3.1, Ar 24 y3.2.1, Ar 24 y3.2.2.1, Ar 24 y3.2.2.2]), (501, O s15.2)])) (.cut (.ext 0) fun x16 => ([(1, R 101), (4, R 103), (5, H Int 105)], [(101, B p1), (103, mkVar (R 107)), (105, O x16), (107, .svar [V p1.Vertices, V p1.Edges, V p1.Depots, Ar 24 y3.1, Ar 24 y3.2.1, Ar 24 y3.2.2.1, Ar 24 y3.2.2.2])])) fun x16 =>
clK [0] (f34v2.ok x16 p1.Vertices p1.Edges p1.Depots y3.1 y3.2.1 y3.2.2.1 y3.2.2.2) fun y17 =>
clK [0] (f34v3.ok x16 p1.Vertices p1.Edges p1.Depots y3.1 y3.2.1 y3.2.2.1 y3.2.2.2) fun y18 =>
clK [0] (f35v1.ok p1.Vertices p1.Edges p1.Depots y3.1 y3.2.1 y3.2.2.1 y3.2.2.2) fun y19 =>
clK [0] (f34v2.ok y19 p1.Vertices p1.Edges p1.Depots y3.1 y3.2.1 y3.2.2.1 y3.2.2.2) fun y20 =>
loop1 ((0 : Int), ([] : List Named)) (fun s53 => f9v2.l2 p1 y3 y17 y18 y20 s53.1 s53.2) (fun s53 => ([(1, R 101), (4, R 103), (10, R 105), (11, R 107), (12, R 109), (13, H Named 501), (65, V p1.Vertices), (66, V (L p1.Vertices : Int)), (67, V s53.1)], [(101, B p1), (103, mkVar (R 111)), (105, BA 24 y17), (107, BA 24 y18), (109, BA 24 y20), (111, .svar [V p1.Vertices, V p1.Edges, V p1.Depots, Ar 24 y3.1, Ar 24 y3.2.1, Ar 24 y3.2.2.1, Ar 24 y3.2.2.2]), (501, O s53.2)])) (.cut (.ext 2) fun x54 => ([(13, H Named 101)], [(101, O x54)])) fun x54 =>
.ret ((x54, (0 : Int))))

theorem f9v2.ok (p1 : Graph) {x} (h : (f9v2 p1).run = some x) : Spec Tryz.prog 9 [V p1] [] (.tup [V x.1, V x.2]) [] :=
  Prg.ok Tryz.func9 (res := fun x => .tup [V x.1, V x.2]) (outs := fun x => []) (by kernel_rfl) (by kernel_rfl) rfl h

noncomputable def f15 (p1 p2 : Int) : Pg Int :=
brr (decide (p1 < 0)) (
nzD p2 <|
.ret (((IntKind.i64.wrap (0 - (IntKind.i64.wrap (p1 + 1)))).tmod p2))) (
nzD p2 <|
.ret ((p1.tmod p2)))

theorem f15.ok (p1 p2 : Int) {x} (h : (f15 p1 p2).run = some x) : Spec Tryz.prog 15 [V p1, V p2] [] (V x) [] :=
  Prg.ok Tryz.func15 (res := fun x => V x) (outs := fun x => []) (by kernel_rfl) (by kernel_rfl) rfl h

noncomputable def f22.l1 (p1 : Graph) (p2 : Int) (v4 : Int) : Pg (Nx Int (Ex (Int) Unit Empty)) :=
brr (decide (v4 < (L p1.Edges : Int))) (
getR p1.Edges v4 fun a5 =>
brr (a5.ID == p2) (
doneA (v4)) (
cont (IntKind.i64.wrap (v4 + 1)))) (
doneB ())

noncomputable def f22 (p1 : Graph) (p2 : Int) : Pg Int :=
loop2 (0 : Int) (fun s6 => f22.l1 p1 p2 s6) (fun s6 => ([(1, V p2), (2, R 101), (5, V s6)], [(101, B p1)])) .inl (fun r7 =>
.ret r7) (.cut (.ext 0) fun _ => ([], [])) fun _ =>
.ret (((-1) : Int))

theorem f22.ok (p1 : Graph) (p2 : Int) {x} (h : (f22 p1 p2).run = some x) : Spec Tryz.prog 22 [V p1, V p2] [] (V x) [] :=
  Prg.ok Tryz.func22 (res := fun x => V x) (outs := fun x => []) (by kernel_rfl) (by kernel_rfl) rfl h

noncomputable def f24 (p1 : Edge) (p2 p3 : Int) : Pg Bool :=
brr (p1.From == p1.To) (
.ret (false)) (
brr (p1.From == p2) (
brr (p1.To == p3) (
.ret (true)) (
brr (!p1.Directed) (
brr (p1.From == p3) (
.ret ((p1.To == p2))) (
.ret (false))) (
.ret (false)))) (
brr (!p1.Directed) (
brr (p1.From == p3) (
.ret ((p1.To == p2))) (
.ret (false))) (
.ret (false))))

theorem f24.ok (p1 : Edge) (p2 p3 : Int) {x} (h : (f24 p1 p2 p3).run = some x) : Spec Tryz.prog 24 [V p1, V p2, V p3] [] (V x) [] :=
  Prg.ok Tryz.func24 (res := fun x => V x) (outs := fun x => []) (by kernel_rfl) (by kernel_rfl) rfl h

noncomputable def f25.l1 (p1 : Graph) (p2 : Int) (v4 : Int) : Pg (Nx Int (Ex (Int) Unit Empty)) :=
brr (decide (v4 < (L p1.Vertices : Int))) (
getR p1.Vertices v4 fun a5 =>
brr (a5.ID == p2) (
doneA (v4)) (
cont (IntKind.i64.wrap (v4 + 1)))) (
doneB ())

noncomputable def f25 (p1 : Graph) (p2 : Int) : Pg Int :=
loop2 (0 : Int) (fun s6 => f25.l1 p1 p2 s6) (fun s6 => ([(1, V p2), (2, R 101), (5, V s6)], [(101, B p1)])) .inl (fun r7 =>
.ret r7) (.cut (.ext 0) fun _ => ([], [])) fun _ =>
.ret (((-1) : Int))

theorem f25.ok (p1 : Graph) (p2 : Int) {x} (h : (f25 p1 p2).run = some x) : Spec Tryz.prog 25 [V p1, V p2] [] (V x) [] :=
  Prg.ok Tryz.func25 (res := fun x => V x) (outs := fun x => []) (by kernel_rfl) (by kernel_rfl) rfl h

noncomputable def f5.l1 (y5 : Bool) (y6 : Graph) (y7 : (List Named) × Int) (y9 v73 : Int) (v103 v104 : Int) : Pg (Nx (Int × Int) (Ex (Bool) Unit Empty)) :=
getR y7.1 v103 fun a105 =>
join1 (.reg 16) (
brr ((L a105.Label : Int) != 7) (
retA' true) (
getR a105.Label (0 : Int) fun a106 =>
getR y7.1 y9 fun a107 =>
getR a107.Label (0 : Int) fun a108 =>
retA' ((a106 != a108) || (decide (v104 > 24))))) (.cut .nat fun x109 => ([(9, V y5), (10, R 101), (11, V y7.1), (13, V y9), (14, V v73), (15, V v103), (16, V v104), (17, V a105.Label), (77, V x109)], [(101, B y6)])) fun x109 =>
brr x109 (
doneA (false)) (
getR a105.Label (IntKind.i64.wrap (2 + (IntKind.i64.wrap (2 * v73)))) fun a110 =>
brr (decide (a110 < 0)) (
join1 (.reg 19) (
getR y7.1 v103 fun a113 =>
getR a105.Label (0 : Int) fun a114 =>
brr (a113.ID != a114) (
retA' true) (
getR y7.1 y9 fun a115 =>
getR a115.Label (IntKind.i64.wrap (1 + (IntKind.i64.wrap (2 * v73)))) fun a116 =>
retA' (a116 != v104))) (.cut .nat fun x117 => ([(9, V y5), (10, R 101), (11, V y7.1), (13, V y9), (14, V v73), (107, V x117)], [(101, B y6)])) fun x117 =>
brr x117 (
doneA (false)) (
doneB ())) (
getR a105.Label (IntKind.i64.wrap (2 + (IntKind.i64.wrap (2 * v73)))) fun a118 =>
cl (f22.ok y6 a118) fun y119 =>
brr (decide (y119 < 0)) (
doneA (false)) (
getR y6.Edges y119 fun a120 =>
getR y7.1 v103 fun a121 =>
cl (f23v1.ok a120 a121.ID) fun y122 =>
join1 (.reg 25) (
brr (v73 == 0) (
getR y6.Edges y119 fun a123 =>
getR y7.1 v103 fun a124 =>
cl (f24.ok a123 y122 a124.ID) fun y125 =>
brr (!y125) (
retA' true) (
brr (v73 == 1) (
getR y6.Edges y119 fun a126 =>
getR y7.1 v103 fun a127 =>
cl (f24.ok a126 a127.ID y122) fun y128 =>
retA' (!y128)) (
retA' false))) (
brr (v73 == 1) (
getR y6.Edges y119 fun a129 =>
getR y7.1 v103 fun a130 =>
cl (f24.ok a129 a130.ID y122) fun y131 =>
retA' (!y131)) (
retA' false))) (.cut .nat fun x132 => ([(9, V y5), (10, R 101), (11, V y7.1), (13, V y9), (14, V v73), (16, V v104), (19, V y122), (164, V x132)], [(101, B y6)])) fun x132 =>
brr x132 (
doneA (false)) (
cl (f25.ok y6 y122) fun y133 =>
brr (decide (y133 < 0)) (
doneA (false)) (
cont (y133, (IntKind.i64.wrap (v104 + 1))))))))

noncomputable def f5.l2 (y5 : Bool) (y6 : Graph) (y7 : (List Named) × Int) (y9 : Int) (v73 : Int) : Pg (Nx Int (Ex (Bool) Unit Empty)) :=
brr (decide (v73 < 2)) (
loop2 (y9, (0 : Int)) (fun s134 => f5.l1 y5 y6 y7 y9 v73 s134.1 s134.2) (fun s134 => ([(9, V y5), (10, R 101), (11, V y7.1), (13, V y9), (14, V v73), (15, V s134.1), (16, V s134.2)], [(101, B y6)])) .inl (fun r135 =>
doneA r135) (.cut (.ext 2) fun _ => ([(9, V y5), (10, R 101), (11, V y7.1), (13, V y9), (14, V v73)], [(101, B y6)])) fun _ =>
cont (IntKind.i64.wrap (v73 + 1))) (
doneB ())

noncomputable def f5 (p1 : Int) (p2 : List A5_Int) (p3 : Bool) (p4 : Int) : Pg Bool :=
cl (f6.ok) fun y5 =>
brr (!y5) (
.ret (false)) (
cl (f8.ok p1 p2 p3) fun y6 =>
cl (f9v2.ok y6) fun y7 =>
join1 (.reg 6) (
brr (y7.2 != 0) (
retA' true) (
retA' ((L y7.1 : Int) != (L y6.Vertices : Int)))) (.cut .nat fun x8 => ([(3, V p4), (9, V y5), (10, R 101), (11, V y7.1), (41, V x8)], [(101, B y6)])) fun x8 =>
brr x8 (
.ret (false)) (
cl (f15.ok p4 (L y7.1 : Int)) fun y9 =>
loop2 (0 : Int) (fun s137 => f5.l2 y5 y6 y7 y9 s137) (fun s137 => ([(9, V y5), (10, R 101), (11, V y7.1), (13, V y9), (14, V s137)], [(101, B y6)])) .inl (fun r138 =>
.ret r138) (.cut (.ext 0) fun _ => ([(9, V y5)], [])) fun _ =>
.ret (y5)))

theorem f5.ok (p1 : Int) (p2 : List A5_Int) (p3 : Bool) (p4 : Int) {x} (h : (f5 p1 p2 p3 p4).run = some x) : Spec Tryz.prog 5 [V p1, V p2, V p3, V p4] [] (V x) [] :=
  Prg.ok Tryz.func5 (res := fun x => V x) (outs := fun x => []) (by kernel_rfl) (by kernel_rfl) rfl h

end Go.Fx.Gen
