/- Plain programs, and the proofs that the code computes them; printed by a program of our own. -/
import Derived.Test.YtpdjphpjejjkpaaG1
set_option linter.unusedVariables false
set_option maxRecDepth 100000
namespace Go.Fx.Gen
open Go.Proofs Go.Fx

noncomputable def f61v12.l1 (p1 : List Edge) (p2 p3 : List Int) (p4 : Int) (p5 : List Vertex) (p6 : List Edge) (p7 p8 p9 : List Int) (p10 p11 : List (List Int)) (v16 : Int) (l17 : List Int) : Pg (Nx (Int × (List Int)) (Ex (List Int) Empty Empty)) :=
brr (decide (v16 < (L p1 : Int))) (
getR p1 v16 fun a18 =>
brr (a18.From == a18.To) (
cont ((IntKind.i64.wrap (v16 + 1)), l17)) (
clY yNo (r8_0v3.ok a18 (A2_Int.mk a18.From a18.To) p2 p3 p4 p5 p6 p7 p8 p9 p10 p11 l17) fun y19 =>
brr (!true) (
doneA (y19)) (
brr (!a18.Directed) (
clY yNo (r8_0v3.ok a18 (A2_Int.mk a18.To a18.From) p2 p3 p4 p5 p6 p7 p8 p9 p10 p11 y19) fun y20 =>
brr (!true) (
doneA (y20)) (
cont ((IntKind.i64.wrap (v16 + 1)), y20))) (
cont ((IntKind.i64.wrap (v16 + 1)), y19))))) (
doneA (l17))

noncomputable def f61v12 (p1 : List Edge) (p2 p3 : List Int) (p4 : Int) (p5 : List Vertex) (p6 : List Edge) (p7 p8 p9 : List Int) (p10 p11 : List (List Int)) (p12 : List Int) : Pg (List Int) :=
loop1 ((0 : Int), p12) (fun s21 => f61v12.l1 p1 p2 p3 p4 p5 p6 p7 p8 p9 p10 p11 s21.1 s21.2) (fun s21 => ([(0, .yl 0), (5, V p1), (6, V (L p1 : Int)), (7, V s21.1)], [(0, .lp [99, 100] (rfA Try.f8 0) (rfB Try.f8 0) 172 [4, 10, 11, 16, 17] [R 4, R 6, R 8, R 10, R 12] [] 0), (2, B p1), (4, mkVar (R 14)), (6, BA 24 p2), (8, BA 24 p3), (10, B p4), (12, mkVar (H Int 16)), (14, .svar [V p5, V p6, V p7, Ar 24 p8, Ar 24 p9, Ar 24 p10, Ar 24 p11]), (16, O s21.2)])) .inl fun r22 =>
.ret r22

theorem f61v12.ok (p1 : List Edge) (p2 p3 : List Int) (p4 : Int) (p5 : List Vertex) (p6 : List Edge) (p7 p8 p9 : List Int) (p10 p11 : List (List Int)) (p12 : List Int) {x} (h : (f61v12 p1 p2 p3 p4 p5 p6 p7 p8 p9 p10 p11 p12).run = some x) : Spec Try.prog 61 [.yl 0, R 2] [.lp [99, 100] (rfA Try.f8 0) (rfB Try.f8 0) 172 [4, 10, 11, 16, 17] [R 4, R 6, R 8, R 10, R 12] [] 0, B p1, mkVar (R 14), BA 24 p2, BA 24 p3, B p4, mkVar (H Int 16), .svar [V p5, V p6, V p7, Ar 24 p8, Ar 24 p9, Ar 24 p10, Ar 24 p11], O p12] (.tup []) [.lp [99, 100] (rfA Try.f8 0) (rfB Try.f8 0) 172 [4, 10, 11, 16, 17] [R 4, R 6, R 8, R 10, R 12] [] 0, B p1, mkVar (R 14), BA 24 p2, BA 24 p3, B p4, mkVar (H Int 16), .svar [V p5, V p6, V p7, Ar 24 p8, Ar 24 p9, Ar 24 p10, Ar 24 p11], O x] :=
  Prg.ok Try.func61 (res := fun x => .tup []) (outs := fun x => [.lp [99, 100] (rfA Try.f8 0) (rfB Try.f8 0) 172 [4, 10, 11, 16, 17] [R 4, R 6, R 8, R 10, R 12] [] 0, B p1, mkVar (R 14), BA 24 p2, BA 24 p3, B p4, mkVar (H Int 16), .svar [V p5, V p6, V p7, Ar 24 p8, Ar 24 p9, Ar 24 p10, Ar 24 p11], O x]) (by kernel_rfl) (by kernel_rfl) rfl h

noncomputable def f8v2.l2 (p1 : Graph) (y3 : (List Int) × (List Int) × (List (List Int)) × (List (List Int))) (y17 y18 y20 : List Int) (v41 : Int) (l42 : List Named) : Pg (Nx (Int × (List Named)) (Ex (List Named) Empty Empty)) :=
brr (decide (v41 < (L p1.Vertices : Int))) (
getR p1.Vertices v41 fun a43 =>
ck a43.ID 24 <|
rd y3.1 a43.ID.toNat fun a44 =>
ck a43.ID 24 <|
rd y17 a43.ID.toNat fun a45 =>
ck a43.ID 24 <|
rd y18 a43.ID.toNat fun a46 =>
ck a43.ID 24 <|
rd y3.2.1 a43.ID.toNat fun a47 =>
ck a43.ID 24 <|
rd y20 a43.ID.toNat fun a48 =>
cl (f28v2.ok p1 a43.ID) fun y49 =>
cl (f27.ok y49) fun _ =>
rf0 [4, 10, 11, 16, 17] (f61v12.ok y49 y17 y18 a43.ID p1.Vertices p1.Edges p1.Depots y3.1 y3.2.1 y3.2.2.1 y3.2.2.2 ([a44, a45, (-1), a46, (-1), a47, a48] : List Int)) fun y51 =>
ap l42 ([(Named.mk a43.ID y51)] : List Named) fun l52 =>
cont ((IntKind.i64.wrap (v41 + 1)), l52)) (
doneA l42)

noncomputable def f8v2.l1 (p1 : Graph) (y3 : (List Int) × (List Int) × (List (List Int)) × (List (List Int))) (v10 : Int) (l11 : List Int) : Pg (Nx (Int × (List Int)) (Ex (List Int) Empty Empty)) :=
brr (decide (v10 < (L p1.Vertices : Int))) (
getR p1.Vertices v10 fun a12 =>
ck a12.ID 24 <|
rd y3.1 a12.ID.toNat fun a13 =>
brr (a13 == a12.ID) (
ap l11 ([a12.ID] : List Int) fun l14 =>
cont ((IntKind.i64.wrap (v10 + 1)), l14)) (
cont ((IntKind.i64.wrap (v10 + 1)), l11))) (
doneA l11)

noncomputable def f8v2 (p1 : Graph) : Pg ((List Named) × Int) :=
cl (f21v1.ok p1) fun y2 =>
brr (!y2) (
.ret ((([] : List Named), (90 : Int)))) (
cl (f22v1.ok p1) fun y3 =>
loop1 ((0 : Int), ([] : List Int)) (fun s15 => f8v2.l1 p1 y3 s15.1 s15.2) (fun s15 => ([(1, R 101), (4, R 103), (5, H Int 501), (28, V p1.Vertices), (29, V (L p1.Vertices : Int)), (30, V s15.1)], [(101, B p1), (103, mkVar (R 105)), (105, .svar [V p1.Vertices, V p1.Edges, V p1.Depots, Ar 24 y3.1, Ar 24 y3.2.1, Ar 24 y3.2.2.1, Ar 24 y3.2.2.2]), (501, O s15.2)])) (.cut (.ext 0) fun x16 => ([(1, R 101), (4, R 103), (5, H Int 105)], [(101, B p1), (103, mkVar (R 107)), (105, O x16), (107, .svar [V p1.Vertices, V p1.Edges, V p1.Depots, Ar 24 y3.1, Ar 24 y3.2.1, Ar 24 y3.2.2.1, Ar 24 y3.2.2.2])])) fun x16 =>
clK [0] (f25v2.ok x16 p1.Vertices p1.Edges p1.Depots y3.1 y3.2.1 y3.2.2.1 y3.2.2.2) fun y17 =>
clK [0] (f25v3.ok x16 p1.Vertices p1.Edges p1.Depots y3.1 y3.2.1 y3.2.2.1 y3.2.2.2) fun y18 =>
clK [0] (f26v1.ok p1.Vertices p1.Edges p1.Depots y3.1 y3.2.1 y3.2.2.1 y3.2.2.2) fun y19 =>
clK [0] (f25v2.ok y19 p1.Vertices p1.Edges p1.Depots y3.1 y3.2.1 y3.2.2.1 y3.2.2.2) fun y20 =>
loop1 ((0 : Int), ([] : List Named)) (fun s53 => f8v2.l2 p1 y3 y17 y18 y20 s53.1 s53.2) (fun s53 => ([(1, R 101), (4, R 103), (10, R 105), (11, R 107), (12, R 109), (13, H Named 501), (65, V p1.Vertices), (66, V (L p1.Vertices : Int)), (67, V s53.1)], [(101, B p1), (103, mkVar (R 111)), (105, BA 24 y17), (107, BA 24 y18), (109, BA 24 y20), (111, .svar [V p1.Vertices, V p1.Edges, V p1.Depots, Ar 24 y3.1, Ar 24 y3.2.1, Ar 24 y3.2.2.1, Ar 24 y3.2.2.2]), (501, O s53.2)])) (.cut (.ext 2) fun x54 => ([(13, H Named 101)], [(101, O x54)])) fun x54 =>
.ret ((x54, (0 : Int))))

theorem f8v2.ok (p1 : Graph) {x} (h : (f8v2 p1).run = some x) : Spec Try.prog 8 [V p1] [] (.tup [V x.1, V x.2]) [] :=
  Prg.ok Try.func8 (res := fun x => .tup [V x.1, V x.2]) (outs := fun x => []) (by kernel_rfl) (by kernel_rfl) rfl h

noncomputable def f9.l1 (p1 : Graph) (a33 : Int) (v44 : Int) (l45 : List Bool) (l46 : List Int) : Pg (Nx (Int × (List Bool) × (List Int)) (Ex ((List Bool) × (List Int)) Empty Empty)) :=
brr (decide (v44 < (L p1.Edges : Int))) (
getR p1.Edges v44 fun a47 =>
join1 (.cond 40) (
brr (a47.From == a33) (
retA' a47.To) (
retA' ((-1) : Int))) (.cut .nat fun x48 => ([(2, R 101), (5, H Bool 103), (6, H Int 105), (7, V a33), (8, V v44), (9, R 107), (10, V x48)], [(101, B p1), (103, O l45), (105, O l46), (107, B a47)])) fun x48 =>
join1 (.reg 14) (
brr (a47.To == a33) (
retA' (!a47.Directed)) (
retA' false)) (.cut .nat fun x49 => ([(2, R 101), (5, H Bool 103), (6, H Int 105), (7, V a33), (8, V v44), (9, R 107), (10, V x48), (51, V x49)], [(101, B p1), (103, O l45), (105, O l46), (107, B a47)])) fun x49 =>
join1 (.cond 51) (
brr x49 (
retA' a47.From) (
retA' x48)) (.cut .nat fun x50 => ([(2, R 101), (5, H Bool 103), (6, H Int 105), (7, V a33), (8, V v44), (10, V x50)], [(101, B p1), (103, O l45), (105, O l46)])) fun x50 =>
join1 (.reg 16) (
brr (decide (x50 ≥ 0)) (
ck x50 (L l45) <|
rd l45 (at0 x50) fun a51 =>
retA' (!a51)) (
retA' false)) (.cut .nat fun x52 => ([(2, R 101), (5, H Bool 103), (6, H Int 105), (7, V a33), (8, V v44), (10, V x50), (62, V x52)], [(101, B p1), (103, O l45), (105, O l46)])) fun x52 =>
brr x52 (
ck x50 (L l45) <|
st l45 (at0 x50) (fun x53 => true) fun l54 =>
ap l46 ([x50] : List Int) fun l55 =>
cont ((IntKind.i64.wrap (v44 + 1)), l54, l55)) (
cont ((IntKind.i64.wrap (v44 + 1)), l45, l46))) (
doneA (l45, l46))

noncomputable def f9.l2 (p1 : Graph) (l31 : List Bool) (l32 : List Int) : Pg (Nx ((List Bool) × (List Int)) (Ex (List Bool) Empty Empty)) :=
brr (decide ((L l32 : Int) > 0)) (
ck (0 : Int) (L l32) <|
rd l32 (at0 (0 : Int)) fun a33 =>
cutLoO l32 (1 : Int) fun l34 =>
loop1 ((0 : Int), l31, l34) (fun s56 => f9.l1 p1 a33 s56.1 s56.2.1 s56.2.2) (fun s56 => ([(2, R 101), (5, H Bool 103), (6, H Int 105), (7, V a33), (8, V s56.1)], [(101, B p1), (103, O s56.2.1), (105, O s56.2.2)])) (.cut (.ext 2) fun x57 => ([(2, R 101), (5, H Bool 103), (6, H Int 105)], [(101, B p1), (103, O x57.1), (105, O x57.2)])) fun x57 =>
cont (x57.1, x57.2)) (
doneA l31)

noncomputable def f9 (p1 : Graph) (p2 : Int) : Pg (List Bool) :=
mk (24 : Int) (24 : Int) (false : Bool) fun l3 =>
ck p2 (L l3) <|
st l3 (at0 p2) (fun x4 => true) fun l5 =>
loop1 (l5, ([p2] : List Int)) (fun s58 => f9.l2 p1 s58.1 s58.2) (fun s58 => ([(2, R 101), (5, H Bool 103), (6, H Int 105)], [(101, B p1), (103, O s58.1), (105, O s58.2)])) (.cut (.ext 0) fun x59 => ([(5, H Bool 101)], [(101, O x59)])) fun x59 =>
.ret (x59)

theorem f9.ok (p1 : Graph) (p2 : Int) {x} (h : (f9 p1 p2).run = some x) : Spec Try.prog 9 [V p1, V p2] [] (V x) [] :=
  Prg.ok Try.func9 (res := fun x => V x) (outs := fun x => []) (by kernel_rfl) (by kernel_rfl) rfl h

noncomputable def f31v1 (p1 : Vertex) (p2 : Int) : Pg Unit :=
.ret (())

theorem f31v1.ok (p1 : Vertex) (p2 : Int) {x} (h : (f31v1 p1 p2).run = some x) : Spec Try.prog 31 [V p1, R 0] [B p2] (V (p1.ID == p2)) [B p2] :=
  Prg.ok Try.func31 (res := fun x => V (p1.ID == p2)) (outs := fun x => [B p2]) (by kernel_rfl) (by kernel_rfl) rfl h

noncomputable def f62v3.l1 (p1 : List Vertex) (p2 : Int) (v5 : Int) : Pg (Nx Int (Ex (Int) Unit Empty)) :=
brr (decide (v5 < (L p1 : Int))) (
getR p1 v5 fun a6 =>
cl (f31v1.ok a6 p2) fun _ =>
brr (a6.ID == p2) (
doneA (v5)) (
cont (IntKind.i64.wrap (v5 + 1)))) (
doneB ())

noncomputable def f62v3 (p1 : List Vertex) (p2 : Int) : Pg Int :=
loop2 (0 : Int) (fun s8 => f62v3.l1 p1 p2 s8) (fun s8 => ([(0, V p1), (1, .clo 31 [R 0]), (7, V (L p1 : Int)), (8, V s8)], [(0, B p2)])) .inl (fun r9 =>
.ret r9) (.cut (.ext 0) fun _ => ([], [(0, B p2)])) fun _ =>
.ret (((-1) : Int))

theorem f62v3.ok (p1 : List Vertex) (p2 : Int) {x} (h : (f62v3 p1 p2).run = some x) : Spec Try.prog 62 [V p1, .clo 31 [R 0]] [B p2] (V x) [B p2] :=
  Prg.ok Try.func62 (res := fun x => V x) (outs := fun x => [B p2]) (by kernel_rfl) (by kernel_rfl) rfl h

noncomputable def f30v2 (p1 : List Vertex) (p2 : Int) : Pg Bool :=
cl (f62v3.ok p1 p2) fun y3 =>
.ret ((decide (y3 ≥ 0)))

theorem f30v2.ok (p1 : List Vertex) (p2 : Int) {x} (h : (f30v2 p1 p2).run = some x) : Spec Try.prog 30 [V p1, .clo 31 [R 0]] [B p2] (V x) [B p2] :=
  Prg.ok Try.func30 (res := fun x => V x) (outs := fun x => [B p2]) (by kernel_rfl) (by kernel_rfl) rfl h

noncomputable def f29v1 (p1 : Int) (p2 : Graph) : Pg Bool :=
cl (f30v2.ok p2.Vertices p1) fun y3 =>
.ret (y3)

theorem f29v1.ok (p1 : Int) (p2 : Graph) {x} (h : (f29v1 p1 p2).run = some x) : Spec Try.prog 29 [V p1, R 0] [B p2] (V x) [B p2] :=
  Prg.ok Try.func29 (res := fun x => V x) (outs := fun x => [B p2]) (by kernel_rfl) (by kernel_rfl) rfl h

noncomputable def f33v3 (p1 : List U32) (p2 p3 : Int) : Pg Bool :=
ck p2 24 <|
rd p1 p2.toNat fun a4 =>
nnS p3 <|
.ret (((andI .u32 ((U32.i a4).fdiv (2 ^ (min (p3 : Int).toNat IntKind.u32.bits))) 1) == 1))

theorem f33v3.ok (p1 : List U32) (p2 p3 : Int) {x} (h : (f33v3 p1 p2 p3).run = some x) : Spec Try.prog 33 [Ar 24 p1, V p2, V p3] [] (V x) [] :=
  Prg.ok Try.func33 (res := fun x => V x) (outs := fun x => []) (by kernel_rfl) (by kernel_rfl) rfl h

noncomputable def f10v1 (p1 : Graph) (p2 p3 : Int) : Pg (Bool × Int) :=
join1 (.reg 2) (
cl (f21v1.ok p1) fun y5 =>
brr (!y5) (
retA' true) (
cl (f29v1.ok p2 p1) fun y6 =>
brr (!y6) (
retA' true) (
cl (f29v1.ok p3 p1) fun y7 =>
retA' (!y7)))) (.cut .nat fun x8 => ([(1, V p2), (2, V p3), (3, R 101), (24, V x8)], [(101, B p1)])) fun x8 =>
brr x8 (
.ret ((false, (90 : Int)))) (
cl (f32v1.ok p1) fun y9 =>
cl (f33v3.ok y9 p2 p3) fun y10 =>
.ret ((y10, (0 : Int))))

theorem f10v1.ok (p1 : Graph) (p2 p3 : Int) {x} (h : (f10v1 p1 p2 p3).run = some x) : Spec Try.prog 10 [V p1, V p2, V p3] [] (.tup [V x.1, V x.2]) [] :=
  Prg.ok Try.func10 (res := fun x => .tup [V x.1, V x.2]) (outs := fun x => []) (by kernel_rfl) (by kernel_rfl) rfl h

noncomputable def f3.l2 (y4 : Bool) (y5 : Graph) (y6 : (List Named) × Int) (x39 : List (List Bool)) (v78 : Int) (v95 v96 : Int) : Pg (Nx (Int × Int) (Ex (Bool) Int Empty)) :=
brr (decide (v96 < (L y6.1 : Int))) (
ck v78 (L x39) <|
rd x39 (at0 v78) fun a97 =>
getR y6.1 v96 fun a98 =>
getR a97 a98.ID fun a99 =>
ck v96 (L x39) <|
rd x39 (at0 v96) fun a100 =>
getR y6.1 v78 fun a101 =>
getR a100 a101.ID fun a102 =>
getR y6.1 v78 fun a103 =>
getR y6.1 v96 fun a104 =>
cl (f10v1.ok y5 a103.ID a104.ID) fun y105 =>
join1 (.reg 25) (
brr ((y105.2 != 0) || (!(y105.1 == a99))) (
retA' true) (
getR y6.1 v78 fun a106 =>
getR a106.Label (0 : Int) fun a107 =>
getR y6.1 v96 fun a108 =>
getR a108.Label (0 : Int) fun a109 =>
retA' (!((a107 == a109) == (a99 && a102))))) (.cut .nat fun x110 => ([(7, V y4), (8, R 101), (9, V y6.1), (11, H (List Bool) 103), (13, V v78), (14, V v95), (15, V v96), (16, V a99), (17, V a102), (163, V x110)], [(101, B y5), (103, O x39)])) fun x110 =>
brr x110 (
doneA (false)) (
brr (a99 && a102) (
getR y6.1 v96 fun a111 =>
cont ((if a111.ID < v95 then a111.ID else v95), (IntKind.i64.wrap (v96 + 1)))) (
cont (v95, (IntKind.i64.wrap (v96 + 1)))))) (
doneB v95)

noncomputable def f3.l3 (y4 : Bool) (y5 : Graph) (y6 : (List Named) × Int) (x39 : List (List Bool)) (v78 : Int) : Pg (Nx Int (Ex (Bool) Unit Empty)) :=
brr (decide (v78 < (L y6.1 : Int))) (
getR y6.1 v78 fun a79 =>
loop2 (a79.ID, (0 : Int)) (fun s112 => f3.l2 y4 y5 y6 x39 v78 s112.1 s112.2) (fun s112 => ([(7, V y4), (8, R 101), (9, V y6.1), (11, H (List Bool) 103), (13, V v78), (14, V s112.1), (15, V s112.2)], [(101, B y5), (103, O x39)])) .inl (fun r113 =>
doneA r113) (.cut (.ext 4) fun x114 => ([(7, V y4), (8, R 101), (9, V y6.1), (11, H (List Bool) 103), (13, V v78), (14, V x114)], [(101, B y5), (103, O x39)])) fun x114 =>
getR y6.1 v78 fun a115 =>
getR a115.Label (0 : Int) fun a116 =>
brr (a116 != x114) (
doneA (false)) (
cont (IntKind.i64.wrap (v78 + 1)))) (
doneB ())

noncomputable def f3.l1 (y4 : Bool) (y5 : Graph) (y6 : (List Named) × Int) (v26 : Int) (l27 : List (List Bool)) : Pg (Nx (Int × (List (List Bool))) (Ex (Bool) (List (List Bool)) Empty)) :=
brr (decide (v26 < (L y5.Vertices : Int))) (
join1 (.reg 12) (
getR y6.1 v26 fun a30 =>
getR y5.Vertices v26 fun a31 =>
brr (a30.ID != a31.ID) (
retA' true) (
getR y6.1 v26 fun a32 =>
retA' ((L a32.Label : Int) != 7))) (.cut .nat fun x33 => ([(7, V y4), (8, R 101), (9, V y6.1), (11, H (List Bool) 103), (12, V v26), (69, V x33)], [(101, B y5), (103, O l27)])) fun x33 =>
brr x33 (
doneA (false)) (
getR y5.Vertices v26 fun a34 =>
cl (f9.ok y5 a34.ID) fun y35 =>
ap l27 ([y35] : List (List Bool)) fun l36 =>
cont ((IntKind.i64.wrap (v26 + 1)), l36))) (
doneB l27)

noncomputable def f3 (p1 : Int) (p2 : List A5_Int) (p3 : Bool) : Pg Bool :=
cl (f6.ok) fun y4 =>
brr (!y4) (
.ret (false)) (
cl (f7.ok p1 p2 p3) fun y5 =>
cl (f8v2.ok y5) fun y6 =>
join1 (.reg 6) (
brr (y6.2 != 0) (
retA' true) (
retA' ((L y6.1 : Int) != (L y5.Vertices : Int)))) (.cut .nat fun x7 => ([(7, V y4), (8, R 101), (9, V y6.1), (41, V x7)], [(101, B y5)])) fun x7 =>
brr x7 (
.ret (false)) (
loop2 ((0 : Int), ([] : List (List Bool))) (fun s37 => f3.l1 y4 y5 y6 s37.1 s37.2) (fun s37 => ([(7, V y4), (8, R 101), (9, V y6.1), (11, H (List Bool) 501), (12, V s37.1)], [(101, B y5), (501, O s37.2)])) .inl (fun r38 =>
.ret r38) (.cut (.ext 0) fun x39 => ([(7, V y4), (8, R 101), (9, V y6.1), (11, H (List Bool) 103)], [(101, B y5), (103, O x39)])) fun x39 =>
loop2 (0 : Int) (fun s117 => f3.l3 y4 y5 y6 x39 s117) (fun s117 => ([(7, V y4), (8, R 101), (9, V y6.1), (11, H (List Bool) 103), (13, V s117)], [(101, B y5), (103, O x39)])) .inl (fun r118 =>
.ret r118) (.cut (.ext 2) fun _ => ([(7, V y4)], [])) fun _ =>
.ret (y4)))

theorem f3.ok (p1 : Int) (p2 : List A5_Int) (p3 : Bool) {x} (h : (f3 p1 p2 p3).run = some x) : Spec Try.prog 3 [V p1, V p2, V p3] [] (V x) [] :=
  Prg.ok Try.func3 (res := fun x => V x) (outs := fun x => []) (by kernel_rfl) (by kernel_rfl) rfl h

end Go.Fx.Gen
