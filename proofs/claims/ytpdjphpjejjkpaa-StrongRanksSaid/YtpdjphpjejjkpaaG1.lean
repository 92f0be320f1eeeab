/- Plain programs, and the proofs that the code computes them; printed by a program of our own. -/
import Derived.Test.YtpdjphpjejjkpaaFxP
import Derived.Test.YtpdjphpjejjkpaaProg
set_option linter.unusedVariables false
set_option maxRecDepth 100000
namespace Go.Fx.Gen
open Go.Proofs Go.Fx
abbrev Pg := Prg Try.prog

structure A5_Int where
  x0 : Int
  x1 : Int
  x2 : Int
  x3 : Int
  x4 : Int

instance : Cel A5_Int := ⟨fun v => [.int .i64 v.x0, .int .i64 v.x1, .int .i64 v.x2, .int .i64 v.x3, .int .i64 v.x4], 5, fun _ => rfl⟩
instance : Val A5_Int := ⟨fun v => .aggp (Cel.enc v)⟩

structure Vertex where
  ID : Int
  Side : Int

instance : Cel Vertex := ⟨fun v => [.int .i64 v.ID, .int .i64 v.Side], 2, fun _ => rfl⟩
instance : Val Vertex := ⟨fun v => .aggp (Cel.enc v)⟩

structure A2_Int where
  x0 : Int
  x1 : Int

instance : Cel A2_Int := ⟨fun v => [.int .i64 v.x0, .int .i64 v.x1], 2, fun _ => rfl⟩
instance : Val A2_Int := ⟨fun v => .aggp (Cel.enc v)⟩

structure Edge where
  ID : Int
  From : Int
  To : Int
  Directed : Bool
  Weight : Int
  Cap : Int

instance : Cel Edge := ⟨fun v => [.int .i64 v.ID, .int .i64 v.From, .int .i64 v.To, .bool v.Directed, .int .i64 v.Weight, .int .i64 v.Cap], 6, fun _ => rfl⟩
instance : Val Edge := ⟨fun v => .aggp (Cel.enc v)⟩

theorem yNo : Try.prog.funcs[yId]? = none := by kernel_rfl

structure Named where
  ID : Int
  Label : List Int

instance : Cel Named := ⟨fun v => [.int .i64 v.ID, .sl (v.Label.map Cel.enc)], 2, fun _ => rfl⟩
instance : Val Named := ⟨fun v => .aggp (Cel.enc v)⟩

abbrev str1 : ByteArray := ⟨#[0, 1, 2, 2, 3, 3, 3, 3, 4, 4, 4, 4, 4, 4, 4, 4, 5, 5, 5, 5, 5, 5, 5, 5, 5, 5, 5, 5, 5, 5, 5, 5, 6, 6, 6, 6, 6, 6, 6, 6, 6, 6, 6, 6, 6, 6, 6, 6, 6, 6, 6, 6, 6, 6, 6, 6, 6, 6, 6, 6, 6, 6, 6, 6, 7, 7, 7, 7, 7, 7, 7, 7, 7, 7, 7, 7, 7, 7, 7, 7, 7, 7, 7, 7, 7, 7, 7, 7, 7, 7, 7, 7, 7, 7, 7, 7, 7, 7, 7, 7, 7, 7, 7, 7, 7, 7, 7, 7, 7, 7, 7, 7, 7, 7, 7, 7, 7, 7, 7, 7, 7, 7, 7, 7, 7, 7, 7, 7, 8, 8, 8, 8, 8, 8, 8, 8, 8, 8, 8, 8, 8, 8, 8, 8, 8, 8, 8, 8, 8, 8, 8, 8, 8, 8, 8, 8, 8, 8, 8, 8, 8, 8, 8, 8, 8, 8, 8, 8, 8, 8, 8, 8, 8, 8, 8, 8, 8, 8, 8, 8, 8, 8, 8, 8, 8, 8, 8, 8, 8, 8, 8, 8, 8, 8, 8, 8, 8, 8, 8, 8, 8, 8, 8, 8, 8, 8, 8, 8, 8, 8, 8, 8, 8, 8, 8, 8, 8, 8, 8, 8, 8, 8, 8, 8, 8, 8, 8, 8, 8, 8, 8, 8, 8, 8, 8, 8, 8, 8, 8, 8, 8, 8, 8, 8, 8, 8, 8, 8, 8, 8, 8, 8, 8, 8, 8, 8]⟩

structure View where
  Vertex : Vertex
  Depots : List Int
  Edges : List Edge
  Labels : List Named

instance : Cel View := ⟨fun v => [.int .i64 v.Vertex.ID, .int .i64 v.Vertex.Side, .sl (v.Depots.map Cel.enc), .sl (v.Edges.map Cel.enc), .sl (v.Labels.map Cel.enc)], 5, fun _ => rfl⟩
instance : Val View := ⟨fun v => .aggp (Cel.enc v)⟩

structure Strong_best where
  f_want : Int
  f_edge : Int
  f_bad : Bool

instance : Cel Strong_best := ⟨fun v => [.int .i64 v.f_want, .int .i64 v.f_edge, .bool v.f_bad], 3, fun _ => rfl⟩
instance : Val Strong_best := ⟨fun v => .aggp (Cel.enc v)⟩

structure Graph where
  Vertices : List Vertex
  Edges : List Edge
  Depots : List Int

instance : Cel Graph := ⟨fun v => [.sl (v.Vertices.map Cel.enc), .sl (v.Edges.map Cel.enc), .sl (v.Depots.map Cel.enc)], 3, fun _ => rfl⟩
instance : Val Graph := ⟨fun v => .aggp (Cel.enc v)⟩

structure Graph_change where
  Graph : Graph

instance : Cel Graph_change := ⟨fun v => [.sl (v.Graph.Vertices.map Cel.enc), .sl (v.Graph.Edges.map Cel.enc), .sl (v.Graph.Depots.map Cel.enc)], 3, fun _ => rfl⟩
instance : Val Graph_change := ⟨fun v => .aggp (Cel.enc v)⟩

noncomputable def f15.l1 (p1 : Bool) (v10 : Int) (l11 : List Edge) : Pg (Nx (Int × (List Edge)) (Ex (List Edge) Empty Empty)) :=
let e12 : Int := (L ([(A2_Int.mk 0 1), (A2_Int.mk 1 0), (A2_Int.mk 1 2), (A2_Int.mk 2 3), (A2_Int.mk 3 2)] : List A2_Int) : Int)
brr (decide (v10 < e12)) (
ck v10 (L ([(A2_Int.mk 0 1), (A2_Int.mk 1 0), (A2_Int.mk 1 2), (A2_Int.mk 2 3), (A2_Int.mk 3 2)] : List A2_Int)) <|
rd ([(A2_Int.mk 0 1), (A2_Int.mk 1 0), (A2_Int.mk 1 2), (A2_Int.mk 2 3), (A2_Int.mk 3 2)] : List A2_Int) (at0 v10) fun a13 =>
ck v10 (L ([(A2_Int.mk 0 1), (A2_Int.mk 1 0), (A2_Int.mk 1 2), (A2_Int.mk 2 3), (A2_Int.mk 3 2)] : List A2_Int)) <|
rd ([(A2_Int.mk 0 1), (A2_Int.mk 1 0), (A2_Int.mk 1 2), (A2_Int.mk 2 3), (A2_Int.mk 3 2)] : List A2_Int) (at0 v10) fun a14 =>
ap l11 ([(Edge.mk v10 a13.x0 a14.x1 (p1 || (v10 != 2)) 0 0)] : List Edge) fun l15 =>
cont ((IntKind.i64.wrap (v10 + 1)), l15)) (
doneA l11)

noncomputable def f15 (p1 : Bool) : Pg (List Edge) :=
loop1 ((0 : Int), ([] : List Edge)) (fun s16 => f15.l1 p1 s16.1 s16.2) (fun s16 => ([(0, V p1), (2, R 101), (3, R 103), (4, H A2_Int 105), (5, V s16.1)], [(101, .varp [.nilsl, .nilsl, .nilsl]), (103, .var [H Vertex 107, H Edge 501, .pv .nilsl]), (105, O ([(A2_Int.mk 0 1), (A2_Int.mk 1 0), (A2_Int.mk 1 2), (A2_Int.mk 2 3), (A2_Int.mk 3 2)] : List A2_Int)), (107, O ([(Vertex.mk 0 0), (Vertex.mk 1 0), (Vertex.mk 2 0), (Vertex.mk 3 0)] : List Vertex)), (501, O s16.2)])) (.cut (.ext 0) fun x17 => ([(2, R 101), (3, R 103)], [(101, .varp [.nilsl, .nilsl, .nilsl]), (103, .var [H Vertex 105, H Edge 107, .pv .nilsl]), (105, O ([(Vertex.mk 0 0), (Vertex.mk 1 0), (Vertex.mk 2 0), (Vertex.mk 3 0)] : List Vertex)), (107, O x17)])) fun x17 =>
.ret (x17)

theorem f15.ok (p1 : Bool) {x} (h : (f15 p1).run = some x) : Spec Try.prog 15 [V p1] [] (.aggp [.sl (([(Vertex.mk 0 0), (Vertex.mk 1 0), (Vertex.mk 2 0), (Vertex.mk 3 0)] : List Vertex).map Cel.enc), .sl (x.map Cel.enc), .nilsl]) [] :=
  Prg.ok Try.func15 (res := fun x => .aggp [.sl (([(Vertex.mk 0 0), (Vertex.mk 1 0), (Vertex.mk 2 0), (Vertex.mk 3 0)] : List Vertex).map Cel.enc), .sl (x.map Cel.enc), .nilsl]) (outs := fun x => []) (by kernel_rfl) (by kernel_rfl) rfl h

noncomputable def f51 (p1 : Vertex) : Pg Unit :=
.ret (())

theorem f51.ok (p1 : Vertex) {x} (h : (f51 p1).run = some x) : Spec Try.prog 51 [V p1] [] (V p1.ID) [] :=
  Prg.ok Try.func51 (res := fun x => V p1.ID) (outs := fun x => []) (by kernel_rfl) (by kernel_rfl) rfl h

noncomputable def f50.l1 (p1 : List Vertex) (v6 : Int) : Pg (Nx Int (Ex (Bool) Unit Empty)) :=
brr (decide (v6 < (L p1 : Int))) (
getR p1 (IntKind.i64.wrap (v6 - 1)) fun a7 =>
cl (f51.ok a7) fun _ =>
getR p1 v6 fun a9 =>
cl (f51.ok a9) fun _ =>
brr (decide (a7.ID ≥ a9.ID)) (
doneA (false)) (
cont (IntKind.i64.wrap (v6 + 1)))) (
doneB ())

noncomputable def f50 (p1 : List Vertex) : Pg Bool :=
loop2 (1 : Int) (fun s11 => f50.l1 p1 s11) (fun s11 => ([(0, V p1), (1, .clo 51 []), (5, V s11)], [])) .inl (fun r12 =>
.ret r12) (.cut (.ext 0) fun _ => ([], [])) fun _ =>
.ret (true)

theorem f50.ok (p1 : List Vertex) {x} (h : (f50 p1).run = some x) : Spec Try.prog 50 [V p1, .clo 51 []] [] (V x) [] :=
  Prg.ok Try.func50 (res := fun x => V x) (outs := fun x => []) (by kernel_rfl) (by kernel_rfl) rfl h

noncomputable def f53 (p1 : Edge) : Pg Unit :=
.ret (())

theorem f53.ok (p1 : Edge) {x} (h : (f53 p1).run = some x) : Spec Try.prog 53 [V p1] [] (V p1.ID) [] :=
  Prg.ok Try.func53 (res := fun x => V p1.ID) (outs := fun x => []) (by kernel_rfl) (by kernel_rfl) rfl h

noncomputable def f52.l1 (p1 : List Edge) (v6 : Int) : Pg (Nx Int (Ex (Bool) Unit Empty)) :=
brr (decide (v6 < (L p1 : Int))) (
getR p1 (IntKind.i64.wrap (v6 - 1)) fun a7 =>
cl (f53.ok a7) fun _ =>
getR p1 v6 fun a9 =>
cl (f53.ok a9) fun _ =>
brr (decide (a7.ID ≥ a9.ID)) (
doneA (false)) (
cont (IntKind.i64.wrap (v6 + 1)))) (
doneB ())

noncomputable def f52 (p1 : List Edge) : Pg Bool :=
loop2 (1 : Int) (fun s11 => f52.l1 p1 s11) (fun s11 => ([(0, V p1), (1, .clo 53 []), (5, V s11)], [])) .inl (fun r12 =>
.ret r12) (.cut (.ext 0) fun _ => ([], [])) fun _ =>
.ret (true)

theorem f52.ok (p1 : List Edge) {x} (h : (f52 p1).run = some x) : Spec Try.prog 52 [V p1, .clo 53 []] [] (V x) [] :=
  Prg.ok Try.func52 (res := fun x => V x) (outs := fun x => []) (by kernel_rfl) (by kernel_rfl) rfl h

noncomputable def f75 (p1 p2 p3 : Int) : Pg Unit :=
.ret (())

theorem f75.ok (p1 p2 p3 : Int) {x} (h : (f75 p1 p2 p3).run = some x) : Spec Try.prog 75 [V p1, V p2, V p3] [] (V ((decide (p2 ≤ p1)) && (decide (p1 ≤ p3)))) [] :=
  Prg.ok Try.func75 (res := fun x => V ((decide (p2 ≤ p1)) && (decide (p1 ≤ p3)))) (outs := fun x => []) (by kernel_rfl) (by kernel_rfl) rfl h

noncomputable def f58 (p1 : Vertex) : Pg Bool :=
cl (f75.ok p1.ID (0 : Int) (23 : Int)) fun _ =>
brr ((decide ((0 : Int) ≤ p1.ID)) && (decide (p1.ID ≤ (23 : Int)))) (
cl (f75.ok p1.Side (0 : Int) (3 : Int)) fun _ =>
.ret (((decide ((0 : Int) ≤ p1.Side)) && (decide (p1.Side ≤ (3 : Int)))))) (
.ret (false))

theorem f58.ok (p1 : Vertex) {x} (h : (f58 p1).run = some x) : Spec Try.prog 58 [V p1] [] (V x) [] :=
  Prg.ok Try.func58 (res := fun x => V x) (outs := fun x => []) (by kernel_rfl) (by kernel_rfl) rfl h

noncomputable def f57 (p1 : Vertex) : Pg Bool :=
cl (f58.ok p1) fun y2 =>
.ret ((!y2))

theorem f57.ok (p1 : Vertex) {x} (h : (f57 p1).run = some x) : Spec Try.prog 57 [V p1] [] (V x) [] :=
  Prg.ok Try.func57 (res := fun x => V x) (outs := fun x => []) (by kernel_rfl) (by kernel_rfl) rfl h

noncomputable def f62.l1 (p1 : List Vertex) (v4 : Int) : Pg (Nx Int (Ex (Int) Unit Empty)) :=
brr (decide (v4 < (L p1 : Int))) (
getR p1 v4 fun a5 =>
cl (f57.ok a5) fun y6 =>
brr y6 (
doneA (v4)) (
cont (IntKind.i64.wrap (v4 + 1)))) (
doneB ())

noncomputable def f62 (p1 : List Vertex) : Pg Int :=
loop2 (0 : Int) (fun s7 => f62.l1 p1 s7) (fun s7 => ([(0, V p1), (1, .clo 57 []), (7, V (L p1 : Int)), (8, V s7)], [])) .inl (fun r8 =>
.ret r8) (.cut (.ext 0) fun _ => ([], [])) fun _ =>
.ret (((-1) : Int))

theorem f62.ok (p1 : List Vertex) {x} (h : (f62 p1).run = some x) : Spec Try.prog 62 [V p1, .clo 57 []] [] (V x) [] :=
  Prg.ok Try.func62 (res := fun x => V x) (outs := fun x => []) (by kernel_rfl) (by kernel_rfl) rfl h

noncomputable def f30 (p1 : List Vertex) : Pg Bool :=
cl (f62.ok p1) fun y2 =>
.ret ((decide (y2 ≥ 0)))

theorem f30.ok (p1 : List Vertex) {x} (h : (f30 p1).run = some x) : Spec Try.prog 30 [V p1, .clo 57 []] [] (V x) [] :=
  Prg.ok Try.func30 (res := fun x => V x) (outs := fun x => []) (by kernel_rfl) (by kernel_rfl) rfl h

noncomputable def f55 (p1 : Edge) : Pg Bool :=
cl (f75.ok p1.ID (0 : Int) (39 : Int)) fun _ =>
brr ((decide ((0 : Int) ≤ p1.ID)) && (decide (p1.ID ≤ (39 : Int)))) (
cl (f75.ok p1.From (0 : Int) (23 : Int)) fun _ =>
brr ((decide ((0 : Int) ≤ p1.From)) && (decide (p1.From ≤ (23 : Int)))) (
cl (f75.ok p1.To (0 : Int) (23 : Int)) fun _ =>
brr ((decide ((0 : Int) ≤ p1.To)) && (decide (p1.To ≤ (23 : Int)))) (
cl (f75.ok p1.Weight ((-1000) : Int) (1000 : Int)) fun _ =>
brr ((decide (((-1000) : Int) ≤ p1.Weight)) && (decide (p1.Weight ≤ (1000 : Int)))) (
cl (f75.ok p1.Cap (0 : Int) (1000 : Int)) fun _ =>
.ret (((decide ((0 : Int) ≤ p1.Cap)) && (decide (p1.Cap ≤ (1000 : Int)))))) (
.ret (false))) (
.ret (false))) (
.ret (false))) (
.ret (false))

theorem f55.ok (p1 : Edge) {x} (h : (f55 p1).run = some x) : Spec Try.prog 55 [V p1] [] (V x) [] :=
  Prg.ok Try.func55 (res := fun x => V x) (outs := fun x => []) (by kernel_rfl) (by kernel_rfl) rfl h

noncomputable def f64 (p1 : Int) : Pg Unit :=
.ret (())

theorem f64.ok (p1 : Int) {x} (h : (f64 p1).run = some x) : Spec Try.prog 64 [V p1] [] (V (p1 != p1)) [] :=
  Prg.ok Try.func64 (res := fun x => V (p1 != p1)) (outs := fun x => []) (by kernel_rfl) (by kernel_rfl) rfl h

noncomputable def f37 (p1 p2 : Int) : Pg Int :=
cl (f64.ok p1) fun _ =>
cl (f64.ok p2) fun _ =>
brr (p1 != p1) (
brr (p2 != p2) (
.ret ((0 : Int))) (
.ret (((-1) : Int)))) (
brr (p2 != p2) (
.ret ((1 : Int))) (
brr (decide (p1 < p2)) (
.ret (((-1) : Int))) (
brr (decide (p1 > p2)) (
.ret ((1 : Int))) (
.ret ((0 : Int))))))

theorem f37.ok (p1 p2 : Int) {x} (h : (f37 p1 p2).run = some x) : Spec Try.prog 37 [V p1, V p2] [] (V x) [] :=
  Prg.ok Try.func37 (res := fun x => V x) (outs := fun x => []) (by kernel_rfl) (by kernel_rfl) rfl h

noncomputable def f87 (p1 : Vertex) (p2 : Int) : Pg Int :=
cl (f37.ok p1.ID p2) fun y3 =>
.ret (y3)

theorem f87.ok (p1 : Vertex) (p2 : Int) {x} (h : (f87 p1 p2).run = some x) : Spec Try.prog 87 [V p1, V p2] [] (V x) [] :=
  Prg.ok Try.func87 (res := fun x => V x) (outs := fun x => []) (by kernel_rfl) (by kernel_rfl) rfl h

noncomputable def f86.l1 (p1 : List Vertex) (p2 : Int) (v6 v7 : Int) : Pg (Nx (Int × Int) (Ex Int Empty Empty)) :=
brr (decide (v6 < v7)) (
let e8 : Int := (IntKind.i64.wrap ((IntKind.u64.wrap (IntKind.i64.wrap (v6 + v7))).fdiv (2 ^ (min (1 : Int).toNat IntKind.u64.bits))))
getR p1 e8 fun a9 =>
cl (f87.ok a9 p2) fun y10 =>
brr (decide (y10 < 0)) (
cont ((IntKind.i64.wrap (e8 + 1)), v7)) (
cont (v6, e8))) (
doneA v6)

noncomputable def f86 (p1 : List Vertex) (p2 : Int) : Pg (Int × Bool) :=
loop1 ((0 : Int), (L p1 : Int)) (fun s11 => f86.l1 p1 p2 s11.1 s11.2) (fun s11 => ([(0, V p1), (1, V p2), (2, .clo 87 []), (8, V (L p1 : Int)), (9, V s11.1), (10, V s11.2)], [])) (.cut (.ext 0) fun x12 => ([(0, V p1), (1, V p2), (2, .clo 87 []), (8, V (L p1 : Int)), (9, V x12)], [])) fun x12 =>
brr (decide (x12 < (L p1 : Int))) (
getR p1 x12 fun a13 =>
cl (f87.ok a13 p2) fun y14 =>
.ret ((x12, (y14 == 0)))) (
.ret ((x12, false)))

theorem f86.ok (p1 : List Vertex) (p2 : Int) {x} (h : (f86 p1 p2).run = some x) : Spec Try.prog 86 [V p1, V p2, .clo 87 []] [] (.tup [V x.1, V x.2]) [] :=
  Prg.ok Try.func86 (res := fun x => .tup [V x.1, V x.2]) (outs := fun x => []) (by kernel_rfl) (by kernel_rfl) rfl h

noncomputable def f76 (p1 : Int) (p2 : List Vertex) (p3 : List Edge) : Pg (Int × Bool) :=
cl (f86.ok p2 p1) fun y4 =>
.ret ((y4.1, y4.2))

theorem f76.ok (p1 : Int) (p2 : List Vertex) (p3 : List Edge) {x} (h : (f76 p1 p2 p3).run = some x) : Spec Try.prog 76 [R 0, V p1] [.varp [.sl (p2.map Cel.enc), .sl (p3.map Cel.enc), .nilsl]] (.tup [V x.1, V x.2]) [.varp [.sl (p2.map Cel.enc), .sl (p3.map Cel.enc), .nilsl]] :=
  Prg.ok Try.func76 (res := fun x => .tup [V x.1, V x.2]) (outs := fun x => [.varp [.sl (p2.map Cel.enc), .sl (p3.map Cel.enc), .nilsl]]) (by kernel_rfl) (by kernel_rfl) rfl h

noncomputable def f56 (p1 : Int) (p2 : List Vertex) (p3 : List Edge) : Pg Bool :=
cl (f76.ok p1 p2 p3) fun y4 =>
.ret (y4.2)

theorem f56.ok (p1 : Int) (p2 : List Vertex) (p3 : List Edge) {x} (h : (f56 p1 p2 p3).run = some x) : Spec Try.prog 56 [R 0, V p1] [.varp [.sl (p2.map Cel.enc), .sl (p3.map Cel.enc), .nilsl]] (V x) [.varp [.sl (p2.map Cel.enc), .sl (p3.map Cel.enc), .nilsl]] :=
  Prg.ok Try.func56 (res := fun x => V x) (outs := fun x => [.varp [.sl (p2.map Cel.enc), .sl (p3.map Cel.enc), .nilsl]]) (by kernel_rfl) (by kernel_rfl) rfl h

noncomputable def f54 (p1 : Edge) (p2 : List Vertex) (p3 : List Edge) : Pg Bool :=
cl (f55.ok p1) fun y4 =>
brr (!y4) (
.ret (true)) (
cl (f56.ok p1.From p2 p3) fun y5 =>
brr (!y5) (
.ret (true)) (
cl (f56.ok p1.To p2 p3) fun y6 =>
.ret ((!y6))))

theorem f54.ok (p1 : Edge) (p2 : List Vertex) (p3 : List Edge) {x} (h : (f54 p1 p2 p3).run = some x) : Spec Try.prog 54 [V p1, R 0] [mkVar (R 2), .varp [.sl (p2.map Cel.enc), .sl (p3.map Cel.enc), .nilsl]] (V x) [mkVar (R 2), .varp [.sl (p2.map Cel.enc), .sl (p3.map Cel.enc), .nilsl]] :=
  Prg.ok Try.func54 (res := fun x => V x) (outs := fun x => [mkVar (R 2), .varp [.sl (p2.map Cel.enc), .sl (p3.map Cel.enc), .nilsl]]) (by kernel_rfl) (by kernel_rfl) rfl h

noncomputable def f74.l1 (p1 : List Edge) (p2 : List Vertex) (p3 : List Edge) (v6 : Int) : Pg (Nx Int (Ex (Int) Unit Empty)) :=
brr (decide (v6 < (L p1 : Int))) (
getR p1 v6 fun a7 =>
cl (f54.ok a7 p2 p3) fun y8 =>
brr y8 (
doneA (v6)) (
cont (IntKind.i64.wrap (v6 + 1)))) (
doneB ())

noncomputable def f74 (p1 : List Edge) (p2 : List Vertex) (p3 : List Edge) : Pg Int :=
loop2 (0 : Int) (fun s9 => f74.l1 p1 p2 p3 s9) (fun s9 => ([(0, V p1), (1, .clo 54 [R 0]), (7, V (L p1 : Int)), (8, V s9)], [(0, mkVar (R 2)), (2, .varp [.sl (p2.map Cel.enc), .sl (p3.map Cel.enc), .nilsl])])) .inl (fun r10 =>
.ret r10) (.cut (.ext 0) fun _ => ([], [(0, mkVar (R 2)), (2, .varp [.sl (p2.map Cel.enc), .sl (p3.map Cel.enc), .nilsl])])) fun _ =>
.ret (((-1) : Int))

theorem f74.ok (p1 : List Edge) (p2 : List Vertex) (p3 : List Edge) {x} (h : (f74 p1 p2 p3).run = some x) : Spec Try.prog 74 [V p1, .clo 54 [R 0]] [mkVar (R 2), .varp [.sl (p2.map Cel.enc), .sl (p3.map Cel.enc), .nilsl]] (V x) [mkVar (R 2), .varp [.sl (p2.map Cel.enc), .sl (p3.map Cel.enc), .nilsl]] :=
  Prg.ok Try.func74 (res := fun x => V x) (outs := fun x => [mkVar (R 2), .varp [.sl (p2.map Cel.enc), .sl (p3.map Cel.enc), .nilsl]]) (by kernel_rfl) (by kernel_rfl) rfl h

noncomputable def f47 (p1 : List Edge) (p2 : List Vertex) (p3 : List Edge) : Pg Bool :=
cl (f74.ok p1 p2 p3) fun y4 =>
.ret ((decide (y4 ≥ 0)))

theorem f47.ok (p1 : List Edge) (p2 : List Vertex) (p3 : List Edge) {x} (h : (f47 p1 p2 p3).run = some x) : Spec Try.prog 47 [V p1, .clo 54 [R 0]] [mkVar (R 2), .varp [.sl (p2.map Cel.enc), .sl (p3.map Cel.enc), .nilsl]] (V x) [mkVar (R 2), .varp [.sl (p2.map Cel.enc), .sl (p3.map Cel.enc), .nilsl]] :=
  Prg.ok Try.func47 (res := fun x => V x) (outs := fun x => [mkVar (R 2), .varp [.sl (p2.map Cel.enc), .sl (p3.map Cel.enc), .nilsl]]) (by kernel_rfl) (by kernel_rfl) rfl h

noncomputable def f78 (p1 : Int) : Pg Unit :=
.ret (())

theorem f78.ok (p1 : Int) {x} (h : (f78 p1).run = some x) : Spec Try.prog 78 [V p1] [] (V p1) [] :=
  Prg.ok Try.func78 (res := fun x => V p1) (outs := fun x => []) (by kernel_rfl) (by kernel_rfl) rfl h

noncomputable def f77.l1 (p1 : List Int) (v6 : Int) : Pg (Nx Int (Ex (Bool) Unit Empty)) :=
brr (decide (v6 < (L p1 : Int))) (
getR p1 (IntKind.i64.wrap (v6 - 1)) fun a7 =>
cl (f78.ok a7) fun _ =>
getR p1 v6 fun a9 =>
cl (f78.ok a9) fun _ =>
brr (decide (a7 ≥ a9)) (
doneA (false)) (
cont (IntKind.i64.wrap (v6 + 1)))) (
doneB ())

noncomputable def f77 (p1 : List Int) : Pg Bool :=
loop2 (1 : Int) (fun s11 => f77.l1 p1 s11) (fun s11 => ([(0, V p1), (1, .clo 78 []), (5, V s11)], [])) .inl (fun r12 =>
.ret r12) (.cut (.ext 0) fun _ => ([], [])) fun _ =>
.ret (true)

theorem f77.ok (p1 : List Int) {x} (h : (f77 p1).run = some x) : Spec Try.prog 77 [V p1, .clo 78 []] [] (V x) [] :=
  Prg.ok Try.func77 (res := fun x => V x) (outs := fun x => []) (by kernel_rfl) (by kernel_rfl) rfl h

noncomputable def f80 (p1 : Int) (p2 : List Vertex) (p3 : List Edge) : Pg Bool :=
cl (f56.ok p1 p2 p3) fun y4 =>
.ret ((!y4))

theorem f80.ok (p1 : Int) (p2 : List Vertex) (p3 : List Edge) {x} (h : (f80 p1 p2 p3).run = some x) : Spec Try.prog 80 [V p1, R 0] [mkVar (R 2), .varp [.sl (p2.map Cel.enc), .sl (p3.map Cel.enc), .nilsl]] (V x) [mkVar (R 2), .varp [.sl (p2.map Cel.enc), .sl (p3.map Cel.enc), .nilsl]] :=
  Prg.ok Try.func80 (res := fun x => V x) (outs := fun x => [mkVar (R 2), .varp [.sl (p2.map Cel.enc), .sl (p3.map Cel.enc), .nilsl]]) (by kernel_rfl) (by kernel_rfl) rfl h

noncomputable def f85.l1 (p1 : List Int) (p2 : List Vertex) (p3 : List Edge) (v6 : Int) : Pg (Nx Int (Ex (Int) Unit Empty)) :=
brr (decide (v6 < (L p1 : Int))) (
getR p1 v6 fun a7 =>
cl (f80.ok a7 p2 p3) fun y8 =>
brr y8 (
doneA (v6)) (
cont (IntKind.i64.wrap (v6 + 1)))) (
doneB ())

noncomputable def f85 (p1 : List Int) (p2 : List Vertex) (p3 : List Edge) : Pg Int :=
loop2 (0 : Int) (fun s9 => f85.l1 p1 p2 p3 s9) (fun s9 => ([(0, V p1), (1, .clo 80 [R 0]), (7, V (L p1 : Int)), (8, V s9)], [(0, mkVar (R 2)), (2, .varp [.sl (p2.map Cel.enc), .sl (p3.map Cel.enc), .nilsl])])) .inl (fun r10 =>
.ret r10) (.cut (.ext 0) fun _ => ([], [(0, mkVar (R 2)), (2, .varp [.sl (p2.map Cel.enc), .sl (p3.map Cel.enc), .nilsl])])) fun _ =>
.ret (((-1) : Int))

theorem f85.ok (p1 : List Int) (p2 : List Vertex) (p3 : List Edge) {x} (h : (f85 p1 p2 p3).run = some x) : Spec Try.prog 85 [V p1, .clo 80 [R 0]] [mkVar (R 2), .varp [.sl (p2.map Cel.enc), .sl (p3.map Cel.enc), .nilsl]] (V x) [mkVar (R 2), .varp [.sl (p2.map Cel.enc), .sl (p3.map Cel.enc), .nilsl]] :=
  Prg.ok Try.func85 (res := fun x => V x) (outs := fun x => [mkVar (R 2), .varp [.sl (p2.map Cel.enc), .sl (p3.map Cel.enc), .nilsl]]) (by kernel_rfl) (by kernel_rfl) rfl h

noncomputable def f79 (p1 : List Int) (p2 : List Vertex) (p3 : List Edge) : Pg Bool :=
cl (f85.ok p1 p2 p3) fun y4 =>
.ret ((decide (y4 ≥ 0)))

theorem f79.ok (p1 : List Int) (p2 : List Vertex) (p3 : List Edge) {x} (h : (f79 p1 p2 p3).run = some x) : Spec Try.prog 79 [V p1, .clo 80 [R 0]] [mkVar (R 2), .varp [.sl (p2.map Cel.enc), .sl (p3.map Cel.enc), .nilsl]] (V x) [mkVar (R 2), .varp [.sl (p2.map Cel.enc), .sl (p3.map Cel.enc), .nilsl]] :=
  Prg.ok Try.func79 (res := fun x => V x) (outs := fun x => [mkVar (R 2), .varp [.sl (p2.map Cel.enc), .sl (p3.map Cel.enc), .nilsl]]) (by kernel_rfl) (by kernel_rfl) rfl h

noncomputable def f59 (p1 : List Vertex) (p2 : List Edge) : Pg Bool :=
brr (decide ((0 : Int) ≤ 3)) (
cl (f77.ok ([] : List Int)) fun y3 =>
brr y3 (
cl (f79.ok ([] : List Int) p1 p2) fun y4 =>
.ret ((!y4))) (
.ret (false))) (
.ret (false))

theorem f59.ok (p1 : List Vertex) (p2 : List Edge) {x} (h : (f59 p1 p2).run = some x) : Spec Try.prog 59 [R 0] [.varp [.sl (p1.map Cel.enc), .sl (p2.map Cel.enc), .nilsl]] (V x) [.varp [.sl (p1.map Cel.enc), .sl (p2.map Cel.enc), .nilsl]] :=
  Prg.ok Try.func59 (res := fun x => V x) (outs := fun x => [.varp [.sl (p1.map Cel.enc), .sl (p2.map Cel.enc), .nilsl]]) (by kernel_rfl) (by kernel_rfl) rfl h

noncomputable def f21 (p1 : List Vertex) (p2 : List Edge) : Pg Bool :=
join1 (.reg 1) (
cl (f50.ok p1) fun y4 =>
brr (!y4) (
retA' true) (
cl (f52.ok p2) fun y5 =>
retA' (!y5))) (.cut .nat fun x6 => ([(1, R 101), (14, V x6)], [(101, .varp [.sl (p1.map Cel.enc), .sl (p2.map Cel.enc), .nilsl])])) fun x6 =>
brr x6 (
.ret (false)) (
cl (f30.ok p1) fun y7 =>
brr (!y7) (
cl (f47.ok p2 p1 p2) fun y8 =>
brr (!y8) (
cl (f59.ok p1 p2) fun y9 =>
.ret (y9)) (
.ret (false))) (
.ret (false)))

theorem f21.ok (p1 : List Vertex) (p2 : List Edge) {x} (h : (f21 p1 p2).run = some x) : Spec Try.prog 21 [.aggp [.sl (p1.map Cel.enc), .sl (p2.map Cel.enc), .nilsl]] [] (V x) [] :=
  Prg.ok Try.func21 (res := fun x => V x) (outs := fun x => []) (by kernel_rfl) (by kernel_rfl) rfl h

noncomputable def f27 (p1 : List Edge) : Pg Unit :=
.ret (())

theorem f27.ok (p1 : List Edge) {x} (h : (f27 p1).run = some x) : Spec Try.prog 27 [V p1] [] (.clo 61 [R 0]) [B p1] :=
  Prg.ok Try.func27 (res := fun x => .clo 61 [R 0]) (outs := fun x => [B p1]) (by kernel_rfl) (by kernel_rfl) rfl h

noncomputable def r32_0 (p1 : Edge) (p2 : A2_Int) (p3 : List U32) : Pg (List U32) :=
ck p2.x0 24 <|
rd p3 p2.x0.toNat fun a4 =>
ck p2.x1 24 <|
rd p3 p2.x1.toNat fun a5 =>
ck p2.x0 24 <|
st p3 p2.x0.toNat (fun x6 => (orI .u32 (U32.i a4) (U32.i a5))) fun l7 =>
.ret (l7)

theorem r32_0.ok (p1 : Edge) (p2 : A2_Int) (p3 : List U32) {x} (h : (r32_0 p1 p2 p3).run = some x) : RSpec Try.prog (.yl 0 :: [V p1, V p2]) [.lp [30, 31] (rfA Try.f32 0) (rfB Try.f32 0) 47 [6] [R 2] [] 0, BA 24 p3] (V true) [.lp [30, 31] (rfA Try.f32 0) (rfB Try.f32 0) 47 [6] [R 2] [] 0, BA 24 x] :=
  Prg.okR (pe := fun x => 0) (outs := fun x => [BA 24 x]) (by kernel_rfl) (by kernel_rfl) rfl h

noncomputable def f61.l1 (p1 : List Edge) (v6 : Int) (l7 : List U32) : Pg (Nx (Int × (List U32)) (Ex (List U32) Empty Empty)) :=
brr (decide (v6 < (L p1 : Int))) (
getR p1 v6 fun a8 =>
brr (a8.From == a8.To) (
cont ((IntKind.i64.wrap (v6 + 1)), l7)) (
clY yNo (r32_0.ok a8 (A2_Int.mk a8.From a8.To) l7) fun y9 =>
brr (!true) (
doneA (y9)) (
brr (!a8.Directed) (
clY yNo (r32_0.ok a8 (A2_Int.mk a8.To a8.From) y9) fun y10 =>
brr (!true) (
doneA (y10)) (
cont ((IntKind.i64.wrap (v6 + 1)), y10))) (
cont ((IntKind.i64.wrap (v6 + 1)), y9))))) (
doneA (l7))

noncomputable def f61 (p1 : List Edge) (p2 : List U32) : Pg (List U32) :=
loop1 ((0 : Int), p2) (fun s11 => f61.l1 p1 s11.1 s11.2) (fun s11 => ([(0, .yl 0), (5, V p1), (6, V (L p1 : Int)), (7, V s11.1)], [(0, .lp [30, 31] (rfA Try.f32 0) (rfB Try.f32 0) 47 [6] [R 4] [] 0), (2, B p1), (4, BA 24 s11.2)])) .inl fun r12 =>
.ret r12

theorem f61.ok (p1 : List Edge) (p2 : List U32) {x} (h : (f61 p1 p2).run = some x) : Spec Try.prog 61 [.yl 0, R 2] [.lp [30, 31] (rfA Try.f32 0) (rfB Try.f32 0) 47 [6] [R 4] [] 0, B p1, BA 24 p2] (.tup []) [.lp [30, 31] (rfA Try.f32 0) (rfB Try.f32 0) 47 [6] [R 4] [] 0, B p1, BA 24 x] :=
  Prg.ok Try.func61 (res := fun x => .tup []) (outs := fun x => [.lp [30, 31] (rfA Try.f32 0) (rfB Try.f32 0) 47 [6] [R 4] [] 0, B p1, BA 24 x]) (by kernel_rfl) (by kernel_rfl) rfl h

noncomputable def f32.l2 (p2 : List Edge) (l17 : List U32) : Pg (Nx (List U32) (Ex (List U32) Empty Empty)) :=
cl (f27.ok p2) fun _ =>
rf0 [6] (f61.ok p2 l17) fun y19 =>
eqW y19 l17 <|
brr (eqL y19 l17) (
doneA (l17)) (
cont y19)

noncomputable def f32.l1 (p1 : List Vertex) (v7 : Int) (l8 : List U32) : Pg (Nx (Int × (List U32)) (Ex (List U32) Empty Empty)) :=
brr (decide (v7 < (L p1 : Int))) (
getR p1 v7 fun a9 =>
ck a9.ID 24 <|
rd l8 a9.ID.toNat fun a10 =>
nnS a9.ID <|
ck a9.ID 24 <|
st l8 a9.ID.toNat (fun x11 => (orI .u32 (U32.i a10) (IntKind.u32.wrap (1 * (2 ^ (min (a9.ID : Int).toNat IntKind.u32.bits)))))) fun l12 =>
cont ((IntKind.i64.wrap (v7 + 1)), l12)) (
doneA l8)

noncomputable def f32 (p1 : List Vertex) (p2 : List Edge) : Pg (List U32) :=
loop1 ((0 : Int), (List.replicate 24 (0 : Int) : List U32)) (fun s13 => f32.l1 p1 s13.1 s13.2) (fun s13 => ([(1, R 101), (2, R 103), (3, R 105), (10, V p1), (11, V (L p1 : Int)), (12, V s13.1)], [(101, .varp [.sl (p1.map Cel.enc), .sl (p2.map Cel.enc), .nilsl]), (103, BA 24 (List.replicate 24 (0 : Int) : List U32)), (105, BA 24 s13.2)])) (.cut (.ext 0) fun x14 => ([(1, R 101), (2, R 103), (3, R 105)], [(101, .varp [.sl (p1.map Cel.enc), .sl (p2.map Cel.enc), .nilsl]), (103, BA 24 (List.replicate 24 (0 : Int) : List U32)), (105, BA 24 x14)])) fun x14 =>
loop1 x14 (fun s20 => f32.l2 p2 s20) (fun s20 => ([(1, R 101), (2, R 103), (3, R 105)], [(101, .varp [.sl (p1.map Cel.enc), .sl (p2.map Cel.enc), .nilsl]), (103, BA 24 (List.replicate 24 (0 : Int) : List U32)), (105, BA 24 s20)])) .inl fun r21 =>
.ret r21

theorem f32.ok (p1 : List Vertex) (p2 : List Edge) {x} (h : (f32 p1 p2).run = some x) : Spec Try.prog 32 [.aggp [.sl (p1.map Cel.enc), .sl (p2.map Cel.enc), .nilsl]] [] (Ar 24 x) [] :=
  Prg.ok Try.func32 (res := fun x => Ar 24 x) (outs := fun x => []) (by kernel_rfl) (by kernel_rfl) rfl h

noncomputable def f33 (p1 : List U32) (p2 p3 : Int) : Pg Bool :=
ck p2 24 <|
rd p1 p2.toNat fun a4 =>
nnS p3 <|
.ret (((andI .u32 ((U32.i a4).fdiv (2 ^ (min (p3 : Int).toNat IntKind.u32.bits))) 1) == 1))

theorem f33.ok (p1 : List U32) (p2 p3 : Int) {x} (h : (f33 p1 p2 p3).run = some x) : Spec Try.prog 33 [Ar 24 p1, V p2, V p3] [] (V x) [] :=
  Prg.ok Try.func33 (res := fun x => V x) (outs := fun x => []) (by kernel_rfl) (by kernel_rfl) rfl h

noncomputable def f33v1 (p1 : List U32) (p2 p3 : Int) : Pg Bool :=
ck p2 24 <|
rd p1 p2.toNat fun a4 =>
nnS p3 <|
.ret (((andI .u32 ((U32.i a4).fdiv (2 ^ (min (p3 : Int).toNat IntKind.u32.bits))) 1) == 1))

theorem f33v1.ok (p1 : List U32) (p2 p3 : Int) {x} (h : (f33v1 p1 p2 p3).run = some x) : Spec Try.prog 33 [Ar 24 p1, V p2, V p3] [] (V x) [] :=
  Prg.ok Try.func33 (res := fun x => V x) (outs := fun x => []) (by kernel_rfl) (by kernel_rfl) rfl h

noncomputable def r22_0 (p1 : Edge) (p2 : A2_Int) (p3 : List Vertex) (p4 : List Edge) (p5 p6 : List Int) (p7 : List (List Int)) : Pg (List (List Int)) :=
ck p2.x0 24 <|
rd p5 p2.x0.toNat fun a8 =>
ck p2.x1 24 <|
rd p5 p2.x1.toNat fun a9 =>
brr (a8 == a9) (
opnW 4 5 51 0 24 p2.x0.toNat [] p7 fun l10 =>
opnW 4 7 75 24 24 p2.x1.toNat [(0 + p2.x0.toNat)] p7 fun l11 =>
ck p2.x0 24 <|
ldW 0 24 p2.x0.toNat (0 + p2.x0.toNat) 1 <|
ap l10 ([p2.x1] : List Int) fun l12 =>
ck p2.x1 24 <|
ldW 24 24 p2.x1.toNat (24 + p2.x1.toNat) 0 <|
ap l11 ([p2.x0] : List Int) fun l13 =>
ck p2.x0 24 <|
stW 0 24 p2.x0.toNat (0 + p2.x0.toNat) 1 <|
ck p2.x1 24 <|
stW 24 24 p2.x1.toNat (24 + p2.x1.toNat) 0 <|
clsW 4 (24 + p2.x1.toNat) p7 l13 fun l14 =>
clsW 4 (0 + p2.x0.toNat) l14 l12 fun l15 =>
.ret (l15)) (
.ret (p7))

theorem r22_0.ok (p1 : Edge) (p2 : A2_Int) (p3 : List Vertex) (p4 : List Edge) (p5 p6 : List Int) (p7 : List (List Int)) {x} (h : (r22_0 p1 p2 p3 p4 p5 p6 p7).run = some x) : RSpec Try.prog (.yl 0 :: [V p1, V p2]) [.lp [51, 52] (rfA Try.f22 0) (rfB Try.f22 0) 121 [3] [R 2] [] 0, mkVar (R 4), .own [V p3, V p4, .pv .nilsl, Ar 24 p5, Ar 24 p6, ownR 24, ownR 24] [(75, 24, 24), (51, 0, 24)] (mE p7) []] (V true) [.lp [51, 52] (rfA Try.f22 0) (rfB Try.f22 0) 121 [3] [R 2] [] 0, mkVar (R 4), .own [V p3, V p4, .pv .nilsl, Ar 24 p5, Ar 24 p6, ownR 24, ownR 24] [(75, 24, 24), (51, 0, 24)] (mE x) []] :=
  Prg.okR (pe := fun x => 0) (outs := fun x => [mkVar (R 4), .own [V p3, V p4, .pv .nilsl, Ar 24 p5, Ar 24 p6, ownR 24, ownR 24] [(75, 24, 24), (51, 0, 24)] (mE x) []]) (by kernel_rfl) (by kernel_rfl) rfl h

noncomputable def f61v1.l1 (p1 : List Edge) (p2 : List Vertex) (p3 : List Edge) (p4 p5 : List Int) (v10 : Int) (l11 : List (List Int)) : Pg (Nx (Int × (List (List Int))) (Ex (List (List Int)) Empty Empty)) :=
brr (decide (v10 < (L p1 : Int))) (
getR p1 v10 fun a12 =>
brr (a12.From == a12.To) (
cont ((IntKind.i64.wrap (v10 + 1)), l11)) (
clY yNo (r22_0.ok a12 (A2_Int.mk a12.From a12.To) p2 p3 p4 p5 l11) fun y13 =>
brr (!true) (
doneA (y13)) (
brr (!a12.Directed) (
clY yNo (r22_0.ok a12 (A2_Int.mk a12.To a12.From) p2 p3 p4 p5 y13) fun y14 =>
brr (!true) (
doneA (y14)) (
cont ((IntKind.i64.wrap (v10 + 1)), y14))) (
cont ((IntKind.i64.wrap (v10 + 1)), y13))))) (
doneA (l11))

noncomputable def f61v1 (p1 : List Edge) (p2 : List Vertex) (p3 : List Edge) (p4 p5 : List Int) (p6 : List (List Int)) : Pg (List (List Int)) :=
loop1 ((0 : Int), p6) (fun s15 => f61v1.l1 p1 p2 p3 p4 p5 s15.1 s15.2) (fun s15 => ([(0, .yl 0), (5, V p1), (6, V (L p1 : Int)), (7, V s15.1)], [(0, .lp [51, 52] (rfA Try.f22 0) (rfB Try.f22 0) 121 [3] [R 4] [] 0), (2, B p1), (4, mkVar (R 6)), (6, .own [V p2, V p3, .pv .nilsl, Ar 24 p4, Ar 24 p5, ownR 24, ownR 24] [(75, 24, 24), (51, 0, 24)] (mE s15.2) [])])) .inl fun r16 =>
.ret r16

theorem f61v1.ok (p1 : List Edge) (p2 : List Vertex) (p3 : List Edge) (p4 p5 : List Int) (p6 : List (List Int)) {x} (h : (f61v1 p1 p2 p3 p4 p5 p6).run = some x) : Spec Try.prog 61 [.yl 0, R 2] [.lp [51, 52] (rfA Try.f22 0) (rfB Try.f22 0) 121 [3] [R 4] [] 0, B p1, mkVar (R 6), .own [V p2, V p3, .pv .nilsl, Ar 24 p4, Ar 24 p5, ownR 24, ownR 24] [(75, 24, 24), (51, 0, 24)] (mE p6) []] (.tup []) [.lp [51, 52] (rfA Try.f22 0) (rfB Try.f22 0) 121 [3] [R 4] [] 0, B p1, mkVar (R 6), .own [V p2, V p3, .pv .nilsl, Ar 24 p4, Ar 24 p5, ownR 24, ownR 24] [(75, 24, 24), (51, 0, 24)] (mE x) []] :=
  Prg.ok Try.func61 (res := fun x => .tup []) (outs := fun x => [.lp [51, 52] (rfA Try.f22 0) (rfB Try.f22 0) 121 [3] [R 4] [] 0, B p1, mkVar (R 6), .own [V p2, V p3, .pv .nilsl, Ar 24 p4, Ar 24 p5, ownR 24, ownR 24] [(75, 24, 24), (51, 0, 24)] (mE x) []]) (by kernel_rfl) (by kernel_rfl) rfl h

noncomputable def r60_0.l1 (p2 : A2_Int) (p6 p7 : List Int) (v18 : Int) (l19 : List Int) : Pg (Nx (Int × (List Int)) (Ex (List Int) Empty Empty)) :=
brr (decide (v18 < 24)) (
ck v18 24 <|
rd p6 v18.toNat fun a20 =>
ck p2.x1 24 <|
rd p6 p2.x1.toNat fun a21 =>
brr (a20 == a21) (
ck v18 24 <|
rd l19 v18.toNat fun a22 =>
ck p2.x0 24 <|
rd p7 p2.x0.toNat fun a23 =>
ck v18 24 <|
st l19 v18.toNat (fun x24 => (if (IntKind.i64.wrap (a23 + 1)) > a22 then (IntKind.i64.wrap (a23 + 1)) else a22)) fun l25 =>
cont ((IntKind.i64.wrap (v18 + 1)), l25)) (
cont ((IntKind.i64.wrap (v18 + 1)), l19))) (
doneA l19)

noncomputable def r60_0 (p1 : Edge) (p2 : A2_Int) (p3 : List Int) (p4 : List Vertex) (p5 : List Edge) (p6 p7 : List Int) (p8 p9 : List (List Int)) : Pg (List Int) :=
ck p2.x0 24 <|
rd p6 p2.x0.toNat fun a10 =>
ck p2.x1 24 <|
rd p6 p2.x1.toNat fun a11 =>
brr (a10 == a11) (
.ret (p3)) (
loop1 ((0 : Int), p3) (fun s26 => r60_0.l1 p2 p6 p7 s26.1 s26.2) (fun s26 => ([(1, R 2), (3, R 4), (6, V p2.x0), (7, V p2.x1), (38, V s26.1)], [(0, .dead), (2, mkVar (R 6)), (4, BA 24 s26.2), (6, .svar [V p4, V p5, .pv .nilsl, Ar 24 p6, Ar 24 p7, Ar 24 p8, Ar 24 p9])])) (.cut (.ext 2) fun x27 => ([], [(0, .dead), (2, mkVar (R 6)), (4, BA 24 x27), (6, .svar [V p4, V p5, .pv .nilsl, Ar 24 p6, Ar 24 p7, Ar 24 p8, Ar 24 p9])])) fun x27 =>
.ret (x27))

theorem r60_0.ok (p1 : Edge) (p2 : A2_Int) (p3 : List Int) (p4 : List Vertex) (p5 : List Edge) (p6 p7 : List Int) (p8 p9 : List (List Int)) {x} (h : (r60_0 p1 p2 p3 p4 p5 p6 p7 p8 p9).run = some x) : RSpec Try.prog (.yl 0 :: [V p1, V p2]) [.lp [19, 20] (rfA Try.f60 0) (rfB Try.f60 0) 69 [1, 3] [R 2, R 4] [] 0, mkVar (R 6), BA 24 p3, .svar [V p4, V p5, .pv .nilsl, Ar 24 p6, Ar 24 p7, Ar 24 p8, Ar 24 p9]] (V true) [.lp [19, 20] (rfA Try.f60 0) (rfB Try.f60 0) 69 [1, 3] [R 2, R 4] [] 0, mkVar (R 6), BA 24 x, .svar [V p4, V p5, .pv .nilsl, Ar 24 p6, Ar 24 p7, Ar 24 p8, Ar 24 p9]] :=
  Prg.okR (pe := fun x => 0) (outs := fun x => [mkVar (R 6), BA 24 x, .svar [V p4, V p5, .pv .nilsl, Ar 24 p6, Ar 24 p7, Ar 24 p8, Ar 24 p9]]) (by kernel_rfl) (by kernel_rfl) rfl h

noncomputable def f61v2.l1 (p1 : List Edge) (p3 : List Vertex) (p4 : List Edge) (p5 p6 : List Int) (p7 p8 : List (List Int)) (v12 : Int) (l13 : List Int) : Pg (Nx (Int × (List Int)) (Ex (List Int) Empty Empty)) :=
brr (decide (v12 < (L p1 : Int))) (
getR p1 v12 fun a14 =>
brr (a14.From == a14.To) (
cont ((IntKind.i64.wrap (v12 + 1)), l13)) (
clY yNo (r60_0.ok a14 (A2_Int.mk a14.From a14.To) l13 p3 p4 p5 p6 p7 p8) fun y15 =>
brr (!true) (
doneA (y15)) (
brr (!a14.Directed) (
clY yNo (r60_0.ok a14 (A2_Int.mk a14.To a14.From) y15 p3 p4 p5 p6 p7 p8) fun y16 =>
brr (!true) (
doneA (y16)) (
cont ((IntKind.i64.wrap (v12 + 1)), y16))) (
cont ((IntKind.i64.wrap (v12 + 1)), y15))))) (
doneA (l13))

noncomputable def f61v2 (p1 : List Edge) (p2 : List Int) (p3 : List Vertex) (p4 : List Edge) (p5 p6 : List Int) (p7 p8 : List (List Int)) : Pg (List Int) :=
loop1 ((0 : Int), p2) (fun s17 => f61v2.l1 p1 p3 p4 p5 p6 p7 p8 s17.1 s17.2) (fun s17 => ([(0, .yl 0), (5, V p1), (6, V (L p1 : Int)), (7, V s17.1)], [(0, .lp [19, 20] (rfA Try.f60 0) (rfB Try.f60 0) 69 [1, 3] [R 4, R 6] [] 0), (2, B p1), (4, mkVar (R 8)), (6, BA 24 s17.2), (8, .svar [V p3, V p4, .pv .nilsl, Ar 24 p5, Ar 24 p6, Ar 24 p7, Ar 24 p8])])) .inl fun r18 =>
.ret r18

theorem f61v2.ok (p1 : List Edge) (p2 : List Int) (p3 : List Vertex) (p4 : List Edge) (p5 p6 : List Int) (p7 p8 : List (List Int)) {x} (h : (f61v2 p1 p2 p3 p4 p5 p6 p7 p8).run = some x) : Spec Try.prog 61 [.yl 0, R 2] [.lp [19, 20] (rfA Try.f60 0) (rfB Try.f60 0) 69 [1, 3] [R 4, R 6] [] 0, B p1, mkVar (R 8), BA 24 p2, .svar [V p3, V p4, .pv .nilsl, Ar 24 p5, Ar 24 p6, Ar 24 p7, Ar 24 p8]] (.tup []) [.lp [19, 20] (rfA Try.f60 0) (rfB Try.f60 0) 69 [1, 3] [R 4, R 6] [] 0, B p1, mkVar (R 8), BA 24 x, .svar [V p3, V p4, .pv .nilsl, Ar 24 p5, Ar 24 p6, Ar 24 p7, Ar 24 p8]] :=
  Prg.ok Try.func61 (res := fun x => .tup []) (outs := fun x => [.lp [19, 20] (rfA Try.f60 0) (rfB Try.f60 0) 69 [1, 3] [R 4, R 6] [] 0, B p1, mkVar (R 8), BA 24 x, .svar [V p3, V p4, .pv .nilsl, Ar 24 p5, Ar 24 p6, Ar 24 p7, Ar 24 p8]]) (by kernel_rfl) (by kernel_rfl) rfl h

noncomputable def f60 (p1 : List Vertex) (p2 : List Edge) (p3 p4 : List Int) (p5 p6 : List (List Int)) : Pg (List Int) :=
cl (f27.ok p2) fun _ =>
rf0 [1, 3] (f61v2.ok p2 p4 p1 p2 p3 p4 p5 p6) fun y8 =>
.ret (y8)

theorem f60.ok (p1 : List Vertex) (p2 : List Edge) (p3 p4 : List Int) (p5 p6 : List (List Int)) {x} (h : (f60 p1 p2 p3 p4 p5 p6).run = some x) : Spec Try.prog 60 [R 0] [.svar [V p1, V p2, .pv .nilsl, Ar 24 p3, Ar 24 p4, Ar 24 p5, Ar 24 p6]] (Ar 24 x) [.svar [V p1, V p2, .pv .nilsl, Ar 24 p3, Ar 24 p4, Ar 24 p5, Ar 24 p6]] :=
  Prg.ok Try.func60 (res := fun x => Ar 24 x) (outs := fun x => [.svar [V p1, V p2, .pv .nilsl, Ar 24 p3, Ar 24 p4, Ar 24 p5, Ar 24 p6]]) (by kernel_rfl) (by kernel_rfl) rfl h

noncomputable def f22.l1 (p1 : List Vertex) (p2 : List Edge) (y3 : List U32) (v20 : Int) (l21 : List Int) (a22 : Vertex) (v29 : Int) : Pg (Nx Int (Ex (List Int) Empty Empty)) :=
brr (decide (v29 < 24)) (
join1 (.reg 9) (
cl (f33.ok y3 a22.ID v29) fun y31 =>
brr y31 (
cl (f33v1.ok y3 v29 a22.ID) fun y32 =>
retA' y32) (
retA' false)) (.cut .nat fun x33 => ([(1, R 101), (3, R 103), (4, R 105), (6, R 107), (7, V v29), (18, V p1), (19, V (L p1 : Int)), (20, V v20), (24, V v29), (38, V x33)], [(101, .varp [.sl (p1.map Cel.enc), .sl (p2.map Cel.enc), .nilsl]), (103, mkVar (R 109)), (105, BA 24 y3), (107, B a22), (109, .svar [V p1, V p2, .pv .nilsl, Ar 24 l21, Ar 24 (List.replicate 24 (0 : Int)), nilR 24, nilR 24])])) fun x33 =>
brr x33 (
ck a22.ID 24 <|
st l21 a22.ID.toNat (fun x34 => v29) fun l35 =>
doneA l35) (
cont (IntKind.i64.wrap (v29 + 1)))) (
doneA l21)

noncomputable def f22.l3 (p1 : List Vertex) (p2 : List Edge) (x39 : List Int) (l42 l43 : List (List Int)) (l46 l47 l48 : List Int) : Pg (Nx ((List Int) × (List Int) × (List Int)) (Ex (List Int) Empty Empty)) :=
eqW l46 l47 <|
brr (!(eqL l46 l47)) (
clK [0] (f60.ok p1 p2 x39 l47 l42 l43) fun y49 =>
cont (l47, y49, l47)) (
doneA l48)

noncomputable def f22.l2 (p1 : List Vertex) (p2 : List Edge) (y3 : List U32) (v20 : Int) (l21 : List Int) : Pg (Nx (Int × (List Int)) (Ex (List Int) Empty Empty)) :=
brr (decide (v20 < (L p1 : Int))) (
getR p1 v20 fun a22 =>
loop1 (0 : Int) (fun s36 => f22.l1 p1 p2 y3 v20 l21 a22 s36) (fun s36 => ([(1, R 101), (3, R 103), (4, R 105), (6, R 107), (18, V p1), (19, V (L p1 : Int)), (20, V v20), (24, V s36)], [(101, .varp [.sl (p1.map Cel.enc), .sl (p2.map Cel.enc), .nilsl]), (103, mkVar (R 109)), (105, BA 24 y3), (107, B a22), (109, .svar [V p1, V p2, .pv .nilsl, Ar 24 l21, Ar 24 (List.replicate 24 (0 : Int)), nilR 24, nilR 24])])) (.cut (.ext 2) fun x37 => ([(1, R 101), (3, R 103), (4, R 105), (18, V p1), (19, V (L p1 : Int)), (20, V v20)], [(101, .varp [.sl (p1.map Cel.enc), .sl (p2.map Cel.enc), .nilsl]), (103, mkVar (R 107)), (105, BA 24 y3), (107, .svar [V p1, V p2, .pv .nilsl, Ar 24 x37, Ar 24 (List.replicate 24 (0 : Int)), nilR 24, nilR 24])])) fun x37 =>
cont ((IntKind.i64.wrap (v20 + 1)), x37)) (
doneA l21)

noncomputable def f22 (p1 : List Vertex) (p2 : List Edge) : Pg ((List Int) × (List Int) × (List (List Int)) × (List (List Int))) :=
bxN 14 [V p1, V p2, .pv .nilsl, Ar 24 (List.replicate 24 (0 : Int)), Ar 24 (List.replicate 24 (0 : Int)), nilR 24, nilR 24] <|
cl (f32.ok p1 p2) fun y3 =>
loop1 ((0 : Int), (List.replicate 24 (0 : Int))) (fun s38 => f22.l2 p1 p2 y3 s38.1 s38.2) (fun s38 => ([(1, R 101), (3, R 103), (4, R 105), (18, V p1), (19, V (L p1 : Int)), (20, V s38.1)], [(101, .varp [.sl (p1.map Cel.enc), .sl (p2.map Cel.enc), .nilsl]), (103, mkVar (R 107)), (105, BA 24 y3), (107, .svar [V p1, V p2, .pv .nilsl, Ar 24 s38.2, Ar 24 (List.replicate 24 (0 : Int)), nilR 24, nilR 24])])) (.cut (.ext 0) fun x39 => ([(1, R 101), (3, R 103)], [(101, .varp [.sl (p1.map Cel.enc), .sl (p2.map Cel.enc), .nilsl]), (103, mkVar (R 105)), (105, .svar [V p1, V p2, .pv .nilsl, Ar 24 x39, Ar 24 (List.replicate 24 (0 : Int)), nilR 24, nilR 24])])) fun x39 =>
cl (f27.ok p2) fun _ =>
born2 105 51 24 75 <|
rf0 [3] (f61v1.ok p2 p1 p2 x39 (List.replicate 24 (0 : Int)) (List.replicate 48 [])) fun y41 =>
frz2 105 24 24 y41 fun l42 l43 =>
clK [0] (f60.ok p1 p2 x39 (List.replicate 24 (0 : Int)) l42 l43) fun y44 =>
loop1 ((List.replicate 24 (0 : Int)), y44, (List.replicate 24 (0 : Int))) (fun s50 => f22.l3 p1 p2 x39 l42 l43 s50.1 s50.2.1 s50.2.2) (fun s50 => ([(3, R 101), (10, R 103), (11, R 105)], [(101, mkVar (R 107)), (103, BA 24 s50.1), (105, BA 24 s50.2.1), (107, .svar [V p1, V p2, .pv .nilsl, Ar 24 x39, Ar 24 s50.2.2, Ar 24 l42, Ar 24 l43])])) (.cut (.ext 6) fun x51 => ([(3, R 101)], [(101, mkVar (R 103)), (103, .svar [V p1, V p2, .pv .nilsl, Ar 24 x39, Ar 24 x51, Ar 24 l42, Ar 24 l43])])) fun x51 =>
.ret ((x39, x51, l42, l43))

theorem f22.ok (p1 : List Vertex) (p2 : List Edge) {x} (h : (f22 p1 p2).run = some x) : Spec Try.prog 22 [.aggp [.sl (p1.map Cel.enc), .sl (p2.map Cel.enc), .nilsl]] [] (R 0) [.svar [V p1, V p2, .pv .nilsl, Ar 24 x.1, Ar 24 x.2.1, Ar 24 x.2.2.1, Ar 24 x.2.2.2]] :=
  Prg.ok Try.func22 (res := fun x => R 0) (outs := fun x => [.svar [V p1, V p2, .pv .nilsl, Ar 24 x.1, Ar 24 x.2.1, Ar 24 x.2.2.1, Ar 24 x.2.2.2]]) (by kernel_rfl) (by kernel_rfl) rfl h

noncomputable def f40 (p1 : List Int) : Pg (List Int) :=
bothN p1 <|
ap ([] : List Int) p1 fun l2 =>
.ret (l2)

theorem f40.ok (p1 : List Int) {x} (h : (f40 p1).run = some x) : Spec Try.prog 40 [V p1] [] (V x) [] :=
  Prg.ok Try.func40 (res := fun x => V x) (outs := fun x => []) (by kernel_rfl) (by kernel_rfl) rfl h

noncomputable def f23 (p1 : Int) (p2 : List Vertex) (p3 : List Edge) (p4 p5 : List Int) (p6 p7 : List (List Int)) : Pg (List Int) :=
ck p1 24 <|
rd p6 p1.toNat fun a8 =>
.ret (a8)

theorem f23.ok (p1 : Int) (p2 : List Vertex) (p3 : List Edge) (p4 p5 : List Int) (p6 p7 : List (List Int)) {x} (h : (f23 p1 p2 p3 p4 p5 p6 p7).run = some x) : Spec Try.prog 23 [R 0, V p1] [.svar [V p2, V p3, .pv .nilsl, Ar 24 p4, Ar 24 p5, Ar 24 p6, Ar 24 p7]] (V x) [.svar [V p2, V p3, .pv .nilsl, Ar 24 p4, Ar 24 p5, Ar 24 p6, Ar 24 p7]] :=
  Prg.ok Try.func23 (res := fun x => V x) (outs := fun x => [.svar [V p2, V p3, .pv .nilsl, Ar 24 p4, Ar 24 p5, Ar 24 p6, Ar 24 p7]]) (by kernel_rfl) (by kernel_rfl) rfl h

noncomputable def f40v1 (p1 : List Int) : Pg (List Int) :=
bothN p1 <|
ap ([] : List Int) p1 fun l2 =>
.ret (l2)

theorem f40v1.ok (p1 : List Int) {x} (h : (f40v1 p1).run = some x) : Spec Try.prog 40 [V p1] [] (H Int 0) [O x] :=
  Prg.ok Try.func40 (res := fun x => H Int 0) (outs := fun x => [O x]) (by kernel_rfl) (by kernel_rfl) rfl h

noncomputable def f25.l3 (y52 : List Int) (v60 : Int) (l61 l62 : List Int) : Pg (Nx (Int × (List Int) × (List Int)) (Ex ((List Int) × (List Int)) Empty Empty)) :=
brr (decide (v60 < (L y52 : Int))) (
getR y52 v60 fun a63 =>
ck a63 24 <|
rd l61 a63.toNat fun a64 =>
brr (a64 == 1048576) (
ck (0 : Int) (L l62) <|
rd l62 (at0 (0 : Int)) fun a65 =>
ck a65 24 <|
rd l61 a65.toNat fun a66 =>
ck a63 24 <|
st l61 a63.toNat (fun x67 => (IntKind.i64.wrap (a66 + 1))) fun l68 =>
ap l62 ([a63] : List Int) fun l69 =>
cont ((IntKind.i64.wrap (v60 + 1)), l68, l69)) (
cont ((IntKind.i64.wrap (v60 + 1)), l61, l62))) (
doneA (l61, l62))

noncomputable def f25.l4 (p2 : List Vertex) (p3 : List Edge) (p4 p5 : List Int) (p6 p7 : List (List Int)) (l49 l50 : List Int) : Pg (Nx ((List Int) × (List Int)) (Ex (List Int) Empty Empty)) :=
brr (decide ((L l50 : Int) > 0)) (
ck (0 : Int) (L l50) <|
rd l50 (at0 (0 : Int)) fun a51 =>
cl (f23.ok a51 p2 p3 p4 p5 p6 p7) fun y52 =>
loop1 ((0 : Int), l49, l50) (fun s70 => f25.l3 y52 s70.1 s70.2.1 s70.2.2) (fun s70 => ([(1, .bnd 23 (R 0)), (4, R 101), (6, H Int 103), (37, V y52), (38, V (L y52 : Int)), (39, V s70.1)], [(0, .svar [V p2, V p3, .pv .nilsl, Ar 24 p4, Ar 24 p5, Ar 24 p6, Ar 24 p7]), (101, BA 24 s70.2.1), (103, O s70.2.2)])) (.cut (.ext 6) fun x71 => ([(1, .bnd 23 (R 0)), (4, R 101), (6, H Int 103)], [(0, .svar [V p2, V p3, .pv .nilsl, Ar 24 p4, Ar 24 p5, Ar 24 p6, Ar 24 p7]), (101, BA 24 x71.1), (103, O x71.2)])) fun x71 =>
cutLoO x71.2 (1 : Int) fun l72 =>
cont (x71.1, l72)) (
doneA l49)

noncomputable def f25.l2 (y16 : List Int) (v20 : Int) (l21 : List Int) : Pg (Nx (Int × (List Int)) (Ex (List Int) Empty Empty)) :=
brr (decide (v20 < (L y16 : Int))) (
ck v20 (L y16) <|
rd y16 (at0 v20) fun a22 =>
ck a22 24 <|
st l21 a22.toNat (fun x23 => 0) fun l24 =>
cont ((IntKind.i64.wrap (v20 + 1)), l24)) (
doneA l21)

noncomputable def f25.l1 (v10 : Int) (l11 : List Int) : Pg (Nx (Int × (List Int)) (Ex (List Int) Empty Empty)) :=
brr (decide (v10 < 24)) (
ck v10 24 <|
st l11 v10.toNat (fun x12 => 1048576) fun l13 =>
cont ((IntKind.i64.wrap (v10 + 1)), l13)) (
doneA l11)

noncomputable def f25 (p1 : List Int) (p2 : List Vertex) (p3 : List Edge) (p4 p5 : List Int) (p6 p7 : List (List Int)) : Pg (List Int) :=
loop1 ((0 : Int), (List.replicate 24 (0 : Int))) (fun s14 => f25.l1 s14.1 s14.2) (fun s14 => ([(0, V p1), (1, .bnd 23 (R 0)), (4, R 101), (11, V s14.1)], [(0, .svar [V p2, V p3, .pv .nilsl, Ar 24 p4, Ar 24 p5, Ar 24 p6, Ar 24 p7]), (101, BA 24 s14.2)])) (.cut (.ext 0) fun x15 => ([(0, V p1), (1, .bnd 23 (R 0)), (4, R 101)], [(0, .svar [V p2, V p3, .pv .nilsl, Ar 24 p4, Ar 24 p5, Ar 24 p6, Ar 24 p7]), (101, BA 24 x15)])) fun x15 =>
cl (f40v1.ok p1) fun y16 =>
loop1 ((0 : Int), x15) (fun s25 => f25.l2 y16 s25.1 s25.2) (fun s25 => ([(1, .bnd 23 (R 0)), (4, R 101), (6, H Int 103), (19, H Int 103), (20, V (L y16 : Int)), (21, V s25.1)], [(0, .svar [V p2, V p3, .pv .nilsl, Ar 24 p4, Ar 24 p5, Ar 24 p6, Ar 24 p7]), (101, BA 24 s25.2), (103, O y16)])) (.cut (.ext 2) fun x26 => ([(1, .bnd 23 (R 0)), (4, R 101), (6, H Int 103)], [(0, .svar [V p2, V p3, .pv .nilsl, Ar 24 p4, Ar 24 p5, Ar 24 p6, Ar 24 p7]), (101, BA 24 x26), (103, O y16)])) fun x26 =>
loop1 (x26, y16) (fun s73 => f25.l4 p2 p3 p4 p5 p6 p7 s73.1 s73.2) (fun s73 => ([(1, .bnd 23 (R 0)), (4, R 101), (6, H Int 103)], [(0, .svar [V p2, V p3, .pv .nilsl, Ar 24 p4, Ar 24 p5, Ar 24 p6, Ar 24 p7]), (101, BA 24 s73.1), (103, O s73.2)])) (.cut (.ext 4) fun x74 => ([(4, R 101)], [(0, .svar [V p2, V p3, .pv .nilsl, Ar 24 p4, Ar 24 p5, Ar 24 p6, Ar 24 p7]), (101, BA 24 x74)])) fun x74 =>
.ret (x74)

theorem f25.ok (p1 : List Int) (p2 : List Vertex) (p3 : List Edge) (p4 p5 : List Int) (p6 p7 : List (List Int)) {x} (h : (f25 p1 p2 p3 p4 p5 p6 p7).run = some x) : Spec Try.prog 25 [V p1, .bnd 23 (R 0)] [.svar [V p2, V p3, .pv .nilsl, Ar 24 p4, Ar 24 p5, Ar 24 p6, Ar 24 p7]] (Ar 24 x) [.svar [V p2, V p3, .pv .nilsl, Ar 24 p4, Ar 24 p5, Ar 24 p6, Ar 24 p7]] :=
  Prg.ok Try.func25 (res := fun x => Ar 24 x) (outs := fun x => [.svar [V p2, V p3, .pv .nilsl, Ar 24 p4, Ar 24 p5, Ar 24 p6, Ar 24 p7]]) (by kernel_rfl) (by kernel_rfl) rfl h

noncomputable def f24 (p1 : Int) (p2 : List Vertex) (p3 : List Edge) (p4 p5 : List Int) (p6 p7 : List (List Int)) : Pg (List Int) :=
ck p1 24 <|
rd p7 p1.toNat fun a8 =>
.ret (a8)

theorem f24.ok (p1 : Int) (p2 : List Vertex) (p3 : List Edge) (p4 p5 : List Int) (p6 p7 : List (List Int)) {x} (h : (f24 p1 p2 p3 p4 p5 p6 p7).run = some x) : Spec Try.prog 24 [R 0, V p1] [.svar [V p2, V p3, .pv .nilsl, Ar 24 p4, Ar 24 p5, Ar 24 p6, Ar 24 p7]] (V x) [.svar [V p2, V p3, .pv .nilsl, Ar 24 p4, Ar 24 p5, Ar 24 p6, Ar 24 p7]] :=
  Prg.ok Try.func24 (res := fun x => V x) (outs := fun x => [.svar [V p2, V p3, .pv .nilsl, Ar 24 p4, Ar 24 p5, Ar 24 p6, Ar 24 p7]]) (by kernel_rfl) (by kernel_rfl) rfl h

noncomputable def f25v1.l3 (y52 : List Int) (v60 : Int) (l61 l62 : List Int) : Pg (Nx (Int × (List Int) × (List Int)) (Ex ((List Int) × (List Int)) Empty Empty)) :=
brr (decide (v60 < (L y52 : Int))) (
getR y52 v60 fun a63 =>
ck a63 24 <|
rd l61 a63.toNat fun a64 =>
brr (a64 == 1048576) (
ck (0 : Int) (L l62) <|
rd l62 (at0 (0 : Int)) fun a65 =>
ck a65 24 <|
rd l61 a65.toNat fun a66 =>
ck a63 24 <|
st l61 a63.toNat (fun x67 => (IntKind.i64.wrap (a66 + 1))) fun l68 =>
ap l62 ([a63] : List Int) fun l69 =>
cont ((IntKind.i64.wrap (v60 + 1)), l68, l69)) (
cont ((IntKind.i64.wrap (v60 + 1)), l61, l62))) (
doneA (l61, l62))

noncomputable def f25v1.l4 (p2 : List Vertex) (p3 : List Edge) (p4 p5 : List Int) (p6 p7 : List (List Int)) (l49 l50 : List Int) : Pg (Nx ((List Int) × (List Int)) (Ex (List Int) Empty Empty)) :=
brr (decide ((L l50 : Int) > 0)) (
ck (0 : Int) (L l50) <|
rd l50 (at0 (0 : Int)) fun a51 =>
cl (f24.ok a51 p2 p3 p4 p5 p6 p7) fun y52 =>
loop1 ((0 : Int), l49, l50) (fun s70 => f25v1.l3 y52 s70.1 s70.2.1 s70.2.2) (fun s70 => ([(1, .bnd 24 (R 0)), (4, R 101), (6, H Int 103), (37, V y52), (38, V (L y52 : Int)), (39, V s70.1)], [(0, .svar [V p2, V p3, .pv .nilsl, Ar 24 p4, Ar 24 p5, Ar 24 p6, Ar 24 p7]), (101, BA 24 s70.2.1), (103, O s70.2.2)])) (.cut (.ext 6) fun x71 => ([(1, .bnd 24 (R 0)), (4, R 101), (6, H Int 103)], [(0, .svar [V p2, V p3, .pv .nilsl, Ar 24 p4, Ar 24 p5, Ar 24 p6, Ar 24 p7]), (101, BA 24 x71.1), (103, O x71.2)])) fun x71 =>
cutLoO x71.2 (1 : Int) fun l72 =>
cont (x71.1, l72)) (
doneA l49)

noncomputable def f25v1.l2 (y16 : List Int) (v20 : Int) (l21 : List Int) : Pg (Nx (Int × (List Int)) (Ex (List Int) Empty Empty)) :=
brr (decide (v20 < (L y16 : Int))) (
ck v20 (L y16) <|
rd y16 (at0 v20) fun a22 =>
ck a22 24 <|
st l21 a22.toNat (fun x23 => 0) fun l24 =>
cont ((IntKind.i64.wrap (v20 + 1)), l24)) (
doneA l21)

noncomputable def f25v1.l1 (v10 : Int) (l11 : List Int) : Pg (Nx (Int × (List Int)) (Ex (List Int) Empty Empty)) :=
brr (decide (v10 < 24)) (
ck v10 24 <|
st l11 v10.toNat (fun x12 => 1048576) fun l13 =>
cont ((IntKind.i64.wrap (v10 + 1)), l13)) (
doneA l11)

noncomputable def f25v1 (p1 : List Int) (p2 : List Vertex) (p3 : List Edge) (p4 p5 : List Int) (p6 p7 : List (List Int)) : Pg (List Int) :=
loop1 ((0 : Int), (List.replicate 24 (0 : Int))) (fun s14 => f25v1.l1 s14.1 s14.2) (fun s14 => ([(0, V p1), (1, .bnd 24 (R 0)), (4, R 101), (11, V s14.1)], [(0, .svar [V p2, V p3, .pv .nilsl, Ar 24 p4, Ar 24 p5, Ar 24 p6, Ar 24 p7]), (101, BA 24 s14.2)])) (.cut (.ext 0) fun x15 => ([(0, V p1), (1, .bnd 24 (R 0)), (4, R 101)], [(0, .svar [V p2, V p3, .pv .nilsl, Ar 24 p4, Ar 24 p5, Ar 24 p6, Ar 24 p7]), (101, BA 24 x15)])) fun x15 =>
cl (f40v1.ok p1) fun y16 =>
loop1 ((0 : Int), x15) (fun s25 => f25v1.l2 y16 s25.1 s25.2) (fun s25 => ([(1, .bnd 24 (R 0)), (4, R 101), (6, H Int 103), (19, H Int 103), (20, V (L y16 : Int)), (21, V s25.1)], [(0, .svar [V p2, V p3, .pv .nilsl, Ar 24 p4, Ar 24 p5, Ar 24 p6, Ar 24 p7]), (101, BA 24 s25.2), (103, O y16)])) (.cut (.ext 2) fun x26 => ([(1, .bnd 24 (R 0)), (4, R 101), (6, H Int 103)], [(0, .svar [V p2, V p3, .pv .nilsl, Ar 24 p4, Ar 24 p5, Ar 24 p6, Ar 24 p7]), (101, BA 24 x26), (103, O y16)])) fun x26 =>
loop1 (x26, y16) (fun s73 => f25v1.l4 p2 p3 p4 p5 p6 p7 s73.1 s73.2) (fun s73 => ([(1, .bnd 24 (R 0)), (4, R 101), (6, H Int 103)], [(0, .svar [V p2, V p3, .pv .nilsl, Ar 24 p4, Ar 24 p5, Ar 24 p6, Ar 24 p7]), (101, BA 24 s73.1), (103, O s73.2)])) (.cut (.ext 4) fun x74 => ([(4, R 101)], [(0, .svar [V p2, V p3, .pv .nilsl, Ar 24 p4, Ar 24 p5, Ar 24 p6, Ar 24 p7]), (101, BA 24 x74)])) fun x74 =>
.ret (x74)

theorem f25v1.ok (p1 : List Int) (p2 : List Vertex) (p3 : List Edge) (p4 p5 : List Int) (p6 p7 : List (List Int)) {x} (h : (f25v1 p1 p2 p3 p4 p5 p6 p7).run = some x) : Spec Try.prog 25 [V p1, .bnd 24 (R 0)] [.svar [V p2, V p3, .pv .nilsl, Ar 24 p4, Ar 24 p5, Ar 24 p6, Ar 24 p7]] (Ar 24 x) [.svar [V p2, V p3, .pv .nilsl, Ar 24 p4, Ar 24 p5, Ar 24 p6, Ar 24 p7]] :=
  Prg.ok Try.func25 (res := fun x => Ar 24 x) (outs := fun x => [.svar [V p2, V p3, .pv .nilsl, Ar 24 p4, Ar 24 p5, Ar 24 p6, Ar 24 p7]]) (by kernel_rfl) (by kernel_rfl) rfl h

noncomputable def r26_0v2 (p1 : Edge) (p2 : A2_Int) (p3 : List Vertex) (p4 : List Edge) (p5 p6 : List Int) (p7 p8 : List (List Int)) (p9 : List Int) : Pg (List Int) :=
mvW 4 8 5 <|
ck p2.x0 24 <|
rd p5 p2.x0.toNat fun a10 =>
ck p2.x1 24 <|
rd p5 p2.x1.toNat fun a11 =>
brr (a10 != a11) (
ck p2.x0 24 <|
rd p6 p2.x0.toNat fun a12 =>
ck p2.x1 24 <|
rd p6 p2.x1.toNat fun a13 =>
brr (a12 == (IntKind.i64.wrap (a13 - 1))) (
ap p9 ([p2.x1] : List Int) fun l14 =>
.ret (l14)) (
.ret (p9))) (
.ret (p9))

theorem r26_0v2.ok (p1 : Edge) (p2 : A2_Int) (p3 : List Vertex) (p4 : List Edge) (p5 p6 : List Int) (p7 p8 : List (List Int)) (p9 : List Int) {x} (h : (r26_0v2 p1 p2 p3 p4 p5 p6 p7 p8 p9).run = some x) : RSpec Try.prog (.yl 0 :: [V p1, V p2]) [.lp [15, 16] (rfA Try.f26 0) (rfB Try.f26 0) 79 [1, 2] [R 2, R 4] [] 0, mkVar (R 6), mkVar (H Int 8), .svar [V p3, V p4, .pv .nilsl, Ar 24 p5, Ar 24 p6, Ar 24 p7, Ar 24 p8], O p9] (V true) [.lp [15, 16] (rfA Try.f26 0) (rfB Try.f26 0) 79 [1, 2] [R 2, R 4] [] 0, mkVar (R 6), mkVar (H Int 10), .svar [V p3, V p4, .pv .nilsl, Ar 24 p5, Ar 24 p6, Ar 24 p7, Ar 24 p8], .dead, O x] :=
  Prg.okR (pe := fun x => 0) (outs := fun x => [mkVar (R 6), mkVar (H Int 10), .svar [V p3, V p4, .pv .nilsl, Ar 24 p5, Ar 24 p6, Ar 24 p7, Ar 24 p8], .dead, O x]) (by kernel_rfl) (by kernel_rfl) rfl h

noncomputable def f61v3.l1 (p1 : List Edge) (p2 : List Vertex) (p3 : List Edge) (p4 p5 : List Int) (p6 p7 : List (List Int)) (v14 : Int) (l15 : List Int) : Pg (Nx (Int × (List Int)) (Ex (List Int) Empty Empty)) :=
brr (decide (v14 < (L p1 : Int))) (
getR p1 v14 fun a16 =>
brr (a16.From == a16.To) (
cont ((IntKind.i64.wrap (v14 + 1)), l15)) (
clY yNo (r26_0v2.ok a16 (A2_Int.mk a16.From a16.To) p2 p3 p4 p5 p6 p7 l15) fun y17 =>
brr (!true) (
doneA (y17)) (
brr (!a16.Directed) (
clY yNo (r26_0v2.ok a16 (A2_Int.mk a16.To a16.From) p2 p3 p4 p5 p6 p7 y17) fun y18 =>
brr (!true) (
doneA (y18)) (
cont ((IntKind.i64.wrap (v14 + 1)), y18))) (
cont ((IntKind.i64.wrap (v14 + 1)), y17))))) (
doneA (l15))

noncomputable def f61v3 (p1 : List Edge) (p2 : List Vertex) (p3 : List Edge) (p4 p5 : List Int) (p6 p7 : List (List Int)) : Pg (List Int) :=
loop1 ((0 : Int), ([] : List Int)) (fun s19 => f61v3.l1 p1 p2 p3 p4 p5 p6 p7 s19.1 s19.2) (fun s19 => ([(0, .yl 0), (5, V p1), (6, V (L p1 : Int)), (7, V s19.1)], [(0, .lp [15, 16] (rfA Try.f26 0) (rfB Try.f26 0) 79 [1, 2] [R 4, R 6] [] 0), (2, B p1), (4, mkVar (R 8)), (6, mkVar (H Int 501)), (8, .svar [V p2, V p3, .pv .nilsl, Ar 24 p4, Ar 24 p5, Ar 24 p6, Ar 24 p7]), (501, O s19.2)])) .inl fun r20 =>
.ret r20

theorem f61v3.ok (p1 : List Edge) (p2 : List Vertex) (p3 : List Edge) (p4 p5 : List Int) (p6 p7 : List (List Int)) {x} (h : (f61v3 p1 p2 p3 p4 p5 p6 p7).run = some x) : Spec Try.prog 61 [.yl 0, R 2] [.lp [15, 16] (rfA Try.f26 0) (rfB Try.f26 0) 79 [1, 2] [R 4, R 6] [] 0, B p1, mkVar (R 8), mkVar (.pv .nilsl), .svar [V p2, V p3, .pv .nilsl, Ar 24 p4, Ar 24 p5, Ar 24 p6, Ar 24 p7]] (.tup []) [.lp [15, 16] (rfA Try.f26 0) (rfB Try.f26 0) 79 [1, 2] [R 4, R 6] [] 0, B p1, mkVar (R 8), mkVar (H Int 10), .svar [V p2, V p3, .pv .nilsl, Ar 24 p4, Ar 24 p5, Ar 24 p6, Ar 24 p7], O x] :=
  Prg.ok Try.func61 (res := fun x => .tup []) (outs := fun x => [.lp [15, 16] (rfA Try.f26 0) (rfB Try.f26 0) 79 [1, 2] [R 4, R 6] [] 0, B p1, mkVar (R 8), mkVar (H Int 10), .svar [V p2, V p3, .pv .nilsl, Ar 24 p4, Ar 24 p5, Ar 24 p6, Ar 24 p7], O x]) (by kernel_rfl) (by kernel_rfl) rfl h

noncomputable def f26.l1 (p1 : List Vertex) (p4 : List Int) (v12 : Int) (l13 : List Int) : Pg (Nx (Int × (List Int)) (Ex (List Int) Empty Empty)) :=
brr (decide (v12 < (L p1 : Int))) (
getR p1 v12 fun a14 =>
ck a14.ID 24 <|
rd p4 a14.ID.toNat fun a15 =>
brr (a15 == 0) (
ap l13 ([a14.ID] : List Int) fun l16 =>
cont ((IntKind.i64.wrap (v12 + 1)), l16)) (
cont ((IntKind.i64.wrap (v12 + 1)), l13))) (
doneA l13)

noncomputable def f26 (p1 : List Vertex) (p2 : List Edge) (p3 p4 : List Int) (p5 p6 : List (List Int)) : Pg (List Int) :=
cl (f27.ok p2) fun _ =>
rf0 [1, 2] (f61v3.ok p2 p1 p2 p3 p4 p5 p6) fun y8 =>
loop1 ((0 : Int), y8) (fun s17 => f26.l1 p1 p4 s17.1 s17.2) (fun s17 => ([(1, R 101), (2, R 103), (58, V p1), (59, V (L p1 : Int)), (60, V s17.1)], [(0, .svar [V p1, V p2, .pv .nilsl, Ar 24 p3, Ar 24 p4, Ar 24 p5, Ar 24 p6]), (101, mkVar (R 0)), (103, mkVar (H Int 105)), (105, O s17.2)])) (.cut (.ext 2) fun x18 => ([(2, R 101)], [(0, .svar [V p1, V p2, .pv .nilsl, Ar 24 p3, Ar 24 p4, Ar 24 p5, Ar 24 p6]), (101, mkVar (H Int 103)), (103, O x18)])) fun x18 =>
.ret (x18)

theorem f26.ok (p1 : List Vertex) (p2 : List Edge) (p3 p4 : List Int) (p5 p6 : List (List Int)) {x} (h : (f26 p1 p2 p3 p4 p5 p6).run = some x) : Spec Try.prog 26 [R 0] [.svar [V p1, V p2, .pv .nilsl, Ar 24 p3, Ar 24 p4, Ar 24 p5, Ar 24 p6]] (V x) [.svar [V p1, V p2, .pv .nilsl, Ar 24 p3, Ar 24 p4, Ar 24 p5, Ar 24 p6]] :=
  Prg.ok Try.func26 (res := fun x => V x) (outs := fun x => [.svar [V p1, V p2, .pv .nilsl, Ar 24 p3, Ar 24 p4, Ar 24 p5, Ar 24 p6]]) (by kernel_rfl) (by kernel_rfl) rfl h

noncomputable def f28.l1 (p2 : List Edge) (p3 : Int) (v10 : Int) (l11 : List Edge) : Pg (Nx (Int × (List Edge)) (Ex (List Edge) Empty Empty)) :=
brr (decide (v10 < (L p2 : Int))) (
getR p2 v10 fun a12 =>
join1 (.reg 4) (
brr (a12.From == p3) (
retA' true) (
retA' (a12.To == p3))) (.cut .nat fun x13 => ([(1, V p3), (4, H Edge 101), (6, R 103), (8, V p2), (9, V (L p2 : Int)), (10, V v10), (23, V x13)], [(101, O l11), (103, B a12)])) fun x13 =>
brr x13 (
ap l11 ([a12] : List Edge) fun l14 =>
cont ((IntKind.i64.wrap (v10 + 1)), l14)) (
cont ((IntKind.i64.wrap (v10 + 1)), l11))) (
doneA l11)

noncomputable def f28 (p1 : List Vertex) (p2 : List Edge) (p3 : Int) : Pg (List Edge) :=
loop1 ((0 : Int), ([] : List Edge)) (fun s15 => f28.l1 p2 p3 s15.1 s15.2) (fun s15 => ([(1, V p3), (4, H Edge 501), (8, V p2), (9, V (L p2 : Int)), (10, V s15.1)], [(501, O s15.2)])) (.cut (.ext 0) fun x16 => ([(4, H Edge 101)], [(101, O x16)])) fun x16 =>
.ret (x16)

theorem f28.ok (p1 : List Vertex) (p2 : List Edge) (p3 : Int) {x} (h : (f28 p1 p2 p3).run = some x) : Spec Try.prog 28 [.aggp [.sl (p1.map Cel.enc), .sl (p2.map Cel.enc), .nilsl], V p3] [] (V x) [] :=
  Prg.ok Try.func28 (res := fun x => V x) (outs := fun x => []) (by kernel_rfl) (by kernel_rfl) rfl h

noncomputable def r8_0v1 (p1 : Edge) (p2 : A2_Int) (p3 p4 : List Int) (p5 : Int) (p6 : List Vertex) (p7 : List Edge) (p8 p9 : List Int) (p10 p11 : List (List Int)) (p12 : List Int) : Pg (List Int) :=
ck p2.x0 24 <|
rd p8 p2.x0.toNat fun a13 =>
ck p2.x1 24 <|
rd p8 p2.x1.toNat fun a14 =>
brr (a13 != a14) (
.ret (p12)) (
join1 (.reg 24) (
brr (p2.x1 == p5) (
ck (2 : Int) (L p12) <|
rd p12 (at0 (2 : Int)) fun a15 =>
brr (decide (a15 < 0)) (
ck p2.x0 24 <|
rd p3 p2.x0.toNat fun a16 =>
ck p5 24 <|
rd p3 p5.toNat fun a17 =>
retA' (a16 == (IntKind.i64.wrap (a17 - 1)))) (
retA' false)) (
retA' false)) (.cut .nat fun x18 => ([(11, R 6), (16, R 8), (17, R 10), (18, R 101), (20, V p2.x0), (21, V p2.x1), (136, V x18)], [(0, .dead), (2, mkVar (R 12)), (4, BA 24 p3), (6, BA 24 p4), (8, B p5), (10, mkVar (H Int 14)), (12, .svar [V p6, V p7, .pv .nilsl, Ar 24 p8, Ar 24 p9, Ar 24 p10, Ar 24 p11]), (14, O p12), (101, B p1)])) fun x18 =>
join1 (.cond 136) (
brr x18 (
ck (2 : Int) (L p12) <|
st p12 (at0 (2 : Int)) (fun x19 => p1.ID) fun l20 =>
retA' l20) (
retA' p12)) (.cut .nat fun x21 => ([(11, R 6), (16, R 8), (17, R 10), (18, R 101), (20, V p2.x0), (21, V p2.x1)], [(0, .dead), (2, mkVar (R 12)), (4, BA 24 p3), (6, BA 24 p4), (8, B p5), (10, mkVar (H Int 14)), (12, .svar [V p6, V p7, .pv .nilsl, Ar 24 p8, Ar 24 p9, Ar 24 p10, Ar 24 p11]), (14, O x21), (101, B p1)])) fun x21 =>
brr (p2.x0 == p5) (
ck (4 : Int) (L x21) <|
rd x21 (at0 (4 : Int)) fun a22 =>
brr (decide (a22 < 0)) (
ck p2.x1 24 <|
rd p4 p2.x1.toNat fun a23 =>
ck p5 24 <|
rd p4 p5.toNat fun a24 =>
brr (a23 == (IntKind.i64.wrap (a24 - 1))) (
ck (4 : Int) (L x21) <|
st x21 (at0 (4 : Int)) (fun x25 => p1.ID) fun l26 =>
.ret (l26)) (
.ret (x21))) (
.ret (x21))) (
.ret (x21)))

theorem r8_0v1.ok (p1 : Edge) (p2 : A2_Int) (p3 p4 : List Int) (p5 : Int) (p6 : List Vertex) (p7 : List Edge) (p8 p9 : List Int) (p10 p11 : List (List Int)) (p12 : List Int) {x} (h : (r8_0v1 p1 p2 p3 p4 p5 p6 p7 p8 p9 p10 p11 p12).run = some x) : RSpec Try.prog (.yl 0 :: [V p1, V p2]) [.lp [99, 100] (rfA Try.f8 0) (rfB Try.f8 0) 172 [4, 10, 11, 16, 17] [R 2, R 4, R 6, R 8, R 10] [] 0, mkVar (R 12), BA 24 p3, BA 24 p4, B p5, mkVar (H Int 14), .svar [V p6, V p7, .pv .nilsl, Ar 24 p8, Ar 24 p9, Ar 24 p10, Ar 24 p11], O p12] (V true) [.lp [99, 100] (rfA Try.f8 0) (rfB Try.f8 0) 172 [4, 10, 11, 16, 17] [R 2, R 4, R 6, R 8, R 10] [] 0, mkVar (R 12), BA 24 p3, BA 24 p4, B p5, mkVar (H Int 14), .svar [V p6, V p7, .pv .nilsl, Ar 24 p8, Ar 24 p9, Ar 24 p10, Ar 24 p11], O x] :=
  Prg.okR (pe := fun x => 0) (outs := fun x => [mkVar (R 12), BA 24 p3, BA 24 p4, B p5, mkVar (H Int 14), .svar [V p6, V p7, .pv .nilsl, Ar 24 p8, Ar 24 p9, Ar 24 p10, Ar 24 p11], O x]) (by kernel_rfl) (by kernel_rfl) rfl h

noncomputable def f61v5.l1 (p1 : List Edge) (p2 p3 : List Int) (p4 : Int) (p5 : List Vertex) (p6 : List Edge) (p7 p8 : List Int) (p9 p10 : List (List Int)) (v15 : Int) (l16 : List Int) : Pg (Nx (Int × (List Int)) (Ex (List Int) Empty Empty)) :=
brr (decide (v15 < (L p1 : Int))) (
getR p1 v15 fun a17 =>
brr (a17.From == a17.To) (
cont ((IntKind.i64.wrap (v15 + 1)), l16)) (
clY yNo (r8_0v1.ok a17 (A2_Int.mk a17.From a17.To) p2 p3 p4 p5 p6 p7 p8 p9 p10 l16) fun y18 =>
brr (!true) (
doneA (y18)) (
brr (!a17.Directed) (
clY yNo (r8_0v1.ok a17 (A2_Int.mk a17.To a17.From) p2 p3 p4 p5 p6 p7 p8 p9 p10 y18) fun y19 =>
brr (!true) (
doneA (y19)) (
cont ((IntKind.i64.wrap (v15 + 1)), y19))) (
cont ((IntKind.i64.wrap (v15 + 1)), y18))))) (
doneA (l16))

noncomputable def f61v5 (p1 : List Edge) (p2 p3 : List Int) (p4 : Int) (p5 : List Vertex) (p6 : List Edge) (p7 p8 : List Int) (p9 p10 : List (List Int)) (p11 : List Int) : Pg (List Int) :=
loop1 ((0 : Int), p11) (fun s20 => f61v5.l1 p1 p2 p3 p4 p5 p6 p7 p8 p9 p10 s20.1 s20.2) (fun s20 => ([(0, .yl 0), (5, V p1), (6, V (L p1 : Int)), (7, V s20.1)], [(0, .lp [99, 100] (rfA Try.f8 0) (rfB Try.f8 0) 172 [4, 10, 11, 16, 17] [R 4, R 6, R 8, R 10, R 12] [] 0), (2, B p1), (4, mkVar (R 14)), (6, BA 24 p2), (8, BA 24 p3), (10, B p4), (12, mkVar (H Int 16)), (14, .svar [V p5, V p6, .pv .nilsl, Ar 24 p7, Ar 24 p8, Ar 24 p9, Ar 24 p10]), (16, O s20.2)])) .inl fun r21 =>
.ret r21

theorem f61v5.ok (p1 : List Edge) (p2 p3 : List Int) (p4 : Int) (p5 : List Vertex) (p6 : List Edge) (p7 p8 : List Int) (p9 p10 : List (List Int)) (p11 : List Int) {x} (h : (f61v5 p1 p2 p3 p4 p5 p6 p7 p8 p9 p10 p11).run = some x) : Spec Try.prog 61 [.yl 0, R 2] [.lp [99, 100] (rfA Try.f8 0) (rfB Try.f8 0) 172 [4, 10, 11, 16, 17] [R 4, R 6, R 8, R 10, R 12] [] 0, B p1, mkVar (R 14), BA 24 p2, BA 24 p3, B p4, mkVar (H Int 16), .svar [V p5, V p6, .pv .nilsl, Ar 24 p7, Ar 24 p8, Ar 24 p9, Ar 24 p10], O p11] (.tup []) [.lp [99, 100] (rfA Try.f8 0) (rfB Try.f8 0) 172 [4, 10, 11, 16, 17] [R 4, R 6, R 8, R 10, R 12] [] 0, B p1, mkVar (R 14), BA 24 p2, BA 24 p3, B p4, mkVar (H Int 16), .svar [V p5, V p6, .pv .nilsl, Ar 24 p7, Ar 24 p8, Ar 24 p9, Ar 24 p10], O x] :=
  Prg.ok Try.func61 (res := fun x => .tup []) (outs := fun x => [.lp [99, 100] (rfA Try.f8 0) (rfB Try.f8 0) 172 [4, 10, 11, 16, 17] [R 4, R 6, R 8, R 10, R 12] [] 0, B p1, mkVar (R 14), BA 24 p2, BA 24 p3, B p4, mkVar (H Int 16), .svar [V p5, V p6, .pv .nilsl, Ar 24 p7, Ar 24 p8, Ar 24 p9, Ar 24 p10], O x]) (by kernel_rfl) (by kernel_rfl) rfl h

noncomputable def f8.l2 (p1 : List Vertex) (p2 : List Edge) (y4 : (List Int) × (List Int) × (List (List Int)) × (List (List Int))) (y18 y19 y21 : List Int) (v42 : Int) (l43 : List Named) : Pg (Nx (Int × (List Named)) (Ex (List Named) Empty Empty)) :=
brr (decide (v42 < (L p1 : Int))) (
getR p1 v42 fun a44 =>
ck a44.ID 24 <|
rd y4.1 a44.ID.toNat fun a45 =>
ck a44.ID 24 <|
rd y18 a44.ID.toNat fun a46 =>
ck a44.ID 24 <|
rd y19 a44.ID.toNat fun a47 =>
ck a44.ID 24 <|
rd y4.2.1 a44.ID.toNat fun a48 =>
ck a44.ID 24 <|
rd y21 a44.ID.toNat fun a49 =>
cl (f28.ok p1 p2 a44.ID) fun y50 =>
cl (f27.ok y50) fun _ =>
rf0 [4, 10, 11, 16, 17] (f61v5.ok y50 y18 y19 a44.ID p1 p2 y4.1 y4.2.1 y4.2.2.1 y4.2.2.2 ([a45, a46, (-1), a47, (-1), a48, a49] : List Int)) fun y52 =>
ap l43 ([(Named.mk a44.ID y52)] : List Named) fun l53 =>
cont ((IntKind.i64.wrap (v42 + 1)), l53)) (
doneA l43)

noncomputable def f8.l1 (p1 : List Vertex) (y4 : (List Int) × (List Int) × (List (List Int)) × (List (List Int))) (v11 : Int) (l12 : List Int) : Pg (Nx (Int × (List Int)) (Ex (List Int) Empty Empty)) :=
brr (decide (v11 < (L p1 : Int))) (
getR p1 v11 fun a13 =>
ck a13.ID 24 <|
rd y4.1 a13.ID.toNat fun a14 =>
brr (a14 == a13.ID) (
ap l12 ([a13.ID] : List Int) fun l15 =>
cont ((IntKind.i64.wrap (v11 + 1)), l15)) (
cont ((IntKind.i64.wrap (v11 + 1)), l12))) (
doneA l12)

noncomputable def f8 (p1 : List Vertex) (p2 : List Edge) : Pg ((List Named) × Int) :=
cl (f21.ok p1 p2) fun y3 =>
brr (!y3) (
.ret ((([] : List Named), (90 : Int)))) (
cl (f22.ok p1 p2) fun y4 =>
loop1 ((0 : Int), ([] : List Int)) (fun s16 => f8.l1 p1 y4 s16.1 s16.2) (fun s16 => ([(1, R 101), (4, R 103), (5, H Int 501), (28, V p1), (29, V (L p1 : Int)), (30, V s16.1)], [(101, .varp [.sl (p1.map Cel.enc), .sl (p2.map Cel.enc), .nilsl]), (103, mkVar (R 105)), (105, .svar [V p1, V p2, .pv .nilsl, Ar 24 y4.1, Ar 24 y4.2.1, Ar 24 y4.2.2.1, Ar 24 y4.2.2.2]), (501, O s16.2)])) (.cut (.ext 0) fun x17 => ([(1, R 101), (4, R 103), (5, H Int 105)], [(101, .varp [.sl (p1.map Cel.enc), .sl (p2.map Cel.enc), .nilsl]), (103, mkVar (R 107)), (105, O x17), (107, .svar [V p1, V p2, .pv .nilsl, Ar 24 y4.1, Ar 24 y4.2.1, Ar 24 y4.2.2.1, Ar 24 y4.2.2.2])])) fun x17 =>
clK [0] (f25.ok x17 p1 p2 y4.1 y4.2.1 y4.2.2.1 y4.2.2.2) fun y18 =>
clK [0] (f25v1.ok x17 p1 p2 y4.1 y4.2.1 y4.2.2.1 y4.2.2.2) fun y19 =>
clK [0] (f26.ok p1 p2 y4.1 y4.2.1 y4.2.2.1 y4.2.2.2) fun y20 =>
clK [0] (f25.ok y20 p1 p2 y4.1 y4.2.1 y4.2.2.1 y4.2.2.2) fun y21 =>
loop1 ((0 : Int), ([] : List Named)) (fun s54 => f8.l2 p1 p2 y4 y18 y19 y21 s54.1 s54.2) (fun s54 => ([(1, R 101), (4, R 103), (10, R 105), (11, R 107), (12, R 109), (13, H Named 501), (65, V p1), (66, V (L p1 : Int)), (67, V s54.1)], [(101, .varp [.sl (p1.map Cel.enc), .sl (p2.map Cel.enc), .nilsl]), (103, mkVar (R 111)), (105, BA 24 y18), (107, BA 24 y19), (109, BA 24 y21), (111, .svar [V p1, V p2, .pv .nilsl, Ar 24 y4.1, Ar 24 y4.2.1, Ar 24 y4.2.2.1, Ar 24 y4.2.2.2]), (501, O s54.2)])) (.cut (.ext 2) fun x55 => ([(13, H Named 101)], [(101, O x55)])) fun x55 =>
.ret ((x55, (0 : Int))))

theorem f8.ok (p1 : List Vertex) (p2 : List Edge) {x} (h : (f8 p1 p2).run = some x) : Spec Try.prog 8 [.aggp [.sl (p1.map Cel.enc), .sl (p2.map Cel.enc), .nilsl]] [] (.tup [V x.1, V x.2]) [] :=
  Prg.ok Try.func8 (res := fun x => .tup [V x.1, V x.2]) (outs := fun x => []) (by kernel_rfl) (by kernel_rfl) rfl h

noncomputable def f36.l1 (p1 : List Int) (v3 : Int) : Pg (Nx Int (Ex (Int) Unit Empty)) :=
brr (decide (v3 < (L p1 : Int))) (
getR p1 v3 fun a4 =>
brr (a4 != 0) (
doneA (a4)) (
cont (IntKind.i64.wrap (v3 + 1)))) (
doneB ())

noncomputable def f36 (p1 : List Int) : Pg Int :=
loop2 (0 : Int) (fun s5 => f36.l1 p1 s5) (fun s5 => ([(3, V (0 : Int)), (6, V p1), (7, V (L p1 : Int)), (8, V s5)], [])) .inl (fun r6 =>
.ret r6) (.cut (.ext 0) fun _ => ([(3, V (0 : Int))], [])) fun _ =>
.ret ((0 : Int))

theorem f36.ok (p1 : List Int) {x} (h : (f36 p1).run = some x) : Spec Try.prog 36 [V p1] [] (V x) [] :=
  Prg.ok Try.func36 (res := fun x => V x) (outs := fun x => []) (by kernel_rfl) (by kernel_rfl) rfl h

noncomputable def f35 (p1 p2 : Named) : Pg Int :=
getR p1.Label (5 : Int) fun a3 =>
getR p2.Label (5 : Int) fun a4 =>
cl (f37.ok a3 a4) fun y5 =>
getR p1.Label (0 : Int) fun a6 =>
getR p2.Label (0 : Int) fun a7 =>
cl (f37.ok a6 a7) fun y8 =>
cl (f36.ok ([y5, y8] : List Int)) fun y9 =>
.ret (y9)

theorem f35.ok (p1 p2 : Named) {x} (h : (f35 p1 p2).run = some x) : Spec Try.prog 35 [V p1, V p2] [] (V x) [] :=
  Prg.ok Try.func35 (res := fun x => V x) (outs := fun x => []) (by kernel_rfl) (by kernel_rfl) rfl h

noncomputable def f8v1.l2 (p1 : List Vertex) (p2 : List Edge) (y4 : (List Int) × (List Int) × (List (List Int)) × (List (List Int))) (y18 y19 y21 : List Int) (v42 : Int) (l43 : List Named) : Pg (Nx (Int × (List Named)) (Ex (List Named) Empty Empty)) :=
brr (decide (v42 < (L p1 : Int))) (
getR p1 v42 fun a44 =>
ck a44.ID 24 <|
rd y4.1 a44.ID.toNat fun a45 =>
ck a44.ID 24 <|
rd y18 a44.ID.toNat fun a46 =>
ck a44.ID 24 <|
rd y19 a44.ID.toNat fun a47 =>
ck a44.ID 24 <|
rd y4.2.1 a44.ID.toNat fun a48 =>
ck a44.ID 24 <|
rd y21 a44.ID.toNat fun a49 =>
cl (f28.ok p1 p2 a44.ID) fun y50 =>
cl (f27.ok y50) fun _ =>
rf0 [4, 10, 11, 16, 17] (f61v5.ok y50 y18 y19 a44.ID p1 p2 y4.1 y4.2.1 y4.2.2.1 y4.2.2.2 ([a45, a46, (-1), a47, (-1), a48, a49] : List Int)) fun y52 =>
ap l43 ([(Named.mk a44.ID y52)] : List Named) fun l53 =>
cont ((IntKind.i64.wrap (v42 + 1)), l53)) (
doneA l43)

noncomputable def f8v1.l1 (p1 : List Vertex) (y4 : (List Int) × (List Int) × (List (List Int)) × (List (List Int))) (v11 : Int) (l12 : List Int) : Pg (Nx (Int × (List Int)) (Ex (List Int) Empty Empty)) :=
brr (decide (v11 < (L p1 : Int))) (
getR p1 v11 fun a13 =>
ck a13.ID 24 <|
rd y4.1 a13.ID.toNat fun a14 =>
brr (a14 == a13.ID) (
ap l12 ([a13.ID] : List Int) fun l15 =>
cont ((IntKind.i64.wrap (v11 + 1)), l15)) (
cont ((IntKind.i64.wrap (v11 + 1)), l12))) (
doneA l12)

noncomputable def f8v1 (p1 : List Vertex) (p2 : List Edge) : Pg (Int × (List Named)) :=
cl (f21.ok p1 p2) fun y3 =>
brr (!y3) (
nilA 2 2 <|
.ret (((90 : Int), ([] : List Named)))) (
cl (f22.ok p1 p2) fun y4 =>
loop1 ((0 : Int), ([] : List Int)) (fun s16 => f8v1.l1 p1 y4 s16.1 s16.2) (fun s16 => ([(1, R 101), (4, R 103), (5, H Int 501), (28, V p1), (29, V (L p1 : Int)), (30, V s16.1)], [(101, .varp [.sl (p1.map Cel.enc), .sl (p2.map Cel.enc), .nilsl]), (103, mkVar (R 105)), (105, .svar [V p1, V p2, .pv .nilsl, Ar 24 y4.1, Ar 24 y4.2.1, Ar 24 y4.2.2.1, Ar 24 y4.2.2.2]), (501, O s16.2)])) (.cut (.ext 0) fun x17 => ([(1, R 101), (4, R 103), (5, H Int 105)], [(101, .varp [.sl (p1.map Cel.enc), .sl (p2.map Cel.enc), .nilsl]), (103, mkVar (R 107)), (105, O x17), (107, .svar [V p1, V p2, .pv .nilsl, Ar 24 y4.1, Ar 24 y4.2.1, Ar 24 y4.2.2.1, Ar 24 y4.2.2.2])])) fun x17 =>
clK [0] (f25.ok x17 p1 p2 y4.1 y4.2.1 y4.2.2.1 y4.2.2.2) fun y18 =>
clK [0] (f25v1.ok x17 p1 p2 y4.1 y4.2.1 y4.2.2.1 y4.2.2.2) fun y19 =>
clK [0] (f26.ok p1 p2 y4.1 y4.2.1 y4.2.2.1 y4.2.2.2) fun y20 =>
clK [0] (f25.ok y20 p1 p2 y4.1 y4.2.1 y4.2.2.1 y4.2.2.2) fun y21 =>
loop1 ((0 : Int), ([] : List Named)) (fun s54 => f8v1.l2 p1 p2 y4 y18 y19 y21 s54.1 s54.2) (fun s54 => ([(1, R 101), (4, R 103), (10, R 105), (11, R 107), (12, R 109), (13, H Named 501), (65, V p1), (66, V (L p1 : Int)), (67, V s54.1)], [(101, .varp [.sl (p1.map Cel.enc), .sl (p2.map Cel.enc), .nilsl]), (103, mkVar (R 111)), (105, BA 24 y18), (107, BA 24 y19), (109, BA 24 y21), (111, .svar [V p1, V p2, .pv .nilsl, Ar 24 y4.1, Ar 24 y4.2.1, Ar 24 y4.2.2.1, Ar 24 y4.2.2.2]), (501, O s54.2)])) (.cut (.ext 2) fun x55 => ([(13, H Named 101)], [(101, O x55)])) fun x55 =>
.ret (((0 : Int), x55)))

theorem f8v1.ok (p1 : List Vertex) (p2 : List Edge) {x} (h : (f8v1 p1 p2).run = some x) : Spec Try.prog 8 [.aggp [.sl (p1.map Cel.enc), .sl (p2.map Cel.enc), .nilsl]] [] (.tup [H Named 0, V x.1]) [O x.2] :=
  Prg.ok Try.func8 (res := fun x => .tup [H Named 0, V x.1]) (outs := fun x => [O x.2]) (by kernel_rfl) (by kernel_rfl) rfl h

noncomputable def f81v1.l1 (p1 p2 v28 : Int) (v40 : Int) (l41 : List Named) : Pg (Nx (Int × (List Named)) (Ex (List Named) Empty Empty)) :=
join1 (.reg 4) (
brr (decide (v40 > p1)) (
ck v40 (L l41) <|
rd l41 (at0 v40) fun a42 =>
ck (IntKind.i64.wrap (v40 - 1)) (L l41) <|
rd l41 (at0 (IntKind.i64.wrap (v40 - 1))) fun a43 =>
cl (f35.ok a42 a43) fun y44 =>
retA' (decide (y44 < 0))) (
retA' false)) (.cut .nat fun x45 => ([(0, H Named 0), (1, V p1), (2, V p2), (3, .clo 35 []), (8, V v28), (9, V v40), (34, V x45)], [(0, O l41)])) fun x45 =>
brr x45 (
ck (IntKind.i64.wrap (v40 - 1)) (L l41) <|
rd l41 (at0 (IntKind.i64.wrap (v40 - 1))) fun a46 =>
ck v40 (L l41) <|
rd l41 (at0 v40) fun a47 =>
ck v40 (L l41) <|
st l41 (at0 v40) (fun x48 => a46) fun l49 =>
ck (IntKind.i64.wrap (v40 - 1)) (L l49) <|
st l49 (at0 (IntKind.i64.wrap (v40 - 1))) (fun x50 => a47) fun l51 =>
cont ((IntKind.i64.wrap (v40 - 1)), l51)) (
doneA l41)

noncomputable def f81v1.l2 (p1 p2 : Int) (v28 : Int) (l29 : List Named) : Pg (Nx (Int × (List Named)) (Ex (List Named) Empty Empty)) :=
brr (decide (v28 < p2)) (
loop1 (v28, l29) (fun s52 => f81v1.l1 p1 p2 v28 s52.1 s52.2) (fun s52 => ([(0, H Named 0), (1, V p1), (2, V p2), (3, .clo 35 []), (8, V v28), (9, V s52.1)], [(0, O s52.2)])) (.cut (.ext 2) fun x53 => ([(0, H Named 0), (1, V p1), (2, V p2), (3, .clo 35 []), (8, V v28)], [(0, O x53)])) fun x53 =>
cont ((IntKind.i64.wrap (v28 + 1)), x53)) (
doneA (l29))

noncomputable def f81v1 (p1 p2 : Int) (p3 : List Named) : Pg (List Named) :=
loop1 ((IntKind.i64.wrap (p1 + 1)), p3) (fun s54 => f81v1.l2 p1 p2 s54.1 s54.2) (fun s54 => ([(0, H Named 0), (1, V p1), (2, V p2), (3, .clo 35 []), (8, V s54.1)], [(0, O s54.2)])) .inl fun r55 =>
.ret r55

theorem f81v1.ok (p1 p2 : Int) (p3 : List Named) {x} (h : (f81v1 p1 p2 p3).run = some x) : Spec Try.prog 81 [H Named 0, V p1, V p2, .clo 35 []] [O p3] (.tup []) [O x] :=
  Prg.ok Try.func81 (res := fun x => .tup []) (outs := fun x => [O x]) (by kernel_rfl) (by kernel_rfl) rfl h

noncomputable def f100.l1 (p1 p2 p3 : Int) (v11 : Int) (l12 : List Named) : Pg (Nx (Int × (List Named)) (Ex (List Named) Empty Empty)) :=
brr (decide (v11 < p3)) (
ck (IntKind.i64.wrap (p2 + v11)) (L l12) <|
rd l12 (at0 (IntKind.i64.wrap (p2 + v11))) fun a13 =>
ck (IntKind.i64.wrap (p1 + v11)) (L l12) <|
rd l12 (at0 (IntKind.i64.wrap (p1 + v11))) fun a14 =>
ck (IntKind.i64.wrap (p1 + v11)) (L l12) <|
st l12 (at0 (IntKind.i64.wrap (p1 + v11))) (fun x15 => a13) fun l16 =>
ck (IntKind.i64.wrap (p2 + v11)) (L l16) <|
st l16 (at0 (IntKind.i64.wrap (p2 + v11))) (fun x17 => a14) fun l18 =>
cont ((IntKind.i64.wrap (v11 + 1)), l18)) (
doneA (l12))

noncomputable def f100 (p1 p2 p3 : Int) (p4 : List Named) : Pg (List Named) :=
loop1 ((0 : Int), p4) (fun s19 => f100.l1 p1 p2 p3 s19.1 s19.2) (fun s19 => ([(0, H Named 0), (1, V p1), (2, V p2), (3, V p3), (10, V s19.1)], [(0, O s19.2)])) .inl fun r20 =>
.ret r20

theorem f100.ok (p1 p2 p3 : Int) (p4 : List Named) {x} (h : (f100 p1 p2 p3 p4).run = some x) : Spec Try.prog 100 [H Named 0, V p1, V p2, V p3, .clo 35 []] [O p4] (.tup []) [O x] :=
  Prg.ok Try.func100 (res := fun x => .tup []) (outs := fun x => [O x]) (by kernel_rfl) (by kernel_rfl) rfl h

noncomputable def f100v1.l1 (p1 p2 p3 : Int) (v11 : Int) (l12 : List Named) : Pg (Nx (Int × (List Named)) (Ex (List Named) Empty Empty)) :=
brr (decide (v11 < p3)) (
ck (IntKind.i64.wrap (p2 + v11)) (L l12) <|
rd l12 (at0 (IntKind.i64.wrap (p2 + v11))) fun a13 =>
ck (IntKind.i64.wrap (p1 + v11)) (L l12) <|
rd l12 (at0 (IntKind.i64.wrap (p1 + v11))) fun a14 =>
ck (IntKind.i64.wrap (p1 + v11)) (L l12) <|
st l12 (at0 (IntKind.i64.wrap (p1 + v11))) (fun x15 => a13) fun l16 =>
ck (IntKind.i64.wrap (p2 + v11)) (L l16) <|
st l16 (at0 (IntKind.i64.wrap (p2 + v11))) (fun x17 => a14) fun l18 =>
cont ((IntKind.i64.wrap (v11 + 1)), l18)) (
doneA (l12))

noncomputable def f100v1 (p1 p2 p3 : Int) (p4 : List Named) : Pg (List Named) :=
loop1 ((0 : Int), p4) (fun s19 => f100v1.l1 p1 p2 p3 s19.1 s19.2) (fun s19 => ([(0, H Named 0), (1, V p1), (2, V p2), (3, V p3), (10, V s19.1)], [(0, O s19.2)])) .inl fun r20 =>
.ret r20

theorem f100v1.ok (p1 p2 p3 : Int) (p4 : List Named) {x} (h : (f100v1 p1 p2 p3 p4).run = some x) : Spec Try.prog 100 [H Named 0, V p1, V p2, V p3, .clo 35 []] [O p4] (.tup []) [O x] :=
  Prg.ok Try.func100 (res := fun x => .tup []) (outs := fun x => [O x]) (by kernel_rfl) (by kernel_rfl) rfl h

noncomputable def f88.l1 (p2 : Int) (v8 v9 : Int) (l10 : List Named) : Pg (Nx (Int × Int × (List Named)) (Ex (Int × (List Named)) Empty Empty)) :=
brr (v8 != v9) (
brr (decide (v8 > v9)) (
cl (f100.ok (IntKind.i64.wrap (p2 - v8)) p2 v9 l10) fun y11 =>
cont ((IntKind.i64.wrap (v8 - v9)), v9, y11)) (
cl (f100v1.ok (IntKind.i64.wrap (p2 - v8)) (IntKind.i64.wrap ((IntKind.i64.wrap (p2 + v9)) - v8)) v8 l10) fun y12 =>
cont (v8, (IntKind.i64.wrap (v9 - v8)), y12))) (
doneA (v8, l10))

noncomputable def f88 (p1 p2 p3 : Int) (p4 : List Named) : Pg (List Named) :=
loop1 ((IntKind.i64.wrap (p2 - p1)), (IntKind.i64.wrap (p3 - p2)), p4) (fun s13 => f88.l1 p2 s13.1 s13.2.1 s13.2.2) (fun s13 => ([(0, H Named 0), (2, V p2), (4, .clo 35 []), (10, V s13.1), (11, V s13.2.1)], [(0, O s13.2.2)])) (.cut (.ext 0) fun x14 => ([(0, H Named 0), (2, V p2), (4, .clo 35 []), (10, V x14.1)], [(0, O x14.2)])) fun x14 =>
cl (f100v1.ok (IntKind.i64.wrap (p2 - x14.1)) p2 x14.1 x14.2) fun y15 =>
.ret (y15)

theorem f88.ok (p1 p2 p3 : Int) (p4 : List Named) {x} (h : (f88 p1 p2 p3 p4).run = some x) : Spec Try.prog 88 [H Named 0, V p1, V p2, V p3, .clo 35 []] [O p4] (.tup []) [O x] :=
  Prg.ok Try.func88 (res := fun x => .tup []) (outs := fun x => [O x]) (by kernel_rfl) (by kernel_rfl) rfl h

noncomputable def f100v2.l1 (p1 p2 p3 : Int) (v11 : Int) (l12 : List Named) : Pg (Nx (Int × (List Named)) (Ex (List Named) Empty Empty)) :=
brr (decide (v11 < p3)) (
ck (IntKind.i64.wrap (p2 + v11)) (L l12) <|
rd l12 (at0 (IntKind.i64.wrap (p2 + v11))) fun a13 =>
ck (IntKind.i64.wrap (p1 + v11)) (L l12) <|
rd l12 (at0 (IntKind.i64.wrap (p1 + v11))) fun a14 =>
ck (IntKind.i64.wrap (p1 + v11)) (L l12) <|
st l12 (at0 (IntKind.i64.wrap (p1 + v11))) (fun x15 => a13) fun l16 =>
ck (IntKind.i64.wrap (p2 + v11)) (L l16) <|
st l16 (at0 (IntKind.i64.wrap (p2 + v11))) (fun x17 => a14) fun l18 =>
cont ((IntKind.i64.wrap (v11 + 1)), l18)) (
doneA (l12))

noncomputable def f100v2 (p1 p2 p3 : Int) (p4 : List Named) : Pg (List Named) :=
loop1 ((0 : Int), p4) (fun s19 => f100v2.l1 p1 p2 p3 s19.1 s19.2) (fun s19 => ([(0, H Named 0), (1, V p1), (2, V p2), (3, V p3), (10, V s19.1)], [(0, O s19.2)])) .inl fun r20 =>
.ret r20

theorem f100v2.ok (p1 p2 p3 : Int) (p4 : List Named) {x} (h : (f100v2 p1 p2 p3 p4).run = some x) : Spec Try.prog 100 [H Named 0, V p1, V p2, V p3, .clo 35 []] [O p4] (.tup []) [O x] :=
  Prg.ok Try.func100 (res := fun x => .tup []) (outs := fun x => [O x]) (by kernel_rfl) (by kernel_rfl) rfl h

noncomputable def f88v1.l1 (p2 : Int) (v8 v9 : Int) (l10 : List Named) : Pg (Nx (Int × Int × (List Named)) (Ex (Int × (List Named)) Empty Empty)) :=
brr (v8 != v9) (
brr (decide (v8 > v9)) (
cl (f100v2.ok (IntKind.i64.wrap (p2 - v8)) p2 v9 l10) fun y11 =>
cont ((IntKind.i64.wrap (v8 - v9)), v9, y11)) (
cl (f100v2.ok (IntKind.i64.wrap (p2 - v8)) (IntKind.i64.wrap ((IntKind.i64.wrap (p2 + v9)) - v8)) v8 l10) fun y12 =>
cont (v8, (IntKind.i64.wrap (v9 - v8)), y12))) (
doneA (v8, l10))

noncomputable def f88v1 (p1 p2 p3 : Int) (p4 : List Named) : Pg (List Named) :=
loop1 ((IntKind.i64.wrap (p2 - p1)), (IntKind.i64.wrap (p3 - p2)), p4) (fun s13 => f88v1.l1 p2 s13.1 s13.2.1 s13.2.2) (fun s13 => ([(0, H Named 0), (2, V p2), (4, .clo 35 []), (10, V s13.1), (11, V s13.2.1)], [(0, O s13.2.2)])) (.cut (.ext 0) fun x14 => ([(0, H Named 0), (2, V p2), (4, .clo 35 []), (10, V x14.1)], [(0, O x14.2)])) fun x14 =>
cl (f100v2.ok (IntKind.i64.wrap (p2 - x14.1)) p2 x14.1 x14.2) fun y15 =>
.ret (y15)

theorem f88v1.ok (p1 p2 p3 : Int) (p4 : List Named) {x} (h : (f88v1 p1 p2 p3 p4).run = some x) : Spec Try.prog 88 [H Named 0, V p1, V p2, V p3, .clo 35 []] [O p4] (.tup []) [O x] :=
  Prg.ok Try.func88 (res := fun x => .tup []) (outs := fun x => [O x]) (by kernel_rfl) (by kernel_rfl) rfl h

noncomputable def f82v2.l2 (self : Int → Int → Int → (List Named) → Option (List Named)) (hself : ∀ (p1 p2 p3 : Int) (p4 : List Named) {x : List Named}, self p1 p2 p3 p4 = some x → Spec Try.prog 82 [H Named 0, V p1, V p2, V p3, .clo 35 []] [O p4] (.tup []) [O x]) (x16 : Int) (v23 : Int) (l24 : List Named) : Pg (Nx (Int × (List Named)) (Ex (List Named) Empty Empty)) :=
brr (decide (v23 < (IntKind.i64.wrap (x16 - 1)))) (
ck (IntKind.i64.wrap (v23 + 1)) (L l24) <|
rd l24 (at0 (IntKind.i64.wrap (v23 + 1))) fun a25 =>
ck v23 (L l24) <|
rd l24 (at0 v23) fun a26 =>
ck v23 (L l24) <|
st l24 (at0 v23) (fun x27 => a25) fun l28 =>
ck (IntKind.i64.wrap (v23 + 1)) (L l28) <|
st l28 (at0 (IntKind.i64.wrap (v23 + 1))) (fun x29 => a26) fun l30 =>
cont ((IntKind.i64.wrap (v23 + 1)), l30)) (
doneA (l24))

noncomputable def f82v2.l1 (self : Int → Int → Int → (List Named) → Option (List Named)) (hself : ∀ (p1 p2 p3 : Int) (p4 : List Named) {x : List Named}, self p1 p2 p3 p4 = some x → Spec Try.prog 82 [H Named 0, V p1, V p2, V p3, .clo 35 []] [O p4] (.tup []) [O x]) (p1 : Int) (p4 : List Named) (v9 v10 : Int) : Pg (Nx (Int × Int) (Ex Int Empty Empty)) :=
brr (decide (v9 < v10)) (
let e11 : Int := (IntKind.i64.wrap ((IntKind.u64.wrap (IntKind.i64.wrap (v9 + v10))).fdiv (2 ^ (min (1 : Int).toNat IntKind.u64.bits))))
ck e11 (L p4) <|
rd p4 (at0 e11) fun a12 =>
ck p1 (L p4) <|
rd p4 (at0 p1) fun a13 =>
cl (f35.ok a12 a13) fun y14 =>
brr (decide (y14 < 0)) (
cont ((IntKind.i64.wrap (e11 + 1)), v10)) (
cont (v9, e11))) (
doneA v9)

noncomputable def f82v2.l4 (self : Int → Int → Int → (List Named) → Option (List Named)) (hself : ∀ (p1 p2 p3 : Int) (p4 : List Named) {x : List Named}, self p1 p2 p3 p4 = some x → Spec Try.prog 82 [H Named 0, V p1, V p2, V p3, .clo 35 []] [O p4] (.tup []) [O x]) (x44 : Int) (v51 : Int) (l52 : List Named) : Pg (Nx (Int × (List Named)) (Ex (List Named) Empty Empty)) :=
brr (decide (v51 > x44)) (
ck (IntKind.i64.wrap (v51 - 1)) (L l52) <|
rd l52 (at0 (IntKind.i64.wrap (v51 - 1))) fun a53 =>
ck v51 (L l52) <|
rd l52 (at0 v51) fun a54 =>
ck v51 (L l52) <|
st l52 (at0 v51) (fun x55 => a53) fun l56 =>
ck (IntKind.i64.wrap (v51 - 1)) (L l56) <|
st l56 (at0 (IntKind.i64.wrap (v51 - 1))) (fun x57 => a54) fun l58 =>
cont ((IntKind.i64.wrap (v51 - 1)), l58)) (
doneA (l52))

noncomputable def f82v2.l3 (self : Int → Int → Int → (List Named) → Option (List Named)) (hself : ∀ (p1 p2 p3 : Int) (p4 : List Named) {x : List Named}, self p1 p2 p3 p4 = some x → Spec Try.prog 82 [H Named 0, V p1, V p2, V p3, .clo 35 []] [O p4] (.tup []) [O x]) (p2 : Int) (p4 : List Named) (v37 v38 : Int) : Pg (Nx (Int × Int) (Ex Int Empty Empty)) :=
brr (decide (v37 < v38)) (
let e39 : Int := ((IntKind.u64.wrap (IntKind.i64.wrap (v37 + v38))).fdiv (2 ^ (min (1 : Int).toNat IntKind.u64.bits)))
ck p2 (L p4) <|
rd p4 (at0 p2) fun a40 =>
ck (IntKind.i64.wrap e39) (L p4) <|
rd p4 (at0 (IntKind.i64.wrap e39)) fun a41 =>
cl (f35.ok a40 a41) fun y42 =>
brr (!(decide (y42 < 0))) (
cont ((IntKind.i64.wrap ((IntKind.i64.wrap e39) + 1)), v38)) (
cont (v37, (IntKind.i64.wrap e39)))) (
doneA v37)

noncomputable def f82v2.l5 (self : Int → Int → Int → (List Named) → Option (List Named)) (hself : ∀ (p1 p2 p3 : Int) (p4 : List Named) {x : List Named}, self p1 p2 p3 p4 = some x → Spec Try.prog 82 [H Named 0, V p1, V p2, V p3, .clo 35 []] [O p4] (.tup []) [O x]) (p2 : Int) (p4 : List Named) (e61 : Int) (v67 v68 : Int) : Pg (Nx (Int × Int) (Ex Int Empty Empty)) :=
brr (decide (v67 < v68)) (
let e69 : Int := ((IntKind.u64.wrap (IntKind.i64.wrap (v67 + v68))).fdiv (2 ^ (min (1 : Int).toNat IntKind.u64.bits)))
ck (IntKind.i64.wrap ((IntKind.i64.wrap ((IntKind.i64.wrap (e61 + p2)) - 1)) - (IntKind.i64.wrap e69))) (L p4) <|
rd p4 (at0 (IntKind.i64.wrap ((IntKind.i64.wrap ((IntKind.i64.wrap (e61 + p2)) - 1)) - (IntKind.i64.wrap e69)))) fun a70 =>
ck (IntKind.i64.wrap e69) (L p4) <|
rd p4 (at0 (IntKind.i64.wrap e69)) fun a71 =>
cl (f35.ok a70 a71) fun y72 =>
brr (!(decide (y72 < 0))) (
cont ((IntKind.i64.wrap ((IntKind.i64.wrap e69) + 1)), v68)) (
cont (v67, (IntKind.i64.wrap e69)))) (
doneA v67)

noncomputable def f82v2.body (self : Int → Int → Int → (List Named) → Option (List Named)) (hself : ∀ (p1 p2 p3 : Int) (p4 : List Named) {x : List Named}, self p1 p2 p3 p4 = some x → Spec Try.prog 82 [H Named 0, V p1, V p2, V p3, .clo 35 []] [O p4] (.tup []) [O x]) (p1 p2 p3 : Int) (p4 : List Named) : Pg (List Named) :=
brr ((IntKind.i64.wrap (p2 - p1)) == 1) (
loop1 (p2, p3) (fun s15 => f82v2.l1 self hself p1 p4 s15.1 s15.2) (fun s15 => ([(0, H Named 0), (1, V p1), (4, .clo 35 []), (10, V s15.1), (11, V s15.2)], [(0, O p4)])) (.cut (.ext 0) fun x16 => ([(0, H Named 0), (1, V p1), (10, V x16)], [(0, O p4)])) fun x16 =>
loop1 (p1, p4) (fun s31 => f82v2.l2 self hself x16 s31.1 s31.2) (fun s31 => ([(0, H Named 0), (10, V x16), (13, V s31.1)], [(0, O s31.2)])) .inl fun r32 =>
.ret r32) (
brr ((IntKind.i64.wrap (p3 - p2)) == 1) (
loop1 (p1, p2) (fun s43 => f82v2.l3 self hself p2 p4 s43.1 s43.2) (fun s43 => ([(0, H Named 0), (2, V p2), (4, .clo 35 []), (14, V s43.1), (15, V s43.2)], [(0, O p4)])) (.cut (.ext 4) fun x44 => ([(0, H Named 0), (2, V p2), (14, V x44)], [(0, O p4)])) fun x44 =>
loop1 (p2, p4) (fun s59 => f82v2.l4 self hself x44 s59.1 s59.2) (fun s59 => ([(0, H Named 0), (14, V x44), (17, V s59.1)], [(0, O s59.2)])) .inl fun r60 =>
.ret r60) (
let e61 : Int := (IntKind.i64.wrap ((IntKind.u64.wrap (IntKind.i64.wrap (p1 + p3))).fdiv (2 ^ (min (1 : Int).toNat IntKind.u64.bits))))
join1 (.cond 140) (
brr (decide (p2 > e61)) (
retA' ((IntKind.i64.wrap ((IntKind.i64.wrap (e61 + p2)) - p3)), e61)) (
retA' (p1, p2))) (.cut .nat fun x62 => ([(0, H Named 0), (1, V p1), (2, V p2), (3, V p3), (4, .clo 35 []), (18, V e61), (19, V (IntKind.i64.wrap (e61 + p2))), (20, V x62.1), (21, V x62.2)], [(0, O p4)])) fun x62 =>
loop1 (x62.1, x62.2) (fun s73 => f82v2.l5 self hself p2 p4 e61 s73.1 s73.2) (fun s73 => ([(0, H Named 0), (1, V p1), (2, V p2), (3, V p3), (4, .clo 35 []), (18, V e61), (19, V (IntKind.i64.wrap (e61 + p2))), (20, V s73.1), (21, V s73.2), (22, V (IntKind.i64.wrap ((IntKind.i64.wrap (e61 + p2)) - 1)))], [(0, O p4)])) (.cut (.ext 8) fun x74 => ([(0, H Named 0), (1, V p1), (2, V p2), (3, V p3), (4, .clo 35 []), (18, V e61), (19, V (IntKind.i64.wrap (e61 + p2))), (20, V x74)], [(0, O p4)])) fun x74 =>
join1 (.cond 185) (
brr ((decide (x74 < p2)) && (decide (p2 < (IntKind.i64.wrap ((IntKind.i64.wrap (e61 + p2)) - x74))))) (
cl (f88v1.ok x74 p2 (IntKind.i64.wrap ((IntKind.i64.wrap (e61 + p2)) - x74)) p4) fun y75 =>
retA' y75) (
retA' p4)) (.cut .nat fun x76 => ([(0, H Named 0), (1, V p1), (3, V p3), (4, .clo 35 []), (18, V e61), (20, V x74), (24, V (IntKind.i64.wrap ((IntKind.i64.wrap (e61 + p2)) - x74)))], [(0, O x76)])) fun x76 =>
join1 (.cond 199) (
brr ((decide (p1 < x74)) && (decide (x74 < e61))) (
cls (hself p1 x74 e61 x76) fun y77 =>
retA' y77) (
retA' x76)) (.cut .nat fun x78 => ([(0, H Named 0), (3, V p3), (4, .clo 35 []), (18, V e61), (24, V (IntKind.i64.wrap ((IntKind.i64.wrap (e61 + p2)) - x74)))], [(0, O x78)])) fun x78 =>
brr ((decide (e61 < (IntKind.i64.wrap ((IntKind.i64.wrap (e61 + p2)) - x74)))) && (decide ((IntKind.i64.wrap ((IntKind.i64.wrap (e61 + p2)) - x74)) < p3))) (
cls (hself e61 (IntKind.i64.wrap ((IntKind.i64.wrap (e61 + p2)) - x74)) p3 x78) fun y79 =>
.ret (y79)) (
.ret (x78))))

theorem f82v2.body.ok (self : Int → Int → Int → (List Named) → Option (List Named)) (hself : ∀ (p1 p2 p3 : Int) (p4 : List Named) {x : List Named}, self p1 p2 p3 p4 = some x → Spec Try.prog 82 [H Named 0, V p1, V p2, V p3, .clo 35 []] [O p4] (.tup []) [O x]) (p1 p2 p3 : Int) (p4 : List Named) {x} (h : (f82v2.body self hself p1 p2 p3 p4).run = some x) : Spec Try.prog 82 [H Named 0, V p1, V p2, V p3, .clo 35 []] [O p4] (.tup []) [O x] :=
  Prg.ok Try.func82 (res := fun x => .tup []) (outs := fun x => [O x]) (by kernel_rfl) (by kernel_rfl) rfl h

noncomputable def f82v2.fuel : Nat → {self : Int → Int → Int → (List Named) → Option (List Named) // ∀ (p1 p2 p3 : Int) (p4 : List Named) {x : List Named}, self p1 p2 p3 p4 = some x → Spec Try.prog 82 [H Named 0, V p1, V p2, V p3, .clo 35 []] [O p4] (.tup []) [O x]}
  | 0 => ⟨fun _ _ _ _ => none, fun _ _ _ _ {_} h => nomatch h⟩
  | n + 1 => ⟨fun p1 p2 p3 p4 => (f82v2.body (f82v2.fuel n).1 (f82v2.fuel n).2 p1 p2 p3 p4).run, fun p1 p2 p3 p4 {_} h => f82v2.body.ok (f82v2.fuel n).1 (f82v2.fuel n).2 p1 p2 p3 p4 h⟩

noncomputable def f82v2 (p1 p2 p3 : Int) (p4 : List Named) : Option (List Named) := (f82v2.fuel Go.Fx.fuel).1 p1 p2 p3 p4
theorem f82v2.ok (p1 p2 p3 : Int) (p4 : List Named) {x} (h : f82v2 p1 p2 p3 p4 = some x) : Spec Try.prog 82 [H Named 0, V p1, V p2, V p3, .clo 35 []] [O p4] (.tup []) [O x] := (f82v2.fuel Go.Fx.fuel).2 p1 p2 p3 p4 h

noncomputable def f82v1.l2 (self : Int → Int → Int → (List Named) → Option (List Named)) (hself : ∀ (p1 p2 p3 : Int) (p4 : List Named) {x : List Named}, self p1 p2 p3 p4 = some x → Spec Try.prog 82 [H Named 0, V p1, V p2, V p3, .clo 35 []] [O p4] (.tup []) [O x]) (x16 : Int) (v23 : Int) (l24 : List Named) : Pg (Nx (Int × (List Named)) (Ex (List Named) Empty Empty)) :=
brr (decide (v23 < (IntKind.i64.wrap (x16 - 1)))) (
ck (IntKind.i64.wrap (v23 + 1)) (L l24) <|
rd l24 (at0 (IntKind.i64.wrap (v23 + 1))) fun a25 =>
ck v23 (L l24) <|
rd l24 (at0 v23) fun a26 =>
ck v23 (L l24) <|
st l24 (at0 v23) (fun x27 => a25) fun l28 =>
ck (IntKind.i64.wrap (v23 + 1)) (L l28) <|
st l28 (at0 (IntKind.i64.wrap (v23 + 1))) (fun x29 => a26) fun l30 =>
cont ((IntKind.i64.wrap (v23 + 1)), l30)) (
doneA (l24))

noncomputable def f82v1.l1 (self : Int → Int → Int → (List Named) → Option (List Named)) (hself : ∀ (p1 p2 p3 : Int) (p4 : List Named) {x : List Named}, self p1 p2 p3 p4 = some x → Spec Try.prog 82 [H Named 0, V p1, V p2, V p3, .clo 35 []] [O p4] (.tup []) [O x]) (p1 : Int) (p4 : List Named) (v9 v10 : Int) : Pg (Nx (Int × Int) (Ex Int Empty Empty)) :=
brr (decide (v9 < v10)) (
let e11 : Int := (IntKind.i64.wrap ((IntKind.u64.wrap (IntKind.i64.wrap (v9 + v10))).fdiv (2 ^ (min (1 : Int).toNat IntKind.u64.bits))))
ck e11 (L p4) <|
rd p4 (at0 e11) fun a12 =>
ck p1 (L p4) <|
rd p4 (at0 p1) fun a13 =>
cl (f35.ok a12 a13) fun y14 =>
brr (decide (y14 < 0)) (
cont ((IntKind.i64.wrap (e11 + 1)), v10)) (
cont (v9, e11))) (
doneA v9)

noncomputable def f82v1.l4 (self : Int → Int → Int → (List Named) → Option (List Named)) (hself : ∀ (p1 p2 p3 : Int) (p4 : List Named) {x : List Named}, self p1 p2 p3 p4 = some x → Spec Try.prog 82 [H Named 0, V p1, V p2, V p3, .clo 35 []] [O p4] (.tup []) [O x]) (x44 : Int) (v51 : Int) (l52 : List Named) : Pg (Nx (Int × (List Named)) (Ex (List Named) Empty Empty)) :=
brr (decide (v51 > x44)) (
ck (IntKind.i64.wrap (v51 - 1)) (L l52) <|
rd l52 (at0 (IntKind.i64.wrap (v51 - 1))) fun a53 =>
ck v51 (L l52) <|
rd l52 (at0 v51) fun a54 =>
ck v51 (L l52) <|
st l52 (at0 v51) (fun x55 => a53) fun l56 =>
ck (IntKind.i64.wrap (v51 - 1)) (L l56) <|
st l56 (at0 (IntKind.i64.wrap (v51 - 1))) (fun x57 => a54) fun l58 =>
cont ((IntKind.i64.wrap (v51 - 1)), l58)) (
doneA (l52))

noncomputable def f82v1.l3 (self : Int → Int → Int → (List Named) → Option (List Named)) (hself : ∀ (p1 p2 p3 : Int) (p4 : List Named) {x : List Named}, self p1 p2 p3 p4 = some x → Spec Try.prog 82 [H Named 0, V p1, V p2, V p3, .clo 35 []] [O p4] (.tup []) [O x]) (p2 : Int) (p4 : List Named) (v37 v38 : Int) : Pg (Nx (Int × Int) (Ex Int Empty Empty)) :=
brr (decide (v37 < v38)) (
let e39 : Int := ((IntKind.u64.wrap (IntKind.i64.wrap (v37 + v38))).fdiv (2 ^ (min (1 : Int).toNat IntKind.u64.bits)))
ck p2 (L p4) <|
rd p4 (at0 p2) fun a40 =>
ck (IntKind.i64.wrap e39) (L p4) <|
rd p4 (at0 (IntKind.i64.wrap e39)) fun a41 =>
cl (f35.ok a40 a41) fun y42 =>
brr (!(decide (y42 < 0))) (
cont ((IntKind.i64.wrap ((IntKind.i64.wrap e39) + 1)), v38)) (
cont (v37, (IntKind.i64.wrap e39)))) (
doneA v37)

noncomputable def f82v1.l5 (self : Int → Int → Int → (List Named) → Option (List Named)) (hself : ∀ (p1 p2 p3 : Int) (p4 : List Named) {x : List Named}, self p1 p2 p3 p4 = some x → Spec Try.prog 82 [H Named 0, V p1, V p2, V p3, .clo 35 []] [O p4] (.tup []) [O x]) (p2 : Int) (p4 : List Named) (e61 : Int) (v67 v68 : Int) : Pg (Nx (Int × Int) (Ex Int Empty Empty)) :=
brr (decide (v67 < v68)) (
let e69 : Int := ((IntKind.u64.wrap (IntKind.i64.wrap (v67 + v68))).fdiv (2 ^ (min (1 : Int).toNat IntKind.u64.bits)))
ck (IntKind.i64.wrap ((IntKind.i64.wrap ((IntKind.i64.wrap (e61 + p2)) - 1)) - (IntKind.i64.wrap e69))) (L p4) <|
rd p4 (at0 (IntKind.i64.wrap ((IntKind.i64.wrap ((IntKind.i64.wrap (e61 + p2)) - 1)) - (IntKind.i64.wrap e69)))) fun a70 =>
ck (IntKind.i64.wrap e69) (L p4) <|
rd p4 (at0 (IntKind.i64.wrap e69)) fun a71 =>
cl (f35.ok a70 a71) fun y72 =>
brr (!(decide (y72 < 0))) (
cont ((IntKind.i64.wrap ((IntKind.i64.wrap e69) + 1)), v68)) (
cont (v67, (IntKind.i64.wrap e69)))) (
doneA v67)

noncomputable def f82v1.body (self : Int → Int → Int → (List Named) → Option (List Named)) (hself : ∀ (p1 p2 p3 : Int) (p4 : List Named) {x : List Named}, self p1 p2 p3 p4 = some x → Spec Try.prog 82 [H Named 0, V p1, V p2, V p3, .clo 35 []] [O p4] (.tup []) [O x]) (p1 p2 p3 : Int) (p4 : List Named) : Pg (List Named) :=
brr ((IntKind.i64.wrap (p2 - p1)) == 1) (
loop1 (p2, p3) (fun s15 => f82v1.l1 self hself p1 p4 s15.1 s15.2) (fun s15 => ([(0, H Named 0), (1, V p1), (4, .clo 35 []), (10, V s15.1), (11, V s15.2)], [(0, O p4)])) (.cut (.ext 0) fun x16 => ([(0, H Named 0), (1, V p1), (10, V x16)], [(0, O p4)])) fun x16 =>
loop1 (p1, p4) (fun s31 => f82v1.l2 self hself x16 s31.1 s31.2) (fun s31 => ([(0, H Named 0), (10, V x16), (13, V s31.1)], [(0, O s31.2)])) .inl fun r32 =>
.ret r32) (
brr ((IntKind.i64.wrap (p3 - p2)) == 1) (
loop1 (p1, p2) (fun s43 => f82v1.l3 self hself p2 p4 s43.1 s43.2) (fun s43 => ([(0, H Named 0), (2, V p2), (4, .clo 35 []), (14, V s43.1), (15, V s43.2)], [(0, O p4)])) (.cut (.ext 4) fun x44 => ([(0, H Named 0), (2, V p2), (14, V x44)], [(0, O p4)])) fun x44 =>
loop1 (p2, p4) (fun s59 => f82v1.l4 self hself x44 s59.1 s59.2) (fun s59 => ([(0, H Named 0), (14, V x44), (17, V s59.1)], [(0, O s59.2)])) .inl fun r60 =>
.ret r60) (
let e61 : Int := (IntKind.i64.wrap ((IntKind.u64.wrap (IntKind.i64.wrap (p1 + p3))).fdiv (2 ^ (min (1 : Int).toNat IntKind.u64.bits))))
join1 (.cond 140) (
brr (decide (p2 > e61)) (
retA' ((IntKind.i64.wrap ((IntKind.i64.wrap (e61 + p2)) - p3)), e61)) (
retA' (p1, p2))) (.cut .nat fun x62 => ([(0, H Named 0), (1, V p1), (2, V p2), (3, V p3), (4, .clo 35 []), (18, V e61), (19, V (IntKind.i64.wrap (e61 + p2))), (20, V x62.1), (21, V x62.2)], [(0, O p4)])) fun x62 =>
loop1 (x62.1, x62.2) (fun s73 => f82v1.l5 self hself p2 p4 e61 s73.1 s73.2) (fun s73 => ([(0, H Named 0), (1, V p1), (2, V p2), (3, V p3), (4, .clo 35 []), (18, V e61), (19, V (IntKind.i64.wrap (e61 + p2))), (20, V s73.1), (21, V s73.2), (22, V (IntKind.i64.wrap ((IntKind.i64.wrap (e61 + p2)) - 1)))], [(0, O p4)])) (.cut (.ext 8) fun x74 => ([(0, H Named 0), (1, V p1), (2, V p2), (3, V p3), (4, .clo 35 []), (18, V e61), (19, V (IntKind.i64.wrap (e61 + p2))), (20, V x74)], [(0, O p4)])) fun x74 =>
join1 (.cond 185) (
brr ((decide (x74 < p2)) && (decide (p2 < (IntKind.i64.wrap ((IntKind.i64.wrap (e61 + p2)) - x74))))) (
cl (f88v1.ok x74 p2 (IntKind.i64.wrap ((IntKind.i64.wrap (e61 + p2)) - x74)) p4) fun y75 =>
retA' y75) (
retA' p4)) (.cut .nat fun x76 => ([(0, H Named 0), (1, V p1), (3, V p3), (4, .clo 35 []), (18, V e61), (20, V x74), (24, V (IntKind.i64.wrap ((IntKind.i64.wrap (e61 + p2)) - x74)))], [(0, O x76)])) fun x76 =>
join1 (.cond 199) (
brr ((decide (p1 < x74)) && (decide (x74 < e61))) (
cls (hself p1 x74 e61 x76) fun y77 =>
retA' y77) (
retA' x76)) (.cut .nat fun x78 => ([(0, H Named 0), (3, V p3), (4, .clo 35 []), (18, V e61), (24, V (IntKind.i64.wrap ((IntKind.i64.wrap (e61 + p2)) - x74)))], [(0, O x78)])) fun x78 =>
brr ((decide (e61 < (IntKind.i64.wrap ((IntKind.i64.wrap (e61 + p2)) - x74)))) && (decide ((IntKind.i64.wrap ((IntKind.i64.wrap (e61 + p2)) - x74)) < p3))) (
cls (f82v2.ok e61 (IntKind.i64.wrap ((IntKind.i64.wrap (e61 + p2)) - x74)) p3 x78) fun y79 =>
.ret (y79)) (
.ret (x78))))

theorem f82v1.body.ok (self : Int → Int → Int → (List Named) → Option (List Named)) (hself : ∀ (p1 p2 p3 : Int) (p4 : List Named) {x : List Named}, self p1 p2 p3 p4 = some x → Spec Try.prog 82 [H Named 0, V p1, V p2, V p3, .clo 35 []] [O p4] (.tup []) [O x]) (p1 p2 p3 : Int) (p4 : List Named) {x} (h : (f82v1.body self hself p1 p2 p3 p4).run = some x) : Spec Try.prog 82 [H Named 0, V p1, V p2, V p3, .clo 35 []] [O p4] (.tup []) [O x] :=
  Prg.ok Try.func82 (res := fun x => .tup []) (outs := fun x => [O x]) (by kernel_rfl) (by kernel_rfl) rfl h

noncomputable def f82v1.fuel : Nat → {self : Int → Int → Int → (List Named) → Option (List Named) // ∀ (p1 p2 p3 : Int) (p4 : List Named) {x : List Named}, self p1 p2 p3 p4 = some x → Spec Try.prog 82 [H Named 0, V p1, V p2, V p3, .clo 35 []] [O p4] (.tup []) [O x]}
  | 0 => ⟨fun _ _ _ _ => none, fun _ _ _ _ {_} h => nomatch h⟩
  | n + 1 => ⟨fun p1 p2 p3 p4 => (f82v1.body (f82v1.fuel n).1 (f82v1.fuel n).2 p1 p2 p3 p4).run, fun p1 p2 p3 p4 {_} h => f82v1.body.ok (f82v1.fuel n).1 (f82v1.fuel n).2 p1 p2 p3 p4 h⟩

noncomputable def f82v1 (p1 p2 p3 : Int) (p4 : List Named) : Option (List Named) := (f82v1.fuel Go.Fx.fuel).1 p1 p2 p3 p4
theorem f82v1.ok (p1 p2 p3 : Int) (p4 : List Named) {x} (h : f82v1 p1 p2 p3 p4 = some x) : Spec Try.prog 82 [H Named 0, V p1, V p2, V p3, .clo 35 []] [O p4] (.tup []) [O x] := (f82v1.fuel Go.Fx.fuel).2 p1 p2 p3 p4 h

noncomputable def f82v3.l2 (self : Int → Int → Int → (List Named) → Option (List Named)) (hself : ∀ (p1 p2 p3 : Int) (p4 : List Named) {x : List Named}, self p1 p2 p3 p4 = some x → Spec Try.prog 82 [H Named 0, V p1, V p2, V p3, .clo 35 []] [O p4] (.tup []) [O x]) (x16 : Int) (v23 : Int) (l24 : List Named) : Pg (Nx (Int × (List Named)) (Ex (List Named) Empty Empty)) :=
brr (decide (v23 < (IntKind.i64.wrap (x16 - 1)))) (
ck (IntKind.i64.wrap (v23 + 1)) (L l24) <|
rd l24 (at0 (IntKind.i64.wrap (v23 + 1))) fun a25 =>
ck v23 (L l24) <|
rd l24 (at0 v23) fun a26 =>
ck v23 (L l24) <|
st l24 (at0 v23) (fun x27 => a25) fun l28 =>
ck (IntKind.i64.wrap (v23 + 1)) (L l28) <|
st l28 (at0 (IntKind.i64.wrap (v23 + 1))) (fun x29 => a26) fun l30 =>
cont ((IntKind.i64.wrap (v23 + 1)), l30)) (
doneA (l24))

noncomputable def f82v3.l1 (self : Int → Int → Int → (List Named) → Option (List Named)) (hself : ∀ (p1 p2 p3 : Int) (p4 : List Named) {x : List Named}, self p1 p2 p3 p4 = some x → Spec Try.prog 82 [H Named 0, V p1, V p2, V p3, .clo 35 []] [O p4] (.tup []) [O x]) (p1 : Int) (p4 : List Named) (v9 v10 : Int) : Pg (Nx (Int × Int) (Ex Int Empty Empty)) :=
brr (decide (v9 < v10)) (
let e11 : Int := (IntKind.i64.wrap ((IntKind.u64.wrap (IntKind.i64.wrap (v9 + v10))).fdiv (2 ^ (min (1 : Int).toNat IntKind.u64.bits))))
ck e11 (L p4) <|
rd p4 (at0 e11) fun a12 =>
ck p1 (L p4) <|
rd p4 (at0 p1) fun a13 =>
cl (f35.ok a12 a13) fun y14 =>
brr (decide (y14 < 0)) (
cont ((IntKind.i64.wrap (e11 + 1)), v10)) (
cont (v9, e11))) (
doneA v9)

noncomputable def f82v3.l4 (self : Int → Int → Int → (List Named) → Option (List Named)) (hself : ∀ (p1 p2 p3 : Int) (p4 : List Named) {x : List Named}, self p1 p2 p3 p4 = some x → Spec Try.prog 82 [H Named 0, V p1, V p2, V p3, .clo 35 []] [O p4] (.tup []) [O x]) (x44 : Int) (v51 : Int) (l52 : List Named) : Pg (Nx (Int × (List Named)) (Ex (List Named) Empty Empty)) :=
brr (decide (v51 > x44)) (
ck (IntKind.i64.wrap (v51 - 1)) (L l52) <|
rd l52 (at0 (IntKind.i64.wrap (v51 - 1))) fun a53 =>
ck v51 (L l52) <|
rd l52 (at0 v51) fun a54 =>
ck v51 (L l52) <|
st l52 (at0 v51) (fun x55 => a53) fun l56 =>
ck (IntKind.i64.wrap (v51 - 1)) (L l56) <|
st l56 (at0 (IntKind.i64.wrap (v51 - 1))) (fun x57 => a54) fun l58 =>
cont ((IntKind.i64.wrap (v51 - 1)), l58)) (
doneA (l52))

noncomputable def f82v3.l3 (self : Int → Int → Int → (List Named) → Option (List Named)) (hself : ∀ (p1 p2 p3 : Int) (p4 : List Named) {x : List Named}, self p1 p2 p3 p4 = some x → Spec Try.prog 82 [H Named 0, V p1, V p2, V p3, .clo 35 []] [O p4] (.tup []) [O x]) (p2 : Int) (p4 : List Named) (v37 v38 : Int) : Pg (Nx (Int × Int) (Ex Int Empty Empty)) :=
brr (decide (v37 < v38)) (
let e39 : Int := ((IntKind.u64.wrap (IntKind.i64.wrap (v37 + v38))).fdiv (2 ^ (min (1 : Int).toNat IntKind.u64.bits)))
ck p2 (L p4) <|
rd p4 (at0 p2) fun a40 =>
ck (IntKind.i64.wrap e39) (L p4) <|
rd p4 (at0 (IntKind.i64.wrap e39)) fun a41 =>
cl (f35.ok a40 a41) fun y42 =>
brr (!(decide (y42 < 0))) (
cont ((IntKind.i64.wrap ((IntKind.i64.wrap e39) + 1)), v38)) (
cont (v37, (IntKind.i64.wrap e39)))) (
doneA v37)

noncomputable def f82v3.l5 (self : Int → Int → Int → (List Named) → Option (List Named)) (hself : ∀ (p1 p2 p3 : Int) (p4 : List Named) {x : List Named}, self p1 p2 p3 p4 = some x → Spec Try.prog 82 [H Named 0, V p1, V p2, V p3, .clo 35 []] [O p4] (.tup []) [O x]) (p2 : Int) (p4 : List Named) (e61 : Int) (v67 v68 : Int) : Pg (Nx (Int × Int) (Ex Int Empty Empty)) :=
brr (decide (v67 < v68)) (
let e69 : Int := ((IntKind.u64.wrap (IntKind.i64.wrap (v67 + v68))).fdiv (2 ^ (min (1 : Int).toNat IntKind.u64.bits)))
ck (IntKind.i64.wrap ((IntKind.i64.wrap ((IntKind.i64.wrap (e61 + p2)) - 1)) - (IntKind.i64.wrap e69))) (L p4) <|
rd p4 (at0 (IntKind.i64.wrap ((IntKind.i64.wrap ((IntKind.i64.wrap (e61 + p2)) - 1)) - (IntKind.i64.wrap e69)))) fun a70 =>
ck (IntKind.i64.wrap e69) (L p4) <|
rd p4 (at0 (IntKind.i64.wrap e69)) fun a71 =>
cl (f35.ok a70 a71) fun y72 =>
brr (!(decide (y72 < 0))) (
cont ((IntKind.i64.wrap ((IntKind.i64.wrap e69) + 1)), v68)) (
cont (v67, (IntKind.i64.wrap e69)))) (
doneA v67)

noncomputable def f82v3.body (self : Int → Int → Int → (List Named) → Option (List Named)) (hself : ∀ (p1 p2 p3 : Int) (p4 : List Named) {x : List Named}, self p1 p2 p3 p4 = some x → Spec Try.prog 82 [H Named 0, V p1, V p2, V p3, .clo 35 []] [O p4] (.tup []) [O x]) (p1 p2 p3 : Int) (p4 : List Named) : Pg (List Named) :=
brr ((IntKind.i64.wrap (p2 - p1)) == 1) (
loop1 (p2, p3) (fun s15 => f82v3.l1 self hself p1 p4 s15.1 s15.2) (fun s15 => ([(0, H Named 0), (1, V p1), (4, .clo 35 []), (10, V s15.1), (11, V s15.2)], [(0, O p4)])) (.cut (.ext 0) fun x16 => ([(0, H Named 0), (1, V p1), (10, V x16)], [(0, O p4)])) fun x16 =>
loop1 (p1, p4) (fun s31 => f82v3.l2 self hself x16 s31.1 s31.2) (fun s31 => ([(0, H Named 0), (10, V x16), (13, V s31.1)], [(0, O s31.2)])) .inl fun r32 =>
.ret r32) (
brr ((IntKind.i64.wrap (p3 - p2)) == 1) (
loop1 (p1, p2) (fun s43 => f82v3.l3 self hself p2 p4 s43.1 s43.2) (fun s43 => ([(0, H Named 0), (2, V p2), (4, .clo 35 []), (14, V s43.1), (15, V s43.2)], [(0, O p4)])) (.cut (.ext 4) fun x44 => ([(0, H Named 0), (2, V p2), (14, V x44)], [(0, O p4)])) fun x44 =>
loop1 (p2, p4) (fun s59 => f82v3.l4 self hself x44 s59.1 s59.2) (fun s59 => ([(0, H Named 0), (14, V x44), (17, V s59.1)], [(0, O s59.2)])) .inl fun r60 =>
.ret r60) (
let e61 : Int := (IntKind.i64.wrap ((IntKind.u64.wrap (IntKind.i64.wrap (p1 + p3))).fdiv (2 ^ (min (1 : Int).toNat IntKind.u64.bits))))
join1 (.cond 140) (
brr (decide (p2 > e61)) (
retA' ((IntKind.i64.wrap ((IntKind.i64.wrap (e61 + p2)) - p3)), e61)) (
retA' (p1, p2))) (.cut .nat fun x62 => ([(0, H Named 0), (1, V p1), (2, V p2), (3, V p3), (4, .clo 35 []), (18, V e61), (19, V (IntKind.i64.wrap (e61 + p2))), (20, V x62.1), (21, V x62.2)], [(0, O p4)])) fun x62 =>
loop1 (x62.1, x62.2) (fun s73 => f82v3.l5 self hself p2 p4 e61 s73.1 s73.2) (fun s73 => ([(0, H Named 0), (1, V p1), (2, V p2), (3, V p3), (4, .clo 35 []), (18, V e61), (19, V (IntKind.i64.wrap (e61 + p2))), (20, V s73.1), (21, V s73.2), (22, V (IntKind.i64.wrap ((IntKind.i64.wrap (e61 + p2)) - 1)))], [(0, O p4)])) (.cut (.ext 8) fun x74 => ([(0, H Named 0), (1, V p1), (2, V p2), (3, V p3), (4, .clo 35 []), (18, V e61), (19, V (IntKind.i64.wrap (e61 + p2))), (20, V x74)], [(0, O p4)])) fun x74 =>
join1 (.cond 185) (
brr ((decide (x74 < p2)) && (decide (p2 < (IntKind.i64.wrap ((IntKind.i64.wrap (e61 + p2)) - x74))))) (
cl (f88v1.ok x74 p2 (IntKind.i64.wrap ((IntKind.i64.wrap (e61 + p2)) - x74)) p4) fun y75 =>
retA' y75) (
retA' p4)) (.cut .nat fun x76 => ([(0, H Named 0), (1, V p1), (3, V p3), (4, .clo 35 []), (18, V e61), (20, V x74), (24, V (IntKind.i64.wrap ((IntKind.i64.wrap (e61 + p2)) - x74)))], [(0, O x76)])) fun x76 =>
join1 (.cond 199) (
brr ((decide (p1 < x74)) && (decide (x74 < e61))) (
cls (f82v2.ok p1 x74 e61 x76) fun y77 =>
retA' y77) (
retA' x76)) (.cut .nat fun x78 => ([(0, H Named 0), (3, V p3), (4, .clo 35 []), (18, V e61), (24, V (IntKind.i64.wrap ((IntKind.i64.wrap (e61 + p2)) - x74)))], [(0, O x78)])) fun x78 =>
brr ((decide (e61 < (IntKind.i64.wrap ((IntKind.i64.wrap (e61 + p2)) - x74)))) && (decide ((IntKind.i64.wrap ((IntKind.i64.wrap (e61 + p2)) - x74)) < p3))) (
cls (hself e61 (IntKind.i64.wrap ((IntKind.i64.wrap (e61 + p2)) - x74)) p3 x78) fun y79 =>
.ret (y79)) (
.ret (x78))))

theorem f82v3.body.ok (self : Int → Int → Int → (List Named) → Option (List Named)) (hself : ∀ (p1 p2 p3 : Int) (p4 : List Named) {x : List Named}, self p1 p2 p3 p4 = some x → Spec Try.prog 82 [H Named 0, V p1, V p2, V p3, .clo 35 []] [O p4] (.tup []) [O x]) (p1 p2 p3 : Int) (p4 : List Named) {x} (h : (f82v3.body self hself p1 p2 p3 p4).run = some x) : Spec Try.prog 82 [H Named 0, V p1, V p2, V p3, .clo 35 []] [O p4] (.tup []) [O x] :=
  Prg.ok Try.func82 (res := fun x => .tup []) (outs := fun x => [O x]) (by kernel_rfl) (by kernel_rfl) rfl h

noncomputable def f82v3.fuel : Nat → {self : Int → Int → Int → (List Named) → Option (List Named) // ∀ (p1 p2 p3 : Int) (p4 : List Named) {x : List Named}, self p1 p2 p3 p4 = some x → Spec Try.prog 82 [H Named 0, V p1, V p2, V p3, .clo 35 []] [O p4] (.tup []) [O x]}
  | 0 => ⟨fun _ _ _ _ => none, fun _ _ _ _ {_} h => nomatch h⟩
  | n + 1 => ⟨fun p1 p2 p3 p4 => (f82v3.body (f82v3.fuel n).1 (f82v3.fuel n).2 p1 p2 p3 p4).run, fun p1 p2 p3 p4 {_} h => f82v3.body.ok (f82v3.fuel n).1 (f82v3.fuel n).2 p1 p2 p3 p4 h⟩

noncomputable def f82v3 (p1 p2 p3 : Int) (p4 : List Named) : Option (List Named) := (f82v3.fuel Go.Fx.fuel).1 p1 p2 p3 p4
theorem f82v3.ok (p1 p2 p3 : Int) (p4 : List Named) {x} (h : f82v3 p1 p2 p3 p4 = some x) : Spec Try.prog 82 [H Named 0, V p1, V p2, V p3, .clo 35 []] [O p4] (.tup []) [O x] := (f82v3.fuel Go.Fx.fuel).2 p1 p2 p3 p4 h

noncomputable def f82.l2 (x16 : Int) (v23 : Int) (l24 : List Named) : Pg (Nx (Int × (List Named)) (Ex (List Named) Empty Empty)) :=
brr (decide (v23 < (IntKind.i64.wrap (x16 - 1)))) (
ck (IntKind.i64.wrap (v23 + 1)) (L l24) <|
rd l24 (at0 (IntKind.i64.wrap (v23 + 1))) fun a25 =>
ck v23 (L l24) <|
rd l24 (at0 v23) fun a26 =>
ck v23 (L l24) <|
st l24 (at0 v23) (fun x27 => a25) fun l28 =>
ck (IntKind.i64.wrap (v23 + 1)) (L l28) <|
st l28 (at0 (IntKind.i64.wrap (v23 + 1))) (fun x29 => a26) fun l30 =>
cont ((IntKind.i64.wrap (v23 + 1)), l30)) (
doneA (l24))

noncomputable def f82.l1 (p1 : Int) (p4 : List Named) (v9 v10 : Int) : Pg (Nx (Int × Int) (Ex Int Empty Empty)) :=
brr (decide (v9 < v10)) (
let e11 : Int := (IntKind.i64.wrap ((IntKind.u64.wrap (IntKind.i64.wrap (v9 + v10))).fdiv (2 ^ (min (1 : Int).toNat IntKind.u64.bits))))
ck e11 (L p4) <|
rd p4 (at0 e11) fun a12 =>
ck p1 (L p4) <|
rd p4 (at0 p1) fun a13 =>
cl (f35.ok a12 a13) fun y14 =>
brr (decide (y14 < 0)) (
cont ((IntKind.i64.wrap (e11 + 1)), v10)) (
cont (v9, e11))) (
doneA v9)

noncomputable def f82.l4 (x44 : Int) (v51 : Int) (l52 : List Named) : Pg (Nx (Int × (List Named)) (Ex (List Named) Empty Empty)) :=
brr (decide (v51 > x44)) (
ck (IntKind.i64.wrap (v51 - 1)) (L l52) <|
rd l52 (at0 (IntKind.i64.wrap (v51 - 1))) fun a53 =>
ck v51 (L l52) <|
rd l52 (at0 v51) fun a54 =>
ck v51 (L l52) <|
st l52 (at0 v51) (fun x55 => a53) fun l56 =>
ck (IntKind.i64.wrap (v51 - 1)) (L l56) <|
st l56 (at0 (IntKind.i64.wrap (v51 - 1))) (fun x57 => a54) fun l58 =>
cont ((IntKind.i64.wrap (v51 - 1)), l58)) (
doneA (l52))

noncomputable def f82.l3 (p2 : Int) (p4 : List Named) (v37 v38 : Int) : Pg (Nx (Int × Int) (Ex Int Empty Empty)) :=
brr (decide (v37 < v38)) (
let e39 : Int := ((IntKind.u64.wrap (IntKind.i64.wrap (v37 + v38))).fdiv (2 ^ (min (1 : Int).toNat IntKind.u64.bits)))
ck p2 (L p4) <|
rd p4 (at0 p2) fun a40 =>
ck (IntKind.i64.wrap e39) (L p4) <|
rd p4 (at0 (IntKind.i64.wrap e39)) fun a41 =>
cl (f35.ok a40 a41) fun y42 =>
brr (!(decide (y42 < 0))) (
cont ((IntKind.i64.wrap ((IntKind.i64.wrap e39) + 1)), v38)) (
cont (v37, (IntKind.i64.wrap e39)))) (
doneA v37)

noncomputable def f82.l5 (p2 : Int) (p4 : List Named) (e61 : Int) (v67 v68 : Int) : Pg (Nx (Int × Int) (Ex Int Empty Empty)) :=
brr (decide (v67 < v68)) (
let e69 : Int := ((IntKind.u64.wrap (IntKind.i64.wrap (v67 + v68))).fdiv (2 ^ (min (1 : Int).toNat IntKind.u64.bits)))
ck (IntKind.i64.wrap ((IntKind.i64.wrap ((IntKind.i64.wrap (e61 + p2)) - 1)) - (IntKind.i64.wrap e69))) (L p4) <|
rd p4 (at0 (IntKind.i64.wrap ((IntKind.i64.wrap ((IntKind.i64.wrap (e61 + p2)) - 1)) - (IntKind.i64.wrap e69)))) fun a70 =>
ck (IntKind.i64.wrap e69) (L p4) <|
rd p4 (at0 (IntKind.i64.wrap e69)) fun a71 =>
cl (f35.ok a70 a71) fun y72 =>
brr (!(decide (y72 < 0))) (
cont ((IntKind.i64.wrap ((IntKind.i64.wrap e69) + 1)), v68)) (
cont (v67, (IntKind.i64.wrap e69)))) (
doneA v67)

noncomputable def f82 (p1 p2 p3 : Int) (p4 : List Named) : Pg (List Named) :=
brr ((IntKind.i64.wrap (p2 - p1)) == 1) (
loop1 (p2, p3) (fun s15 => f82.l1 p1 p4 s15.1 s15.2) (fun s15 => ([(0, H Named 0), (1, V p1), (4, .clo 35 []), (10, V s15.1), (11, V s15.2)], [(0, O p4)])) (.cut (.ext 0) fun x16 => ([(0, H Named 0), (1, V p1), (10, V x16)], [(0, O p4)])) fun x16 =>
loop1 (p1, p4) (fun s31 => f82.l2 x16 s31.1 s31.2) (fun s31 => ([(0, H Named 0), (10, V x16), (13, V s31.1)], [(0, O s31.2)])) .inl fun r32 =>
.ret r32) (
brr ((IntKind.i64.wrap (p3 - p2)) == 1) (
loop1 (p1, p2) (fun s43 => f82.l3 p2 p4 s43.1 s43.2) (fun s43 => ([(0, H Named 0), (2, V p2), (4, .clo 35 []), (14, V s43.1), (15, V s43.2)], [(0, O p4)])) (.cut (.ext 4) fun x44 => ([(0, H Named 0), (2, V p2), (14, V x44)], [(0, O p4)])) fun x44 =>
loop1 (p2, p4) (fun s59 => f82.l4 x44 s59.1 s59.2) (fun s59 => ([(0, H Named 0), (14, V x44), (17, V s59.1)], [(0, O s59.2)])) .inl fun r60 =>
.ret r60) (
let e61 : Int := (IntKind.i64.wrap ((IntKind.u64.wrap (IntKind.i64.wrap (p1 + p3))).fdiv (2 ^ (min (1 : Int).toNat IntKind.u64.bits))))
join1 (.cond 140) (
brr (decide (p2 > e61)) (
retA' ((IntKind.i64.wrap ((IntKind.i64.wrap (e61 + p2)) - p3)), e61)) (
retA' (p1, p2))) (.cut .nat fun x62 => ([(0, H Named 0), (1, V p1), (2, V p2), (3, V p3), (4, .clo 35 []), (18, V e61), (19, V (IntKind.i64.wrap (e61 + p2))), (20, V x62.1), (21, V x62.2)], [(0, O p4)])) fun x62 =>
loop1 (x62.1, x62.2) (fun s73 => f82.l5 p2 p4 e61 s73.1 s73.2) (fun s73 => ([(0, H Named 0), (1, V p1), (2, V p2), (3, V p3), (4, .clo 35 []), (18, V e61), (19, V (IntKind.i64.wrap (e61 + p2))), (20, V s73.1), (21, V s73.2), (22, V (IntKind.i64.wrap ((IntKind.i64.wrap (e61 + p2)) - 1)))], [(0, O p4)])) (.cut (.ext 8) fun x74 => ([(0, H Named 0), (1, V p1), (2, V p2), (3, V p3), (4, .clo 35 []), (18, V e61), (19, V (IntKind.i64.wrap (e61 + p2))), (20, V x74)], [(0, O p4)])) fun x74 =>
join1 (.cond 185) (
brr ((decide (x74 < p2)) && (decide (p2 < (IntKind.i64.wrap ((IntKind.i64.wrap (e61 + p2)) - x74))))) (
cl (f88.ok x74 p2 (IntKind.i64.wrap ((IntKind.i64.wrap (e61 + p2)) - x74)) p4) fun y75 =>
retA' y75) (
retA' p4)) (.cut .nat fun x76 => ([(0, H Named 0), (1, V p1), (3, V p3), (4, .clo 35 []), (18, V e61), (20, V x74), (24, V (IntKind.i64.wrap ((IntKind.i64.wrap (e61 + p2)) - x74)))], [(0, O x76)])) fun x76 =>
join1 (.cond 199) (
brr ((decide (p1 < x74)) && (decide (x74 < e61))) (
cls (f82v1.ok p1 x74 e61 x76) fun y77 =>
retA' y77) (
retA' x76)) (.cut .nat fun x78 => ([(0, H Named 0), (3, V p3), (4, .clo 35 []), (18, V e61), (24, V (IntKind.i64.wrap ((IntKind.i64.wrap (e61 + p2)) - x74)))], [(0, O x78)])) fun x78 =>
brr ((decide (e61 < (IntKind.i64.wrap ((IntKind.i64.wrap (e61 + p2)) - x74)))) && (decide ((IntKind.i64.wrap ((IntKind.i64.wrap (e61 + p2)) - x74)) < p3))) (
cls (f82v3.ok e61 (IntKind.i64.wrap ((IntKind.i64.wrap (e61 + p2)) - x74)) p3 x78) fun y79 =>
.ret (y79)) (
.ret (x78))))

theorem f82.ok (p1 p2 p3 : Int) (p4 : List Named) {x} (h : (f82 p1 p2 p3 p4).run = some x) : Spec Try.prog 82 [H Named 0, V p1, V p2, V p3, .clo 35 []] [O p4] (.tup []) [O x] :=
  Prg.ok Try.func82 (res := fun x => .tup []) (outs := fun x => [O x]) (by kernel_rfl) (by kernel_rfl) rfl h

noncomputable def f63v1.l2 (p1 v19 : Int) (v22 v23 : Int) (l24 : List Named) : Pg (Nx (Int × Int × (List Named)) (Ex (Int × (List Named)) Empty Empty)) :=
brr (decide (v23 ≤ p1)) (
cl (f82.ok v22 (IntKind.i64.wrap (v22 + v19)) v23 l24) fun y25 =>
cont (v23, (IntKind.i64.wrap (v23 + (IntKind.i64.wrap (2 * v19)))), y25)) (
doneA (v22, l24))

noncomputable def f63v1.l3 (p1 : Int) (v19 : Int) (l20 : List Named) : Pg (Nx (Int × (List Named)) (Ex (List Named) Empty Empty)) :=
brr (decide (v19 < p1)) (
loop1 ((0 : Int), (IntKind.i64.wrap (2 * v19)), l20) (fun s26 => f63v1.l2 p1 v19 s26.1 s26.2.1 s26.2.2) (fun s26 => ([(0, H Named 0), (1, V p1), (2, .clo 35 []), (6, V v19), (7, V s26.1), (8, V s26.2.1)], [(0, O s26.2.2)])) (.cut (.ext 4) fun x27 => ([(0, H Named 0), (1, V p1), (2, .clo 35 []), (6, V v19), (7, V x27.1)], [(0, O x27.2)])) fun x27 =>
brr (decide ((IntKind.i64.wrap (x27.1 + v19)) < p1)) (
cl (f82.ok x27.1 (IntKind.i64.wrap (x27.1 + v19)) p1 x27.2) fun y28 =>
cont ((IntKind.i64.wrap (v19 * 2)), y28)) (
cont ((IntKind.i64.wrap (v19 * 2)), x27.2))) (
doneA (l20))

noncomputable def f63v1.l1 (p1 : Int) (v4 v5 : Int) (l6 : List Named) : Pg (Nx (Int × Int × (List Named)) (Ex (Int × (List Named)) Empty Empty)) :=
brr (decide (v5 ≤ p1)) (
cl (f81v1.ok v4 v5 l6) fun y7 =>
cont (v5, (IntKind.i64.wrap (v5 + 20)), y7)) (
doneA (v4, l6))

noncomputable def f63v1 (p1 : Int) (p2 : List Named) : Pg (List Named) :=
loop1 ((0 : Int), (20 : Int), p2) (fun s8 => f63v1.l1 p1 s8.1 s8.2.1 s8.2.2) (fun s8 => ([(0, H Named 0), (1, V p1), (2, .clo 35 []), (6, V (20 : Int)), (7, V s8.1), (8, V s8.2.1)], [(0, O s8.2.2)])) (.cut (.ext 0) fun x9 => ([(0, H Named 0), (1, V p1), (2, .clo 35 []), (6, V (20 : Int)), (7, V x9.1)], [(0, O x9.2)])) fun x9 =>
cl (f81v1.ok x9.1 p1 x9.2) fun y10 =>
loop1 ((20 : Int), y10) (fun s29 => f63v1.l3 p1 s29.1 s29.2) (fun s29 => ([(0, H Named 0), (1, V p1), (2, .clo 35 []), (6, V s29.1)], [(0, O s29.2)])) .inl fun r30 =>
.ret r30

theorem f63v1.ok (p1 : Int) (p2 : List Named) {x} (h : (f63v1 p1 p2).run = some x) : Spec Try.prog 63 [H Named 0, V p1, .clo 35 []] [O p2] (.tup []) [O x] :=
  Prg.ok Try.func63 (res := fun x => .tup []) (outs := fun x => [O x]) (by kernel_rfl) (by kernel_rfl) rfl h

noncomputable def f34v1 (p1 : List Named) : Pg (List Named) :=
cl (f63v1.ok (L p1 : Int) p1) fun y2 =>
.ret (y2)

theorem f34v1.ok (p1 : List Named) {x} (h : (f34v1 p1).run = some x) : Spec Try.prog 34 [H Named 0, .clo 35 []] [O p1] (.tup []) [O x] :=
  Prg.ok Try.func34 (res := fun x => .tup []) (outs := fun x => [O x]) (by kernel_rfl) (by kernel_rfl) rfl h

noncomputable def f11.l1 (y4 : List Named) (v13 : Int) (l14 : List (List Int)) (l15 : Bool) (l16 : List Int) : Pg (Nx (Int × (List (List Int)) × Bool × (List Int)) (Ex ((List (List Int)) × Bool × (List Int)) Empty Empty)) :=
brr (decide (v13 < (L y4 : Int))) (
ck v13 (L y4) <|
rd y4 (at0 v13) fun a17 =>
join1 (.reg 9) (
brr (v13 == 0) (
retA' true) (
ck (IntKind.i64.wrap (v13 - 1)) (L y4) <|
rd y4 (at0 (IntKind.i64.wrap (v13 - 1))) fun a18 =>
getR a18.Label (0 : Int) fun a19 =>
getR a17.Label (0 : Int) fun a20 =>
retA' (a19 != a20))) (.cut .nat fun x21 => ([(4, H Named 101), (6, H (List Int) 103), (8, R 105), (19, H Named 101), (20, V (L y4 : Int)), (21, V v13), (42, V x21)], [(101, O y4), (103, .slo (toks l14 l15) 107), (105, B a17), (107, O l16)])) fun x21 =>
join1 (.cond 42) (
brr x21 (
shutW 6 l14 l15 l16 fun l22 =>
bsN 44 <|
apNil l22 <|
lastW 6 17 l22 <|
retA' (l22, true, ([] : List Int))) (
retA' (l14, l15, l16))) (.cut .nat fun x23 => ([(4, H Named 101), (6, H (List Int) 103), (8, R 105), (19, H Named 101), (20, V (L y4 : Int)), (21, V v13)], [(101, O y4), (103, .slo (toks x23.1 x23.2.1) 107), (105, B a17), (107, O x23.2.2)])) fun x23 =>
ck (IntKind.i64.wrap (((toks x23.1 x23.2.1).length : Int) - 1)) (toks x23.1 x23.2.1).length <|
ldL x23.1 x23.2.1 (at0 (IntKind.i64.wrap (((toks x23.1 x23.2.1).length : Int) - 1))) <|
ap x23.2.2 ([a17.ID] : List Int) fun l24 =>
ck (IntKind.i64.wrap (((toks x23.1 x23.2.1).length : Int) - 1)) (toks x23.1 x23.2.1).length <|
stL x23.1 x23.2.1 (at0 (IntKind.i64.wrap (((toks x23.1 x23.2.1).length : Int) - 1))) <|
cont ((IntKind.i64.wrap (v13 + 1)), x23.1, x23.2.1, l24)) (
doneA (l14, l15, l16))

noncomputable def f11 (p1 : List Vertex) (p2 : List Edge) : Pg ((List (List Int)) × Int) :=
cl (f8v1.ok p1 p2) fun y3 =>
brr (y3.1 != 0) (
.ret ((([] : List (List Int)), y3.1))) (
cl (f34v1.ok y3.2) fun y4 =>
nilA 6 1 <|
sloW 6 17 <|
loop1 ((0 : Int), ([] : List (List Int)), false, ([] : List Int)) (fun s25 => f11.l1 y4 s25.1 s25.2.1 s25.2.2.1 s25.2.2.2) (fun s25 => ([(4, H Named 101), (6, H (List Int) 103), (19, H Named 101), (20, V (L y4 : Int)), (21, V s25.1)], [(101, O y4), (103, .slo (toks s25.2.1 s25.2.2.1) 105), (105, O s25.2.2.2)])) (.cut (.ext 0) fun x26 => ([(6, H (List Int) 101)], [(101, .slo (toks x26.1 x26.2.1) 103), (103, O x26.2.2)])) fun x26 =>
shutW 6 x26.1 x26.2.1 x26.2.2 fun l27 =>
.ret ((l27, (0 : Int))))

theorem f11.ok (p1 : List Vertex) (p2 : List Edge) {x} (h : (f11 p1 p2).run = some x) : Spec Try.prog 11 [.aggp [.sl (p1.map Cel.enc), .sl (p2.map Cel.enc), .nilsl]] [] (.tup [V x.1, V x.2]) [] :=
  Prg.ok Try.func11 (res := fun x => .tup [V x.1, V x.2]) (outs := fun x => []) (by kernel_rfl) (by kernel_rfl) rfl h

noncomputable def f31 (p1 : Vertex) (p2 : Int) : Pg Unit :=
.ret (())

theorem f31.ok (p1 : Vertex) (p2 : Int) {x} (h : (f31 p1 p2).run = some x) : Spec Try.prog 31 [V p1, R 0] [B p2] (V (p1.ID == p2)) [B p2] :=
  Prg.ok Try.func31 (res := fun x => V (p1.ID == p2)) (outs := fun x => [B p2]) (by kernel_rfl) (by kernel_rfl) rfl h

noncomputable def f62v1.l1 (p1 : List Vertex) (p2 : Int) (v5 : Int) : Pg (Nx Int (Ex (Int) Unit Empty)) :=
brr (decide (v5 < (L p1 : Int))) (
getR p1 v5 fun a6 =>
cl (f31.ok a6 p2) fun _ =>
brr (a6.ID == p2) (
doneA (v5)) (
cont (IntKind.i64.wrap (v5 + 1)))) (
doneB ())

noncomputable def f62v1 (p1 : List Vertex) (p2 : Int) : Pg Int :=
loop2 (0 : Int) (fun s8 => f62v1.l1 p1 p2 s8) (fun s8 => ([(0, V p1), (1, .clo 31 [R 0]), (7, V (L p1 : Int)), (8, V s8)], [(0, B p2)])) .inl (fun r9 =>
.ret r9) (.cut (.ext 0) fun _ => ([], [(0, B p2)])) fun _ =>
.ret (((-1) : Int))

theorem f62v1.ok (p1 : List Vertex) (p2 : Int) {x} (h : (f62v1 p1 p2).run = some x) : Spec Try.prog 62 [V p1, .clo 31 [R 0]] [B p2] (V x) [B p2] :=
  Prg.ok Try.func62 (res := fun x => V x) (outs := fun x => [B p2]) (by kernel_rfl) (by kernel_rfl) rfl h

noncomputable def f30v1 (p1 : List Vertex) (p2 : Int) : Pg Bool :=
cl (f62v1.ok p1 p2) fun y3 =>
.ret ((decide (y3 ≥ 0)))

theorem f30v1.ok (p1 : List Vertex) (p2 : Int) {x} (h : (f30v1 p1 p2).run = some x) : Spec Try.prog 30 [V p1, .clo 31 [R 0]] [B p2] (V x) [B p2] :=
  Prg.ok Try.func30 (res := fun x => V x) (outs := fun x => [B p2]) (by kernel_rfl) (by kernel_rfl) rfl h

noncomputable def f29 (p1 : Int) (p2 : List Vertex) (p3 : List Edge) : Pg Bool :=
cl (f30v1.ok p2 p1) fun y4 =>
.ret (y4)

theorem f29.ok (p1 : Int) (p2 : List Vertex) (p3 : List Edge) {x} (h : (f29 p1 p2 p3).run = some x) : Spec Try.prog 29 [V p1, R 0] [.varp [.sl (p2.map Cel.enc), .sl (p3.map Cel.enc), .nilsl]] (V x) [.varp [.sl (p2.map Cel.enc), .sl (p3.map Cel.enc), .nilsl]] :=
  Prg.ok Try.func29 (res := fun x => V x) (outs := fun x => [.varp [.sl (p2.map Cel.enc), .sl (p3.map Cel.enc), .nilsl]]) (by kernel_rfl) (by kernel_rfl) rfl h

noncomputable def f33v2 (p1 : List U32) (p2 p3 : Int) : Pg Bool :=
ck p2 24 <|
rd p1 p2.toNat fun a4 =>
nnS p3 <|
.ret (((andI .u32 ((U32.i a4).fdiv (2 ^ (min (p3 : Int).toNat IntKind.u32.bits))) 1) == 1))

theorem f33v2.ok (p1 : List U32) (p2 p3 : Int) {x} (h : (f33v2 p1 p2 p3).run = some x) : Spec Try.prog 33 [Ar 24 p1, V p2, V p3] [] (V x) [] :=
  Prg.ok Try.func33 (res := fun x => V x) (outs := fun x => []) (by kernel_rfl) (by kernel_rfl) rfl h

noncomputable def f10 (p1 : List Vertex) (p2 : List Edge) (p3 p4 : Int) : Pg (Bool × Int) :=
join1 (.reg 2) (
cl (f21.ok p1 p2) fun y6 =>
brr (!y6) (
retA' true) (
cl (f29.ok p3 p1 p2) fun y7 =>
brr (!y7) (
retA' true) (
cl (f29.ok p4 p1 p2) fun y8 =>
retA' (!y8)))) (.cut .nat fun x9 => ([(1, V p3), (2, V p4), (3, R 101), (24, V x9)], [(101, .varp [.sl (p1.map Cel.enc), .sl (p2.map Cel.enc), .nilsl])])) fun x9 =>
brr x9 (
.ret ((false, (90 : Int)))) (
cl (f32.ok p1 p2) fun y10 =>
cl (f33v2.ok y10 p3 p4) fun y11 =>
.ret ((y11, (0 : Int))))

theorem f10.ok (p1 : List Vertex) (p2 : List Edge) (p3 p4 : Int) {x} (h : (f10 p1 p2 p3 p4).run = some x) : Spec Try.prog 10 [.aggp [.sl (p1.map Cel.enc), .sl (p2.map Cel.enc), .nilsl], V p3, V p4] [] (.tup [V x.1, V x.2]) [] :=
  Prg.ok Try.func10 (res := fun x => .tup [V x.1, V x.2]) (outs := fun x => []) (by kernel_rfl) (by kernel_rfl) rfl h

noncomputable def f65 (p1 : Vertex) (p2 : Int) : Pg Unit :=
.ret (())

theorem f65.ok (p1 : Vertex) (p2 : Int) {x} (h : (f65 p1 p2).run = some x) : Spec Try.prog 65 [V p1, R 0] [B p2] (V (p1.ID == p2)) [B p2] :=
  Prg.ok Try.func65 (res := fun x => V (p1.ID == p2)) (outs := fun x => [B p2]) (by kernel_rfl) (by kernel_rfl) rfl h

noncomputable def f62v2.l1 (p1 : List Vertex) (p2 : Int) (v5 : Int) : Pg (Nx Int (Ex (Int) Unit Empty)) :=
brr (decide (v5 < (L p1 : Int))) (
getR p1 v5 fun a6 =>
cl (f65.ok a6 p2) fun _ =>
brr (a6.ID == p2) (
doneA (v5)) (
cont (IntKind.i64.wrap (v5 + 1)))) (
doneB ())

noncomputable def f62v2 (p1 : List Vertex) (p2 : Int) : Pg Int :=
loop2 (0 : Int) (fun s8 => f62v2.l1 p1 p2 s8) (fun s8 => ([(0, V p1), (1, .clo 65 [R 0]), (7, V (L p1 : Int)), (8, V s8)], [(0, B p2)])) .inl (fun r9 =>
.ret r9) (.cut (.ext 0) fun _ => ([], [(0, B p2)])) fun _ =>
.ret (((-1) : Int))

theorem f62v2.ok (p1 : List Vertex) (p2 : Int) {x} (h : (f62v2 p1 p2).run = some x) : Spec Try.prog 62 [V p1, .clo 65 [R 0]] [B p2] (V x) [B p2] :=
  Prg.ok Try.func62 (res := fun x => V x) (outs := fun x => [B p2]) (by kernel_rfl) (by kernel_rfl) rfl h

noncomputable def f38 (p1 : List Vertex) (p2 : List Edge) (p3 : Int) : Pg (Vertex × Bool) :=
cl (f62v2.ok p1 p3) fun y4 =>
join1 (.reg 2) (
brr (decide (y4 < 0)) (
retA' true) (
cl (f21.ok p1 p2) fun y5 =>
retA' (!y5))) (.cut .nat fun x6 => ([(2, R 101), (4, R 103), (6, V y4), (17, V x6)], [(101, .varp [.sl (p1.map Cel.enc), .sl (p2.map Cel.enc), .nilsl]), (103, B (Vertex.mk 0 0))])) fun x6 =>
brr x6 (
.ret (((Vertex.mk 0 0), false))) (
getR p1 y4 fun a7 =>
.ret ((a7, true)))

theorem f38.ok (p1 : List Vertex) (p2 : List Edge) (p3 : Int) {x} (h : (f38 p1 p2 p3).run = some x) : Spec Try.prog 38 [.aggp [.sl (p1.map Cel.enc), .sl (p2.map Cel.enc), .nilsl], V p3] [] (.tup [V x.1, V x.2]) [] :=
  Prg.ok Try.func38 (res := fun x => .tup [V x.1, V x.2]) (outs := fun x => []) (by kernel_rfl) (by kernel_rfl) rfl h

noncomputable def f39.l1 (p1 : List Named) (v3 v4 : Int) : Pg (Nx (Int × Int) (Ex (Bool) Unit Empty)) :=
brr (decide (v4 < (L p1 : Int))) (
getR p1 v4 fun a5 =>
brr (decide (a5.ID ≤ v3)) (
doneA (false)) (
brr (decide (a5.ID ≥ 24)) (
doneA (false)) (
brr (decide ((L a5.Label : Int) > 64)) (
doneA (false)) (
cont (a5.ID, (IntKind.i64.wrap (v4 + 1))))))) (
doneB ())

noncomputable def f39 (p1 : List Named) : Pg Bool :=
loop2 (((-1) : Int), (0 : Int)) (fun s6 => f39.l1 p1 s6.1 s6.2) (fun s6 => ([(3, V s6.1), (6, V p1), (7, V (L p1 : Int)), (8, V s6.2)], [])) .inl (fun r7 =>
.ret r7) (.cut (.ext 0) fun _ => ([], [])) fun _ =>
.ret (true)

theorem f39.ok (p1 : List Named) {x} (h : (f39 p1).run = some x) : Spec Try.prog 39 [V p1] [] (V x) [] :=
  Prg.ok Try.func39 (res := fun x => V x) (outs := fun x => []) (by kernel_rfl) (by kernel_rfl) rfl h

noncomputable def f28v1.l1 (p2 : List Edge) (p3 : Int) (v10 : Int) (l11 : List Edge) : Pg (Nx (Int × (List Edge)) (Ex (List Edge) Empty Empty)) :=
brr (decide (v10 < (L p2 : Int))) (
getR p2 v10 fun a12 =>
join1 (.reg 4) (
brr (a12.From == p3) (
retA' true) (
retA' (a12.To == p3))) (.cut .nat fun x13 => ([(1, V p3), (4, H Edge 101), (6, R 103), (8, V p2), (9, V (L p2 : Int)), (10, V v10), (23, V x13)], [(101, O l11), (103, B a12)])) fun x13 =>
brr x13 (
ap l11 ([a12] : List Edge) fun l14 =>
cont ((IntKind.i64.wrap (v10 + 1)), l14)) (
cont ((IntKind.i64.wrap (v10 + 1)), l11))) (
doneA l11)

noncomputable def f28v1 (p1 : List Vertex) (p2 : List Edge) (p3 : Int) : Pg (List Edge) :=
loop1 ((0 : Int), ([] : List Edge)) (fun s15 => f28v1.l1 p2 p3 s15.1 s15.2) (fun s15 => ([(1, V p3), (4, H Edge 501), (8, V p2), (9, V (L p2 : Int)), (10, V s15.1)], [(501, O s15.2)])) (.cut (.ext 0) fun x16 => ([(4, H Edge 101)], [(101, O x16)])) fun x16 =>
.ret (x16)

theorem f28v1.ok (p1 : List Vertex) (p2 : List Edge) (p3 : Int) {x} (h : (f28v1 p1 p2 p3).run = some x) : Spec Try.prog 28 [.aggp [.sl (p1.map Cel.enc), .sl (p2.map Cel.enc), .nilsl], V p3] [] (V x) [] :=
  Prg.ok Try.func28 (res := fun x => V x) (outs := fun x => []) (by kernel_rfl) (by kernel_rfl) rfl h

noncomputable def f66 (p1 : Edge) (p2 : Int) : Pg Int :=
brr (p2 == p1.From) (
.ret (p1.To)) (
brr (p2 == p1.To) (
.ret (p1.From)) (
.ret (((-1) : Int))))

theorem f66.ok (p1 : Edge) (p2 : Int) {x} (h : (f66 p1 p2).run = some x) : Spec Try.prog 66 [V p1, V p2] [] (V x) [] :=
  Prg.ok Try.func66 (res := fun x => V x) (outs := fun x => []) (by kernel_rfl) (by kernel_rfl) rfl h

noncomputable def f99 (p1 : Int) : Pg Int :=
join1 (.cond 4) (
brr (decide (p1 ≥ 4294967296)) (
retA' ((p1.fdiv (2 ^ (min (32 : Int).toNat IntKind.u64.bits))), (32 : Int))) (
retA' (p1, (0 : Int)))) (.cut .nat fun x2 => ([(0, .pv (.int .u64 x2.1)), (2, V x2.2)], [])) fun x2 =>
join1 (.cond 8) (
brr (decide (x2.1 ≥ 65536)) (
retA' ((x2.1.fdiv (2 ^ (min (16 : Int).toNat IntKind.u64.bits))), (IntKind.i64.wrap (x2.2 + 16)))) (
retA' (x2.1, x2.2))) (.cut .nat fun x3 => ([(0, .pv (.int .u64 x3.1)), (2, V x3.2)], [])) fun x3 =>
brr (decide (x3.1 ≥ 256)) (
sget str1 (IntKind.u8.wrap (x3.1.fdiv (2 ^ (min (8 : Int).toNat IntKind.u64.bits)))) fun n4 =>
.ret ((IntKind.i64.wrap ((IntKind.i64.wrap (x3.2 + 8)) + (IntKind.i64.wrap n4))))) (
sget str1 (IntKind.u8.wrap x3.1) fun n5 =>
.ret ((IntKind.i64.wrap (x3.2 + (IntKind.i64.wrap n5)))))

theorem f99.ok (p1 : Int) {x} (h : (f99 p1).run = some x) : Spec Try.prog 99 [.pv (.int .u64 p1)] [] (V x) [] :=
  Prg.ok Try.func99 (res := fun x => V x) (outs := fun x => []) (by kernel_rfl) (by kernel_rfl) rfl h

noncomputable def f84 (p1 : Int) : Pg Int :=
cl (f99.ok p1) fun y2 =>
.ret (y2)

theorem f84.ok (p1 : Int) {x} (h : (f84 p1).run = some x) : Spec Try.prog 84 [.pv (.int .u64 p1)] [] (V x) [] :=
  Prg.ok Try.func84 (res := fun x => V x) (outs := fun x => []) (by kernel_rfl) (by kernel_rfl) rfl h

noncomputable def f95 (p1 p2 : Int) : Pg Bool :=
cl (f64.ok p1) fun _ =>
brr (p1 != p1) (
cl (f64.ok p2) fun _ =>
.ret (((!(p2 != p2)) || (decide (p1 < p2))))) (
.ret ((decide (p1 < p2))))

theorem f95.ok (p1 p2 : Int) {x} (h : (f95 p1 p2).run = some x) : Spec Try.prog 95 [V p1, V p2] [] (V x) [] :=
  Prg.ok Try.func95 (res := fun x => V x) (outs := fun x => []) (by kernel_rfl) (by kernel_rfl) rfl h

noncomputable def f89v1.l1 (p1 p2 v28 : Int) (v40 : Int) (l41 : List Int) : Pg (Nx (Int × (List Int)) (Ex (List Int) Empty Empty)) :=
join1 (.reg 4) (
brr (decide (v40 > p1)) (
ck v40 (L l41) <|
rd l41 (at0 v40) fun a42 =>
ck (IntKind.i64.wrap (v40 - 1)) (L l41) <|
rd l41 (at0 (IntKind.i64.wrap (v40 - 1))) fun a43 =>
cl (f95.ok a42 a43) fun y44 =>
retA' y44) (
retA' false)) (.cut .nat fun x45 => ([(0, H Int 0), (1, V p1), (2, V p2), (6, V v28), (7, V v40), (30, V x45)], [(0, O l41)])) fun x45 =>
brr x45 (
ck (IntKind.i64.wrap (v40 - 1)) (L l41) <|
rd l41 (at0 (IntKind.i64.wrap (v40 - 1))) fun a46 =>
ck v40 (L l41) <|
rd l41 (at0 v40) fun a47 =>
ck v40 (L l41) <|
st l41 (at0 v40) (fun x48 => a46) fun l49 =>
ck (IntKind.i64.wrap (v40 - 1)) (L l49) <|
st l49 (at0 (IntKind.i64.wrap (v40 - 1))) (fun x50 => a47) fun l51 =>
cont ((IntKind.i64.wrap (v40 - 1)), l51)) (
doneA l41)

noncomputable def f89v1.l2 (p1 p2 : Int) (v28 : Int) (l29 : List Int) : Pg (Nx (Int × (List Int)) (Ex (List Int) Empty Empty)) :=
brr (decide (v28 < p2)) (
loop1 (v28, l29) (fun s52 => f89v1.l1 p1 p2 v28 s52.1 s52.2) (fun s52 => ([(0, H Int 0), (1, V p1), (2, V p2), (6, V v28), (7, V s52.1)], [(0, O s52.2)])) (.cut (.ext 2) fun x53 => ([(0, H Int 0), (1, V p1), (2, V p2), (6, V v28)], [(0, O x53)])) fun x53 =>
cont ((IntKind.i64.wrap (v28 + 1)), x53)) (
doneA (l29))

noncomputable def f89v1 (p1 p2 : Int) (p3 : List Int) : Pg (List Int) :=
loop1 ((IntKind.i64.wrap (p1 + 1)), p3) (fun s54 => f89v1.l2 p1 p2 s54.1 s54.2) (fun s54 => ([(0, H Int 0), (1, V p1), (2, V p2), (6, V s54.1)], [(0, O s54.2)])) .inl fun r55 =>
.ret r55

theorem f89v1.ok (p1 p2 : Int) (p3 : List Int) {x} (h : (f89v1 p1 p2 p3).run = some x) : Spec Try.prog 89 [H Int 0, V p1, V p2] [O p3] (.tup []) [O x] :=
  Prg.ok Try.func89 (res := fun x => .tup []) (outs := fun x => [O x]) (by kernel_rfl) (by kernel_rfl) rfl h

noncomputable def f101.l1 (p2 p3 : Int) (v20 : Int) (l21 : List Int) : Pg (Nx (Int × (List Int)) (Ex (List Int) Empty Empty)) :=
brr (decide ((IntKind.i64.wrap ((IntKind.i64.wrap (2 * v20)) + 1)) ≥ p2)) (
doneA (l21)) (
join1 (.reg 3) (
brr (decide ((IntKind.i64.wrap ((IntKind.i64.wrap ((IntKind.i64.wrap (2 * v20)) + 1)) + 1)) < p2)) (
ck (IntKind.i64.wrap (p3 + (IntKind.i64.wrap ((IntKind.i64.wrap (2 * v20)) + 1)))) (L l21) <|
rd l21 (at0 (IntKind.i64.wrap (p3 + (IntKind.i64.wrap ((IntKind.i64.wrap (2 * v20)) + 1))))) fun a22 =>
let e23 : Int := (IntKind.i64.wrap ((IntKind.i64.wrap (p3 + (IntKind.i64.wrap ((IntKind.i64.wrap (2 * v20)) + 1)))) + 1))
ck e23 (L l21) <|
rd l21 (at0 e23) fun a24 =>
cl (f95.ok a22 a24) fun y25 =>
retA' y25) (
retA' false)) (.cut .nat fun x26 => ([(0, H Int 0), (2, V p2), (3, V p3), (8, V v20), (9, V (IntKind.i64.wrap ((IntKind.i64.wrap (2 * v20)) + 1))), (36, V x26)], [(0, O l21)])) fun x26 =>
join1 (.cond 36) (
brr x26 (
retA' (IntKind.i64.wrap ((IntKind.i64.wrap ((IntKind.i64.wrap (2 * v20)) + 1)) + 1))) (
retA' (IntKind.i64.wrap ((IntKind.i64.wrap (2 * v20)) + 1)))) (.cut .nat fun x27 => ([(0, H Int 0), (2, V p2), (3, V p3), (8, V v20), (9, V x27)], [(0, O l21)])) fun x27 =>
ck (IntKind.i64.wrap (p3 + v20)) (L l21) <|
rd l21 (at0 (IntKind.i64.wrap (p3 + v20))) fun a28 =>
ck (IntKind.i64.wrap (p3 + x27)) (L l21) <|
rd l21 (at0 (IntKind.i64.wrap (p3 + x27))) fun a29 =>
cl (f95.ok a28 a29) fun y30 =>
brr (!y30) (
doneA (l21)) (
ck (IntKind.i64.wrap (p3 + x27)) (L l21) <|
rd l21 (at0 (IntKind.i64.wrap (p3 + x27))) fun a31 =>
ck (IntKind.i64.wrap (p3 + v20)) (L l21) <|
rd l21 (at0 (IntKind.i64.wrap (p3 + v20))) fun a32 =>
ck (IntKind.i64.wrap (p3 + v20)) (L l21) <|
st l21 (at0 (IntKind.i64.wrap (p3 + v20))) (fun x33 => a31) fun l34 =>
ck (IntKind.i64.wrap (p3 + x27)) (L l34) <|
st l34 (at0 (IntKind.i64.wrap (p3 + x27))) (fun x35 => a32) fun l36 =>
cont (x27, l36)))

noncomputable def f101 (p1 p2 p3 : Int) (p4 : List Int) : Pg (List Int) :=
loop1 (p1, p4) (fun s37 => f101.l1 p2 p3 s37.1 s37.2) (fun s37 => ([(0, H Int 0), (2, V p2), (3, V p3), (8, V s37.1)], [(0, O s37.2)])) .inl fun r38 =>
.ret r38

theorem f101.ok (p1 p2 p3 : Int) (p4 : List Int) {x} (h : (f101 p1 p2 p3 p4).run = some x) : Spec Try.prog 101 [H Int 0, V p1, V p2, V p3] [O p4] (.tup []) [O x] :=
  Prg.ok Try.func101 (res := fun x => .tup []) (outs := fun x => [O x]) (by kernel_rfl) (by kernel_rfl) rfl h

noncomputable def f90.l2 (p1 : Int) (v18 : Int) (l19 : List Int) : Pg (Nx (Int × (List Int)) (Ex (List Int) Empty Empty)) :=
brr (decide (v18 ≥ 0)) (
ck (IntKind.i64.wrap (p1 + v18)) (L l19) <|
rd l19 (at0 (IntKind.i64.wrap (p1 + v18))) fun a20 =>
ck p1 (L l19) <|
rd l19 (at0 p1) fun a21 =>
ck p1 (L l19) <|
st l19 (at0 p1) (fun x22 => a20) fun l23 =>
ck (IntKind.i64.wrap (p1 + v18)) (L l23) <|
st l23 (at0 (IntKind.i64.wrap (p1 + v18))) (fun x24 => a21) fun l25 =>
cl (f101.ok (0 : Int) v18 p1 l25) fun y26 =>
cont ((IntKind.i64.wrap (v18 - 1)), y26)) (
doneA (l19))

noncomputable def f90.l1 (p1 p2 : Int) (v6 : Int) (l7 : List Int) : Pg (Nx (Int × (List Int)) (Ex (List Int) Empty Empty)) :=
brr (decide (v6 ≥ 0)) (
cl (f101.ok v6 (IntKind.i64.wrap (p2 - p1)) p1 l7) fun y8 =>
cont ((IntKind.i64.wrap (v6 - 1)), y8)) (
doneA l7)

noncomputable def f90 (p1 p2 : Int) (p3 : List Int) : Pg (List Int) :=
loop1 ((IntKind.i64.wrap ((IntKind.i64.wrap ((IntKind.i64.wrap (p2 - p1)) - 1)).tdiv 2)), p3) (fun s9 => f90.l1 p1 p2 s9.1 s9.2) (fun s9 => ([(0, H Int 0), (6, V p1), (7, V (0 : Int)), (8, V (IntKind.i64.wrap (p2 - p1))), (9, V s9.1)], [(0, O s9.2)])) (.cut (.ext 0) fun x10 => ([(0, H Int 0), (6, V p1), (7, V (0 : Int)), (8, V (IntKind.i64.wrap (p2 - p1)))], [(0, O x10)])) fun x10 =>
loop1 ((IntKind.i64.wrap ((IntKind.i64.wrap (p2 - p1)) - 1)), x10) (fun s27 => f90.l2 p1 s27.1 s27.2) (fun s27 => ([(0, H Int 0), (6, V p1), (7, V (0 : Int)), (10, V s27.1)], [(0, O s27.2)])) .inl fun r28 =>
.ret r28

theorem f90.ok (p1 p2 : Int) (p3 : List Int) {x} (h : (f90 p1 p2 p3).run = some x) : Spec Try.prog 90 [H Int 0, V p1, V p2] [O p3] (.tup []) [O x] :=
  Prg.ok Try.func90 (res := fun x => .tup []) (outs := fun x => [O x]) (by kernel_rfl) (by kernel_rfl) rfl h

noncomputable def f102 (p1 : Int) : Pg Int :=
cl (f84.ok (IntKind.u64.wrap p1)) fun y2 =>
nnS y2 <|
.ret ((IntKind.u64.wrap (1 * (2 ^ (min (y2 : Int).toNat IntKind.u64.bits)))))

theorem f102.ok (p1 : Int) {x} (h : (f102 p1).run = some x) : Spec Try.prog 102 [V p1] [] (.pv (.int .u64 x)) [] :=
  Prg.ok Try.func102 (res := fun x => .pv (.int .u64 x)) (outs := fun x => []) (by kernel_rfl) (by kernel_rfl) rfl h

noncomputable def f103 (p1 : Int) : Pg (Int × Int) :=
let e2 : Int := ((xorI .u64 p1 (IntKind.u64.wrap (p1 * (2 ^ (min (13 : Int).toNat IntKind.u64.bits))))).fdiv (2 ^ (min (7 : Int).toNat IntKind.u64.bits)))
let e3 : Int := (xorI .u64 (xorI .u64 p1 (IntKind.u64.wrap (p1 * (2 ^ (min (13 : Int).toNat IntKind.u64.bits))))) e2)
.ret (((xorI .u64 e3 (IntKind.u64.wrap (e3 * (2 ^ (min (17 : Int).toNat IntKind.u64.bits))))), (xorI .u64 e3 (IntKind.u64.wrap (e3 * (2 ^ (min (17 : Int).toNat IntKind.u64.bits)))))))

theorem f103.ok (p1 : Int) {x} (h : (f103 p1).run = some x) : Spec Try.prog 103 [R 0] [mkVar (.pv (.int .u64 p1))] (.pv (.int .u64 x.1)) [mkVar (.pv (.int .u64 x.2))] :=
  Prg.ok Try.func103 (res := fun x => .pv (.int .u64 x.1)) (outs := fun x => [mkVar (.pv (.int .u64 x.2))]) (by kernel_rfl) (by kernel_rfl) rfl h

noncomputable def f91.l1 (p1 p2 y4 : Int) (v17 : Int) (l18 : List Int) (l19 : Int) : Pg (Nx (Int × (List Int) × Int) (Ex (List Int) Empty Empty)) :=
let e20 : Int := (IntKind.i64.wrap (p1 + (IntKind.i64.wrap ((IntKind.i64.wrap ((IntKind.i64.wrap (p2 - p1)).tdiv 4)) * 2))))
brr (decide (v17 ≤ (IntKind.i64.wrap (e20 + 1)))) (
cl (f103.ok l19) fun y21 =>
let e22 : Bool := (decide ((IntKind.i64.wrap (andI .u64 y21.1 (IntKind.u64.wrap (y4 - 1)))) ≥ (IntKind.i64.wrap (p2 - p1))))
join1 (.cond 43) (
brr e22 (
let e23 : Int := (IntKind.i64.wrap ((IntKind.i64.wrap (andI .u64 y21.1 (IntKind.u64.wrap (y4 - 1)))) - (IntKind.i64.wrap (p2 - p1))))
retA' e23) (
retA' (IntKind.i64.wrap (andI .u64 y21.1 (IntKind.u64.wrap (y4 - 1)))))) (.cut .nat fun x24 => ([(0, H Int 0), (1, V p1), (6, V (IntKind.i64.wrap (p2 - p1))), (7, R 101), (8, .pv (.int .u64 y4)), (9, V v17), (10, V x24)], [(0, O l18), (101, mkVar (.pv (.int .u64 y21.2)))])) fun x24 =>
ck (IntKind.i64.wrap (p1 + x24)) (L l18) <|
rd l18 (at0 (IntKind.i64.wrap (p1 + x24))) fun a25 =>
ck v17 (L l18) <|
rd l18 (at0 v17) fun a26 =>
ck v17 (L l18) <|
st l18 (at0 v17) (fun x27 => a25) fun l28 =>
ck (IntKind.i64.wrap (p1 + x24)) (L l28) <|
st l28 (at0 (IntKind.i64.wrap (p1 + x24))) (fun x29 => a26) fun l30 =>
cont ((IntKind.i64.wrap (v17 + 1)), l30, y21.2)) (
doneA (l18))

noncomputable def f91 (p1 p2 : Int) (p3 : List Int) : Pg (List Int) :=
brr (decide ((IntKind.i64.wrap (p2 - p1)) ≥ 8)) (
cl (f102.ok (IntKind.i64.wrap (p2 - p1))) fun y4 =>
let e5 : Int := (IntKind.i64.wrap (p1 + (IntKind.i64.wrap ((IntKind.i64.wrap ((IntKind.i64.wrap (p2 - p1)).tdiv 4)) * 2))))
loop1 ((IntKind.i64.wrap (e5 - 1)), p3, (IntKind.u64.wrap (IntKind.i64.wrap (p2 - p1)))) (fun s31 => f91.l1 p1 p2 y4 s31.1 s31.2.1 s31.2.2) (fun s31 => ([(0, H Int 0), (1, V p1), (6, V (IntKind.i64.wrap (p2 - p1))), (7, R 101), (8, .pv (.int .u64 y4)), (9, V s31.1)], [(0, O s31.2.1), (101, mkVar (.pv (.int .u64 s31.2.2)))])) .inl fun r32 =>
.ret r32) (
.ret (p3))

theorem f91.ok (p1 p2 : Int) (p3 : List Int) {x} (h : (f91 p1 p2 p3).run = some x) : Spec Try.prog 91 [H Int 0, V p1, V p2] [O p3] (.tup []) [O x] :=
  Prg.ok Try.func91 (res := fun x => .tup []) (outs := fun x => [O x]) (by kernel_rfl) (by kernel_rfl) rfl h

noncomputable def f106 (p1 p2 : Int) (p3 : List Int) (p4 : Int) : Pg (Int × Int × Int) :=
ck p2 (L p3) <|
rd p3 (at0 p2) fun a5 =>
ck p1 (L p3) <|
rd p3 (at0 p1) fun a6 =>
cl (f95.ok a5 a6) fun y7 =>
brr y7 (
.ret ((p2, p1, (IntKind.i64.wrap (p4 + 1))))) (
.ret ((p1, p2, p4)))

theorem f106.ok (p1 p2 : Int) (p3 : List Int) (p4 : Int) {x} (h : (f106 p1 p2 p3 p4).run = some x) : Spec Try.prog 106 [H Int 0, V p1, V p2, R 2] [O p3, B p4] (.tup [V x.1, V x.2.1]) [O p3, B x.2.2] :=
  Prg.ok Try.func106 (res := fun x => .tup [V x.1, V x.2.1]) (outs := fun x => [O p3, B x.2.2]) (by kernel_rfl) (by kernel_rfl) rfl h

noncomputable def f105 (p1 p2 p3 : Int) (p4 : List Int) (p5 : Int) : Pg (Int × Int) :=
cl (f106.ok p1 p2 p4 p5) fun y6 =>
cl (f106.ok y6.2.1 p3 p4 y6.2.2) fun y7 =>
cl (f106.ok y6.1 y7.1 p4 y7.2.2) fun y8 =>
.ret ((y8.2.1, y8.2.2))

theorem f105.ok (p1 p2 p3 : Int) (p4 : List Int) (p5 : Int) {x} (h : (f105 p1 p2 p3 p4 p5).run = some x) : Spec Try.prog 105 [H Int 0, V p1, V p2, V p3, R 2] [O p4, B p5] (V x.1) [O p4, B x.2] :=
  Prg.ok Try.func105 (res := fun x => V x.1) (outs := fun x => [O p4, B x.2]) (by kernel_rfl) (by kernel_rfl) rfl h

noncomputable def f104 (p1 : Int) (p2 : List Int) (p3 : Int) : Pg (Int × Int) :=
cl (f105.ok (IntKind.i64.wrap (p1 - 1)) p1 (IntKind.i64.wrap (p1 + 1)) p2 p3) fun y4 =>
.ret ((y4.1, y4.2))

theorem f104.ok (p1 : Int) (p2 : List Int) (p3 : Int) {x} (h : (f104 p1 p2 p3).run = some x) : Spec Try.prog 104 [H Int 0, V p1, R 2] [O p2, B p3] (V x.1) [O p2, B x.2] :=
  Prg.ok Try.func104 (res := fun x => V x.1) (outs := fun x => [O p2, B x.2]) (by kernel_rfl) (by kernel_rfl) rfl h

noncomputable def f92 (p1 p2 : Int) (p3 : List Int) : Pg (Int × Int) :=
let e4 : Int := (IntKind.i64.wrap (p1 + (IntKind.i64.wrap ((IntKind.i64.wrap ((IntKind.i64.wrap (p2 - p1)).tdiv 4)) * 1))))
let e5 : Int := (IntKind.i64.wrap (p1 + (IntKind.i64.wrap ((IntKind.i64.wrap ((IntKind.i64.wrap (p2 - p1)).tdiv 4)) * 2))))
let e6 : Int := (IntKind.i64.wrap (p1 + (IntKind.i64.wrap ((IntKind.i64.wrap ((IntKind.i64.wrap (p2 - p1)).tdiv 4)) * 3))))
join1 (.cond 32) (
brr (decide ((IntKind.i64.wrap (p2 - p1)) ≥ 8)) (
join1 (.cond 34) (
brr (decide ((IntKind.i64.wrap (p2 - p1)) ≥ 50)) (
cl (f104.ok e4 p3 (0 : Int)) fun y7 =>
cl (f104.ok e5 p3 y7.2) fun y8 =>
cl (f104.ok e6 p3 y8.2) fun y9 =>
retA' (y7.1, y8.1, y9.1, y9.2)) (
retA' (e4, e5, e6, (0 : Int)))) (.cut .nat fun x10 => ([(0, H Int 0), (9, R 101), (10, V x10.1), (11, V x10.2.1), (12, V x10.2.2.1)], [(0, O p3), (101, B x10.2.2.2)])) fun x10 =>
cl (f105.ok x10.1 x10.2.1 x10.2.2.1 p3 x10.2.2.2) fun y11 =>
retA' (y11.1, y11.2)) (
retA' (e5, (0 : Int)))) (.cut .nat fun x12 => ([(9, R 101), (11, V x12.1)], [(0, O p3), (101, B x12.2)])) fun x12 =>
brr (x12.2 == 0) (
.ret ((x12.1, (1 : Int)))) (
brr (x12.2 == 12) (
.ret ((x12.1, (2 : Int)))) (
.ret ((x12.1, (0 : Int)))))

theorem f92.ok (p1 p2 : Int) (p3 : List Int) {x} (h : (f92 p1 p2 p3).run = some x) : Spec Try.prog 92 [H Int 0, V p1, V p2] [O p3] (.tup [V x.1, V x.2]) [O p3] :=
  Prg.ok Try.func92 (res := fun x => .tup [V x.1, V x.2]) (outs := fun x => [O p3]) (by kernel_rfl) (by kernel_rfl) rfl h

noncomputable def f93.l1 (v10 v11 : Int) (l12 : List Int) : Pg (Nx (Int × Int × (List Int)) (Ex (List Int) Empty Empty)) :=
brr (decide (v10 < v11)) (
ck v11 (L l12) <|
rd l12 (at0 v11) fun a13 =>
ck v10 (L l12) <|
rd l12 (at0 v10) fun a14 =>
ck v10 (L l12) <|
st l12 (at0 v10) (fun x15 => a13) fun l16 =>
ck v11 (L l16) <|
st l16 (at0 v11) (fun x17 => a14) fun l18 =>
cont ((IntKind.i64.wrap (v10 + 1)), (IntKind.i64.wrap (v11 - 1)), l18)) (
doneA (l12))

noncomputable def f93 (p1 p2 : Int) (p3 : List Int) : Pg (List Int) :=
loop1 (p1, (IntKind.i64.wrap (p2 - 1)), p3) (fun s19 => f93.l1 s19.1 s19.2.1 s19.2.2) (fun s19 => ([(0, H Int 0), (6, V s19.1), (7, V s19.2.1)], [(0, O s19.2.2)])) .inl fun r20 =>
.ret r20

theorem f93.ok (p1 p2 : Int) (p3 : List Int) {x} (h : (f93 p1 p2 p3).run = some x) : Spec Try.prog 93 [H Int 0, V p1, V p2] [O p3] (.tup []) [O x] :=
  Prg.ok Try.func93 (res := fun x => .tup []) (outs := fun x => [O x]) (by kernel_rfl) (by kernel_rfl) rfl h

noncomputable def f94.l2 (v91 : Int) (l92 : List Int) : Pg (Nx (Int × (List Int)) (Ex (List Int) Empty Empty)) :=
brr (decide (v91 ≥ 1)) (
ck v91 (L l92) <|
rd l92 (at0 v91) fun a93 =>
ck (IntKind.i64.wrap (v91 - 1)) (L l92) <|
rd l92 (at0 (IntKind.i64.wrap (v91 - 1))) fun a94 =>
cl (f95.ok a93 a94) fun y95 =>
brr (!y95) (
doneA l92) (
ck (IntKind.i64.wrap (v91 - 1)) (L l92) <|
rd l92 (at0 (IntKind.i64.wrap (v91 - 1))) fun a96 =>
ck v91 (L l92) <|
rd l92 (at0 v91) fun a97 =>
ck v91 (L l92) <|
st l92 (at0 v91) (fun x98 => a96) fun l99 =>
ck (IntKind.i64.wrap (v91 - 1)) (L l99) <|
st l99 (at0 (IntKind.i64.wrap (v91 - 1))) (fun x100 => a97) fun l101 =>
cont ((IntKind.i64.wrap (v91 - 1)), l101))) (
doneA l92)

noncomputable def f94.l3 (p2 : Int) (v114 : Int) (l115 : List Int) : Pg (Nx (Int × (List Int)) (Ex (List Int) Empty Empty)) :=
brr (decide (v114 < p2)) (
ck v114 (L l115) <|
rd l115 (at0 v114) fun a116 =>
ck (IntKind.i64.wrap (v114 - 1)) (L l115) <|
rd l115 (at0 (IntKind.i64.wrap (v114 - 1))) fun a117 =>
cl (f95.ok a116 a117) fun y118 =>
brr (!y118) (
doneA l115) (
ck (IntKind.i64.wrap (v114 - 1)) (L l115) <|
rd l115 (at0 (IntKind.i64.wrap (v114 - 1))) fun a119 =>
ck v114 (L l115) <|
rd l115 (at0 v114) fun a120 =>
ck v114 (L l115) <|
st l115 (at0 v114) (fun x121 => a119) fun l122 =>
ck (IntKind.i64.wrap (v114 - 1)) (L l122) <|
st l122 (at0 (IntKind.i64.wrap (v114 - 1))) (fun x123 => a120) fun l124 =>
cont ((IntKind.i64.wrap (v114 + 1)), l124))) (
doneA l115)

noncomputable def f94.l1 (p2 : Int) (l66 : List Int) (v70 : Int) : Pg (Nx Int (Ex Int Empty Empty)) :=
brr (decide (v70 < p2)) (
ck v70 (L l66) <|
rd l66 (at0 v70) fun a71 =>
ck (IntKind.i64.wrap (v70 - 1)) (L l66) <|
rd l66 (at0 (IntKind.i64.wrap (v70 - 1))) fun a72 =>
cl (f95.ok a71 a72) fun y73 =>
brr (!y73) (
cont (IntKind.i64.wrap (v70 + 1))) (
doneA v70)) (
doneA v70)

noncomputable def f94.l4 (p1 p2 : Int) (v64 v65 : Int) (l66 : List Int) : Pg (Nx (Int × Int × (List Int)) (Ex (Bool × (List Int)) (List Int) Empty)) :=
brr (decide (v65 < 5)) (
loop1 v64 (fun s74 => f94.l1 p2 l66 s74) (fun s74 => ([(0, H Int 0), (1, V p1), (2, V p2), (7, V s74), (8, V v65)], [(0, O l66)])) (.cut (.ext 2) fun x75 => ([(0, H Int 0), (1, V p1), (2, V p2), (7, V x75), (8, V v65)], [(0, O l66)])) fun x75 =>
brr (x75 == p2) (
doneA ((true, l66))) (
brr (decide ((IntKind.i64.wrap (p2 - p1)) < 50)) (
doneA ((false, l66))) (
ck (IntKind.i64.wrap (x75 - 1)) (L l66) <|
rd l66 (at0 (IntKind.i64.wrap (x75 - 1))) fun a76 =>
ck x75 (L l66) <|
rd l66 (at0 x75) fun a77 =>
ck x75 (L l66) <|
st l66 (at0 x75) (fun x78 => a76) fun l79 =>
ck (IntKind.i64.wrap (x75 - 1)) (L l79) <|
st l79 (at0 (IntKind.i64.wrap (x75 - 1))) (fun x80 => a77) fun l81 =>
join1 (.cond 61) (
brr (decide ((IntKind.i64.wrap (x75 - p1)) ≥ 2)) (
loop1 ((IntKind.i64.wrap (x75 - 1)), l81) (fun s102 => f94.l2 s102.1 s102.2) (fun s102 => ([(0, H Int 0), (1, V p1), (2, V p2), (7, V x75), (8, V v65), (9, V s102.1)], [(0, O s102.2)])) (.cut (.ext 4) fun x103 => ([(0, H Int 0), (1, V p1), (2, V p2), (7, V x75), (8, V v65)], [(0, O x103)])) fun x103 =>
retA' x103) (
retA' l81)) (.cut .nat fun x104 => ([(0, H Int 0), (1, V p1), (2, V p2), (7, V x75), (8, V v65)], [(0, O x104)])) fun x104 =>
brr (decide ((IntKind.i64.wrap (p2 - x75)) ≥ 2)) (
loop1 ((IntKind.i64.wrap (x75 + 1)), x104) (fun s125 => f94.l3 p2 s125.1 s125.2) (fun s125 => ([(0, H Int 0), (1, V p1), (2, V p2), (7, V x75), (8, V v65), (10, V s125.1)], [(0, O s125.2)])) (.cut (.ext 6) fun x126 => ([(0, H Int 0), (1, V p1), (2, V p2), (7, V x75), (8, V v65)], [(0, O x126)])) fun x126 =>
cont (x75, (IntKind.i64.wrap (v65 + 1)), x126)) (
cont (x75, (IntKind.i64.wrap (v65 + 1)), x104))))) (
doneB l66)

noncomputable def f94 (p1 p2 : Int) (p3 : List Int) : Pg (Bool × (List Int)) :=
loop2 ((IntKind.i64.wrap (p1 + 1)), (0 : Int), p3) (fun s127 => f94.l4 p1 p2 s127.1 s127.2.1 s127.2.2) (fun s127 => ([(0, H Int 0), (1, V p1), (2, V p2), (7, V s127.1), (8, V s127.2.1)], [(0, O s127.2.2)])) .inl (fun r128 =>
.ret r128) (.cut (.ext 0) fun x129 => ([], [(0, O x129)])) fun x129 =>
.ret ((false, x129))

theorem f94.ok (p1 p2 : Int) (p3 : List Int) {x} (h : (f94 p1 p2 p3).run = some x) : Spec Try.prog 94 [H Int 0, V p1, V p2] [O p3] (V x.1) [O x.2] :=
  Prg.ok Try.func94 (res := fun x => V x.1) (outs := fun x => [O x.2]) (by kernel_rfl) (by kernel_rfl) rfl h

noncomputable def f96.l2 (p1 : Int) (l37 : List Int) (x46 : Int) (v50 : Int) : Pg (Nx Int (Ex Int Empty Empty)) :=
brr (decide (x46 ≤ v50)) (
ck p1 (L l37) <|
rd l37 (at0 p1) fun a51 =>
ck v50 (L l37) <|
rd l37 (at0 v50) fun a52 =>
cl (f95.ok a51 a52) fun y53 =>
brr y53 (
cont (IntKind.i64.wrap (v50 - 1))) (
doneA v50)) (
doneA v50)

noncomputable def f96.l1 (p1 v36 : Int) (l37 : List Int) (v41 : Int) : Pg (Nx Int (Ex Int Empty Empty)) :=
brr (decide (v41 ≤ v36)) (
ck p1 (L l37) <|
rd l37 (at0 p1) fun a42 =>
ck v41 (L l37) <|
rd l37 (at0 v41) fun a43 =>
cl (f95.ok a42 a43) fun y44 =>
brr (!y44) (
cont (IntKind.i64.wrap (v41 + 1))) (
doneA v41)) (
doneA v41)

noncomputable def f96.l3 (p1 : Int) (v35 v36 : Int) (l37 : List Int) : Pg (Nx (Int × Int × (List Int)) (Ex (Int × (List Int)) Empty Empty)) :=
loop1 v35 (fun s45 => f96.l1 p1 v36 l37 s45) (fun s45 => ([(0, H Int 0), (1, V p1), (9, V s45), (10, V v36)], [(0, O l37)])) (.cut (.ext 2) fun x46 => ([(0, H Int 0), (1, V p1), (9, V x46), (10, V v36)], [(0, O l37)])) fun x46 =>
loop1 v36 (fun s54 => f96.l2 p1 l37 x46 s54) (fun s54 => ([(0, H Int 0), (1, V p1), (9, V x46), (10, V s54)], [(0, O l37)])) (.cut (.ext 4) fun x55 => ([(0, H Int 0), (1, V p1), (9, V x46), (10, V x55)], [(0, O l37)])) fun x55 =>
brr (decide (x46 > x55)) (
doneA (x46, l37)) (
ck x55 (L l37) <|
rd l37 (at0 x55) fun a56 =>
ck x46 (L l37) <|
rd l37 (at0 x46) fun a57 =>
ck x46 (L l37) <|
st l37 (at0 x46) (fun x58 => a56) fun l59 =>
ck x55 (L l59) <|
st l59 (at0 x55) (fun x60 => a57) fun l61 =>
cont ((IntKind.i64.wrap (x46 + 1)), (IntKind.i64.wrap (x55 - 1)), l61))

noncomputable def f96 (p1 p2 p3 : Int) (p4 : List Int) : Pg (Int × (List Int)) :=
ck p3 (L p4) <|
rd p4 (at0 p3) fun a5 =>
ck p1 (L p4) <|
rd p4 (at0 p1) fun a6 =>
ck p1 (L p4) <|
st p4 (at0 p1) (fun x7 => a5) fun l8 =>
ck p3 (L l8) <|
st l8 (at0 p3) (fun x9 => a6) fun l10 =>
loop1 ((IntKind.i64.wrap (p1 + 1)), (IntKind.i64.wrap (p2 - 1)), l10) (fun s62 => f96.l3 p1 s62.1 s62.2.1 s62.2.2) (fun s62 => ([(0, H Int 0), (1, V p1), (9, V s62.1), (10, V s62.2.1)], [(0, O s62.2.2)])) (.cut (.ext 0) fun x63 => ([(9, V x63.1)], [(0, O x63.2)])) fun x63 =>
.ret ((x63.1, x63.2))

theorem f96.ok (p1 p2 p3 : Int) (p4 : List Int) {x} (h : (f96 p1 p2 p3 p4).run = some x) : Spec Try.prog 96 [H Int 0, V p1, V p2, V p3] [O p4] (V x.1) [O x.2] :=
  Prg.ok Try.func96 (res := fun x => V x.1) (outs := fun x => [O x.2]) (by kernel_rfl) (by kernel_rfl) rfl h

noncomputable def f97.l4 (p1 : Int) (l67 : List Int) (x76 : Int) (v80 : Int) : Pg (Nx Int (Ex Int Empty Empty)) :=
brr (decide (x76 ≤ v80)) (
ck v80 (L l67) <|
rd l67 (at0 v80) fun a81 =>
ck p1 (L l67) <|
rd l67 (at0 p1) fun a82 =>
cl (f95.ok a81 a82) fun y83 =>
brr (!y83) (
cont (IntKind.i64.wrap (v80 - 1))) (
doneA v80)) (
doneA v80)

noncomputable def f97.l3 (p1 v66 : Int) (l67 : List Int) (v71 : Int) : Pg (Nx Int (Ex Int Empty Empty)) :=
brr (decide (v71 ≤ v66)) (
ck v71 (L l67) <|
rd l67 (at0 v71) fun a72 =>
ck p1 (L l67) <|
rd l67 (at0 p1) fun a73 =>
cl (f95.ok a72 a73) fun y74 =>
brr y74 (
cont (IntKind.i64.wrap (v71 + 1))) (
doneA v71)) (
doneA v71)

noncomputable def f97.l5 (p1 : Int) (v65 v66 : Int) (l67 : List Int) : Pg (Nx (Int × Int × (List Int)) (Ex (Int × (List Int)) Empty Empty)) :=
loop1 v65 (fun s75 => f97.l3 p1 v66 l67 s75) (fun s75 => ([(0, H Int 0), (1, V p1), (10, V s75), (11, V v66)], [(0, O l67)])) (.cut (.ext 6) fun x76 => ([(0, H Int 0), (1, V p1), (10, V x76), (11, V v66)], [(0, O l67)])) fun x76 =>
loop1 v66 (fun s84 => f97.l4 p1 l67 x76 s84) (fun s84 => ([(0, H Int 0), (1, V p1), (10, V x76), (11, V s84)], [(0, O l67)])) (.cut (.ext 8) fun x85 => ([(0, H Int 0), (1, V p1), (10, V x76), (11, V x85)], [(0, O l67)])) fun x85 =>
brr (decide (x76 > x85)) (
doneA (x85, l67)) (
ck x85 (L l67) <|
rd l67 (at0 x85) fun a86 =>
ck x76 (L l67) <|
rd l67 (at0 x76) fun a87 =>
ck x76 (L l67) <|
st l67 (at0 x76) (fun x88 => a86) fun l89 =>
ck x85 (L l89) <|
st l89 (at0 x85) (fun x90 => a87) fun l91 =>
cont ((IntKind.i64.wrap (x76 + 1)), (IntKind.i64.wrap (x85 - 1)), l91))

noncomputable def f97.l2 (p1 : Int) (l10 : List Int) (x19 : Int) (v23 : Int) : Pg (Nx Int (Ex Int Empty Empty)) :=
brr (decide (x19 ≤ v23)) (
ck v23 (L l10) <|
rd l10 (at0 v23) fun a24 =>
ck p1 (L l10) <|
rd l10 (at0 p1) fun a25 =>
cl (f95.ok a24 a25) fun y26 =>
brr (!y26) (
cont (IntKind.i64.wrap (v23 - 1))) (
doneA v23)) (
doneA v23)

noncomputable def f97.l1 (p1 p2 : Int) (l10 : List Int) (v14 : Int) : Pg (Nx Int (Ex Int Empty Empty)) :=
brr (decide (v14 ≤ (IntKind.i64.wrap (p2 - 1)))) (
ck v14 (L l10) <|
rd l10 (at0 v14) fun a15 =>
ck p1 (L l10) <|
rd l10 (at0 p1) fun a16 =>
cl (f95.ok a15 a16) fun y17 =>
brr y17 (
cont (IntKind.i64.wrap (v14 + 1))) (
doneA v14)) (
doneA v14)

noncomputable def f97 (p1 p2 p3 : Int) (p4 : List Int) : Pg (Int × Bool × (List Int)) :=
ck p3 (L p4) <|
rd p4 (at0 p3) fun a5 =>
ck p1 (L p4) <|
rd p4 (at0 p1) fun a6 =>
ck p1 (L p4) <|
st p4 (at0 p1) (fun x7 => a5) fun l8 =>
ck p3 (L l8) <|
st l8 (at0 p3) (fun x9 => a6) fun l10 =>
loop1 (IntKind.i64.wrap (p1 + 1)) (fun s18 => f97.l1 p1 p2 l10 s18) (fun s18 => ([(0, H Int 0), (1, V p1), (10, V s18), (11, V (IntKind.i64.wrap (p2 - 1)))], [(0, O l10)])) (.cut (.ext 0) fun x19 => ([(0, H Int 0), (1, V p1), (10, V x19), (11, V (IntKind.i64.wrap (p2 - 1)))], [(0, O l10)])) fun x19 =>
loop1 (IntKind.i64.wrap (p2 - 1)) (fun s27 => f97.l2 p1 l10 x19 s27) (fun s27 => ([(0, H Int 0), (1, V p1), (10, V x19), (11, V s27)], [(0, O l10)])) (.cut (.ext 2) fun x28 => ([(0, H Int 0), (1, V p1), (10, V x19), (11, V x28)], [(0, O l10)])) fun x28 =>
brr (decide (x19 > x28)) (
ck p1 (L l10) <|
rd l10 (at0 p1) fun a29 =>
ck x28 (L l10) <|
rd l10 (at0 x28) fun a30 =>
ck x28 (L l10) <|
st l10 (at0 x28) (fun x31 => a29) fun l32 =>
ck p1 (L l32) <|
st l32 (at0 p1) (fun x33 => a30) fun l34 =>
.ret ((x28, true, l34))) (
ck x28 (L l10) <|
rd l10 (at0 x28) fun a35 =>
ck x19 (L l10) <|
rd l10 (at0 x19) fun a36 =>
ck x19 (L l10) <|
st l10 (at0 x19) (fun x37 => a35) fun l38 =>
ck x28 (L l38) <|
st l38 (at0 x28) (fun x39 => a36) fun l40 =>
loop1 ((IntKind.i64.wrap (x19 + 1)), (IntKind.i64.wrap (x28 - 1)), l40) (fun s92 => f97.l5 p1 s92.1 s92.2.1 s92.2.2) (fun s92 => ([(0, H Int 0), (1, V p1), (10, V s92.1), (11, V s92.2.1)], [(0, O s92.2.2)])) (.cut (.ext 4) fun x93 => ([(0, H Int 0), (1, V p1), (11, V x93.1)], [(0, O x93.2)])) fun x93 =>
ck p1 (L x93.2) <|
rd x93.2 (at0 p1) fun a94 =>
ck x93.1 (L x93.2) <|
rd x93.2 (at0 x93.1) fun a95 =>
ck x93.1 (L x93.2) <|
st x93.2 (at0 x93.1) (fun x96 => a94) fun l97 =>
ck p1 (L l97) <|
st l97 (at0 p1) (fun x98 => a95) fun l99 =>
.ret ((x93.1, false, l99)))

theorem f97.ok (p1 p2 p3 : Int) (p4 : List Int) {x} (h : (f97 p1 p2 p3 p4).run = some x) : Spec Try.prog 97 [H Int 0, V p1, V p2, V p3] [O p4] (.tup [V x.1, V x.2.1]) [O x.2.2] :=
  Prg.ok Try.func97 (res := fun x => .tup [V x.1, V x.2.1]) (outs := fun x => [O x.2.2]) (by kernel_rfl) (by kernel_rfl) rfl h

noncomputable def f83v1.l1 (self : Int → Int → Int → (List Int) → Option (List Int)) (hself : ∀ (p1 p2 p3 : Int) (p4 : List Int) {x : List Int}, self p1 p2 p3 p4 = some x → Spec Try.prog 83 [H Int 0, V p1, V p2, V p3] [O p4] (.tup []) [O x]) (v25 v26 v27 : Int) (v28 v29 : Bool) (l30 : List Int) : Pg (Nx (Int × Int × Int × Bool × Bool × (List Int)) (Ex (List Int) Empty Empty)) :=
brr (decide ((IntKind.i64.wrap (v26 - v25)) ≤ 12)) (
cl (f89v1.ok v25 v26 l30) fun y31 =>
doneA (y31)) (
brr (v27 == 0) (
cl (f90.ok v25 v26 l30) fun y32 =>
doneA (y32)) (
join1 (.cond 35) (
brr (!v28) (
cl (f91.ok v25 v26 l30) fun y33 =>
retA' ((IntKind.i64.wrap (v27 - 1)), y33)) (
retA' (v27, l30))) (.cut .nat fun x34 => ([(0, H Int 0), (1, V v25), (2, V v26), (3, V x34.1), (8, V v28), (9, V v29), (10, V (IntKind.i64.wrap (v26 - v25)))], [(0, O x34.2)])) fun x34 =>
cl (f92.ok v25 v26 x34.2) fun y35 =>
join1 (.cond 50) (
brr (y35.2 == 2) (
cl (f93.ok v25 v26 x34.2) fun y36 =>
retA' ((IntKind.i64.wrap ((IntKind.i64.wrap (v26 - 1)) - (IntKind.i64.wrap (y35.1 - v25)))), (1 : Int), y36)) (
retA' (y35.1, y35.2, x34.2))) (.cut .nat fun x37 => ([(0, H Int 0), (1, V v25), (2, V v26), (3, V x34.1), (8, V v28), (9, V v29), (10, V (IntKind.i64.wrap (v26 - v25))), (11, V x37.1), (12, V x37.2.1)], [(0, O x37.2.2)])) fun x37 =>
join2 (.cond 68) (
brr ((v28 && v29) && (x37.2.1 == 1)) (
cl (f94.ok v25 v26 x37.2.2) fun y38 =>
brr y38.1 (
retA' (y38.2)) (
retB' y38.2)) (
retB' x37.2.2)) .inl (fun r39 =>
doneA r39) (.cut .nat fun x40 => ([(0, H Int 0), (1, V v25), (2, V v26), (3, V x34.1), (8, V v28), (9, V v29), (10, V (IntKind.i64.wrap (v26 - v25))), (11, V x37.1)], [(0, O x40)])) fun x40 =>
join1 (.reg 17) (
brr (decide (v25 > 0)) (
ck (IntKind.i64.wrap (v25 - 1)) (L x40) <|
rd x40 (at0 (IntKind.i64.wrap (v25 - 1))) fun a41 =>
ck x37.1 (L x40) <|
rd x40 (at0 x37.1) fun a42 =>
cl (f95.ok a41 a42) fun y43 =>
retA' (!y43)) (
retA' false)) (.cut .nat fun x44 => ([(0, H Int 0), (1, V v25), (2, V v26), (3, V x34.1), (8, V v28), (9, V v29), (10, V (IntKind.i64.wrap (v26 - v25))), (11, V x37.1), (87, V x44)], [(0, O x40)])) fun x44 =>
brr x44 (
cl (f96.ok v25 v26 x37.1 x40) fun y45 =>
cont (y45.1, v26, x34.1, v28, v29, y45.2)) (
cl (f97.ok v25 v26 x37.1 x40) fun y46 =>
brr (decide ((IntKind.i64.wrap (y46.1 - v25)) < (IntKind.i64.wrap (v26 - y46.1)))) (
let e47 : Bool := (decide ((IntKind.i64.wrap (y46.1 - v25)) ≥ (IntKind.i64.wrap ((IntKind.i64.wrap (v26 - v25)).tdiv 8))))
cls (hself v25 y46.1 x34.1 y46.2.2) fun y48 =>
cont ((IntKind.i64.wrap (y46.1 + 1)), v26, x34.1, e47, y46.2.1, y48)) (
let e49 : Bool := (decide ((IntKind.i64.wrap (v26 - y46.1)) ≥ (IntKind.i64.wrap ((IntKind.i64.wrap (v26 - v25)).tdiv 8))))
cls (hself (IntKind.i64.wrap (y46.1 + 1)) v26 x34.1 y46.2.2) fun y50 =>
cont (v25, y46.1, x34.1, e49, y46.2.1, y50)))))

noncomputable def f83v1.body (self : Int → Int → Int → (List Int) → Option (List Int)) (hself : ∀ (p1 p2 p3 : Int) (p4 : List Int) {x : List Int}, self p1 p2 p3 p4 = some x → Spec Try.prog 83 [H Int 0, V p1, V p2, V p3] [O p4] (.tup []) [O x]) (p1 p2 p3 : Int) (p4 : List Int) : Pg (List Int) :=
loop1 (p1, p2, p3, true, true, p4) (fun s51 => f83v1.l1 self hself s51.1 s51.2.1 s51.2.2.1 s51.2.2.2.1 s51.2.2.2.2.1 s51.2.2.2.2.2) (fun s51 => ([(0, H Int 0), (1, V s51.1), (2, V s51.2.1), (3, V s51.2.2.1), (8, V s51.2.2.2.1), (9, V s51.2.2.2.2.1)], [(0, O s51.2.2.2.2.2)])) .inl fun r52 =>
.ret r52

theorem f83v1.body.ok (self : Int → Int → Int → (List Int) → Option (List Int)) (hself : ∀ (p1 p2 p3 : Int) (p4 : List Int) {x : List Int}, self p1 p2 p3 p4 = some x → Spec Try.prog 83 [H Int 0, V p1, V p2, V p3] [O p4] (.tup []) [O x]) (p1 p2 p3 : Int) (p4 : List Int) {x} (h : (f83v1.body self hself p1 p2 p3 p4).run = some x) : Spec Try.prog 83 [H Int 0, V p1, V p2, V p3] [O p4] (.tup []) [O x] :=
  Prg.ok Try.func83 (res := fun x => .tup []) (outs := fun x => [O x]) (by kernel_rfl) (by kernel_rfl) rfl h

noncomputable def f83v1.fuel : Nat → {self : Int → Int → Int → (List Int) → Option (List Int) // ∀ (p1 p2 p3 : Int) (p4 : List Int) {x : List Int}, self p1 p2 p3 p4 = some x → Spec Try.prog 83 [H Int 0, V p1, V p2, V p3] [O p4] (.tup []) [O x]}
  | 0 => ⟨fun _ _ _ _ => none, fun _ _ _ _ {_} h => nomatch h⟩
  | n + 1 => ⟨fun p1 p2 p3 p4 => (f83v1.body (f83v1.fuel n).1 (f83v1.fuel n).2 p1 p2 p3 p4).run, fun p1 p2 p3 p4 {_} h => f83v1.body.ok (f83v1.fuel n).1 (f83v1.fuel n).2 p1 p2 p3 p4 h⟩

noncomputable def f83v1 (p1 p2 p3 : Int) (p4 : List Int) : Option (List Int) := (f83v1.fuel Go.Fx.fuel).1 p1 p2 p3 p4
theorem f83v1.ok (p1 p2 p3 : Int) (p4 : List Int) {x} (h : f83v1 p1 p2 p3 p4 = some x) : Spec Try.prog 83 [H Int 0, V p1, V p2, V p3] [O p4] (.tup []) [O x] := (f83v1.fuel Go.Fx.fuel).2 p1 p2 p3 p4 h

noncomputable def f67v1 (p1 : List Int) : Pg (List Int) :=
cl (f84.ok (IntKind.u64.wrap (L p1 : Int))) fun y2 =>
cls (f83v1.ok (0 : Int) (L p1 : Int) y2 p1) fun y3 =>
.ret (y3)

theorem f67v1.ok (p1 : List Int) {x} (h : (f67v1 p1).run = some x) : Spec Try.prog 67 [H Int 0] [O p1] (.tup []) [O x] :=
  Prg.ok Try.func67 (res := fun x => .tup []) (outs := fun x => [O x]) (by kernel_rfl) (by kernel_rfl) rfl h

noncomputable def f69v1.l1 (p1 : List Int) (v21 : Int) (v29 v30 : Int) (l31 : List Int) : Pg (Nx (Int × Int × (List Int)) (Ex (Int × (List Int)) Empty Empty)) :=
brr (decide (v30 < ((((L p1) - (v21).toNat) : Nat) : Int))) (
ck v30 ((L p1) - (v21).toNat) <|
rd l31 ((0 + (v21).toNat) + (v30 : Int).toNat) fun a32 =>
ck (IntKind.i64.wrap (v30 - 1)) ((L p1) - (v21).toNat) <|
rd l31 ((0 + (v21).toNat) + ((IntKind.i64.wrap (v30 - 1)) : Int).toNat) fun a33 =>
brr (a32 != a33) (
ck v30 ((L p1) - (v21).toNat) <|
rd l31 ((0 + (v21).toNat) + (v30 : Int).toNat) fun a34 =>
ck v29 (L l31) <|
st l31 (at0 v29) (fun x35 => a34) fun l36 =>
cont ((IntKind.i64.wrap (v29 + 1)), (IntKind.i64.wrap (v30 + 1)), l36)) (
cont (v29, (IntKind.i64.wrap (v30 + 1)), l31))) (
doneA (v29, l31))

noncomputable def f69v1.l2 (p1 : List Int) (v21 : Int) : Pg (Nx Int (Ex (List Int) Unit Empty)) :=
brr (decide (v21 < (L p1 : Int))) (
ck v21 (L p1) <|
rd p1 (at0 v21) fun a22 =>
ck (IntKind.i64.wrap (v21 - 1)) (L p1) <|
rd p1 (at0 (IntKind.i64.wrap (v21 - 1))) fun a23 =>
brr (a22 == a23) (
bLo v21 (L p1) <|
loop1 (v21, (1 : Int), p1) (fun s37 => f69v1.l1 p1 v21 s37.1 s37.2.1 s37.2.2) (fun s37 => ([(0, H Int 0), (3, V s37.1), (4, .hd 0 (0 + (v21).toNat) ((L p1) - (v21).toNat) 1), (5, V s37.2.1)], [(0, O s37.2.2)])) (.cut (.ext 2) fun x38 => ([(0, H Int 0), (3, V x38.1)], [(0, O x38.2)])) fun x38 =>
bLo x38.1 (L x38.2) <|
clrN x38.2 0 (0 + (x38.1).toNat) ((L x38.2) - (x38.1).toNat) fun l39 =>
cutHiO l39 x38.1 fun l40 =>
doneA (l40)) (
cont (IntKind.i64.wrap (v21 + 1)))) (
doneB ())

noncomputable def f69v1 (p1 : List Int) : Pg (List Int) :=
brr (decide ((L p1 : Int) < 2)) (
.ret (p1)) (
loop2 (1 : Int) (fun s41 => f69v1.l2 p1 s41) (fun s41 => ([(0, H Int 0), (3, V s41)], [(0, O p1)])) .inl (fun r42 =>
.ret r42) (.cut (.ext 0) fun _ => ([(0, H Int 0)], [(0, O p1)])) fun _ =>
.ret (p1))

theorem f69v1.ok (p1 : List Int) {x} (h : (f69v1 p1).run = some x) : Spec Try.prog 69 [H Int 0] [O p1] (H Int 2) [.dead, O x] :=
  Prg.ok Try.func69 (res := fun x => H Int 2) (outs := fun x => [.dead, O x]) (by kernel_rfl) (by kernel_rfl) rfl h

noncomputable def f70 (p1 p2 : Int) : Pg Unit :=
.ret (())

theorem f70.ok (p1 p2 : Int) {x} (h : (f70 p1 p2).run = some x) : Spec Try.prog 70 [V p1, R 0] [B p2] (V (p1 == p2)) [B p2] :=
  Prg.ok Try.func70 (res := fun x => V (p1 == p2)) (outs := fun x => [B p2]) (by kernel_rfl) (by kernel_rfl) rfl h

noncomputable def f85v2.l1 (p1 : List Int) (p2 : Int) (v5 : Int) : Pg (Nx Int (Ex (Int) Unit Empty)) :=
brr (decide (v5 < (L p1 : Int))) (
ck v5 (L p1) <|
rd p1 (at0 v5) fun a6 =>
cl (f70.ok a6 p2) fun _ =>
brr (a6 == p2) (
doneA (v5)) (
cont (IntKind.i64.wrap (v5 + 1)))) (
doneB ())

noncomputable def f85v2 (p1 : List Int) (p2 : Int) : Pg Int :=
loop2 (0 : Int) (fun s8 => f85v2.l1 p1 p2 s8) (fun s8 => ([(0, H Int 0), (1, .clo 70 [R 2]), (7, V (L p1 : Int)), (8, V s8)], [(0, O p1), (2, B p2)])) .inl (fun r9 =>
.ret r9) (.cut (.ext 0) fun _ => ([], [(0, O p1), (2, B p2)])) fun _ =>
.ret (((-1) : Int))

theorem f85v2.ok (p1 : List Int) (p2 : Int) {x} (h : (f85v2 p1 p2).run = some x) : Spec Try.prog 85 [H Int 0, .clo 70 [R 2]] [O p1, B p2] (V x) [O p1, B p2] :=
  Prg.ok Try.func85 (res := fun x => V x) (outs := fun x => [O p1, B p2]) (by kernel_rfl) (by kernel_rfl) rfl h

noncomputable def f68v1.l1 (p2 : Int) (v8 v9 : Int) (l10 : List Int) : Pg (Nx (Int × Int × (List Int)) (Ex (Int × (List Int)) Empty Empty)) :=
brr (decide (v9 < (L l10 : Int))) (
ck v9 (L l10) <|
rd l10 (at0 v9) fun a11 =>
cl (f70.ok a11 p2) fun _ =>
brr (!(a11 == p2)) (
ck v8 (L l10) <|
st l10 (at0 v8) (fun x13 => a11) fun l14 =>
cont ((IntKind.i64.wrap (v8 + 1)), (IntKind.i64.wrap (v9 + 1)), l14)) (
cont (v8, (IntKind.i64.wrap (v9 + 1)), l10))) (
doneA (v8, l10))

noncomputable def f68v1 (p1 : List Int) (p2 : Int) : Pg (List Int) :=
cl (f85v2.ok p1 p2) fun y3 =>
brr (y3 == (-1)) (
.ret (p1)) (
loop1 (y3, (IntKind.i64.wrap (y3 + 1)), p1) (fun s15 => f68v1.l1 p2 s15.1 s15.2.1 s15.2.2) (fun s15 => ([(0, H Int 0), (1, .clo 70 [R 2]), (5, V s15.1), (6, V s15.2.1)], [(0, O s15.2.2), (2, B p2)])) (.cut (.ext 0) fun x16 => ([(0, H Int 0), (5, V x16.1)], [(0, O x16.2), (2, B p2)])) fun x16 =>
bLo x16.1 (L x16.2) <|
clrN x16.2 0 (0 + (x16.1).toNat) ((L x16.2) - (x16.1).toNat) fun l17 =>
cutHiO l17 x16.1 fun l18 =>
.ret (l18))

theorem f68v1.ok (p1 : List Int) (p2 : Int) {x} (h : (f68v1 p1 p2).run = some x) : Spec Try.prog 68 [H Int 0, .clo 70 [R 2]] [O p1, B p2] (H Int 4) [.dead, B p2, O x] :=
  Prg.ok Try.func68 (res := fun x => H Int 4) (outs := fun x => [.dead, B p2, O x]) (by kernel_rfl) (by kernel_rfl) rfl h

noncomputable def f41v1.l1 (p1 : Int) (p2 : List Edge) (v11 : Int) (l12 : List Int) : Pg (Nx (Int × (List Int)) (Ex (List Int) Empty Empty)) :=
brr (decide (v11 < (L p2 : Int))) (
getR p2 v11 fun a13 =>
join1 (.reg 4) (
brr (a13.From == p1) (
retA' true) (
retA' (a13.To == p1))) (.cut .nat fun x14 => ([(2, R 101), (4, H Int 103), (6, R 105), (7, V p2), (8, V (L p2 : Int)), (9, V v11), (22, V x14)], [(101, B p1), (103, O l12), (105, B a13)])) fun x14 =>
brr x14 (
cl (f66.ok a13 p1) fun y15 =>
ap l12 ([y15] : List Int) fun l16 =>
cont ((IntKind.i64.wrap (v11 + 1)), l16)) (
cont ((IntKind.i64.wrap (v11 + 1)), l12))) (
doneA l12)

noncomputable def f41v1 (p1 : Int) (p2 : List Edge) : Pg (List Int) :=
loop1 ((0 : Int), ([] : List Int)) (fun s17 => f41v1.l1 p1 p2 s17.1 s17.2) (fun s17 => ([(2, R 101), (4, H Int 501), (7, V p2), (8, V (L p2 : Int)), (9, V s17.1)], [(101, B p1), (501, O s17.2)])) (.cut (.ext 0) fun x18 => ([(2, R 101), (4, H Int 103)], [(101, B p1), (103, O x18)])) fun x18 =>
cl (f67v1.ok x18) fun y19 =>
cl (f69v1.ok y19) fun y20 =>
cl (f68v1.ok y20 p1) fun y21 =>
.ret (y21)

theorem f41v1.ok (p1 : Int) (p2 : List Edge) {x} (h : (f41v1 p1 p2).run = some x) : Spec Try.prog 41 [V p1, V p2] [] (H Int 0) [O x] :=
  Prg.ok Try.func41 (res := fun x => H Int 0) (outs := fun x => [O x]) (by kernel_rfl) (by kernel_rfl) rfl h

noncomputable def f71.l1 (p1 : List Int) (p2 : Int) (v4 : Int) : Pg (Nx Int (Ex (Int) Unit Empty)) :=
brr (decide (v4 < (L p1 : Int))) (
getR p1 v4 fun a5 =>
brr (p2 == a5) (
doneA (v4)) (
cont (IntKind.i64.wrap (v4 + 1)))) (
doneB ())

noncomputable def f71 (p1 : List Int) (p2 : Int) : Pg Int :=
loop2 (0 : Int) (fun s6 => f71.l1 p1 p2 s6) (fun s6 => ([(0, V p1), (1, V p2), (7, V (L p1 : Int)), (8, V s6)], [])) .inl (fun r7 =>
.ret r7) (.cut (.ext 0) fun _ => ([], [])) fun _ =>
.ret (((-1) : Int))

theorem f71.ok (p1 : List Int) (p2 : Int) {x} (h : (f71 p1 p2).run = some x) : Spec Try.prog 71 [V p1, V p2] [] (V x) [] :=
  Prg.ok Try.func71 (res := fun x => V x) (outs := fun x => []) (by kernel_rfl) (by kernel_rfl) rfl h

noncomputable def f42 (p1 : List Int) (p2 : Int) : Pg Bool :=
cl (f71.ok p1 p2) fun y3 =>
.ret ((decide (y3 ≥ 0)))

theorem f42.ok (p1 : List Int) (p2 : Int) {x} (h : (f42 p1 p2).run = some x) : Spec Try.prog 42 [V p1, V p2] [] (V x) [] :=
  Prg.ok Try.func42 (res := fun x => V x) (outs := fun x => []) (by kernel_rfl) (by kernel_rfl) rfl h

noncomputable def f13.l1 (p3 : List Named) (l11 : List Int) (v20 : Int) (l21 : List Named) : Pg (Nx (Int × (List Named)) (Ex (List Named) Empty Empty)) :=
brr (decide (v20 < (L p3 : Int))) (
getR p3 v20 fun a22 =>
cl (f42.ok l11 a22.ID) fun y23 =>
brr y23 (
cl (f40.ok a22.Label) fun y24 =>
ap l21 ([(Named.mk a22.ID y24)] : List Named) fun l25 =>
cont ((IntKind.i64.wrap (v20 + 1)), l25)) (
cont ((IntKind.i64.wrap (v20 + 1)), l21))) (
doneA l21)

noncomputable def f13 (p1 : List Vertex) (p2 : List Edge) (p3 : List Named) (p4 : Int) : Pg (View × Int) :=
cl (f38.ok p1 p2 p4) fun y5 =>
join1 (.reg 2) (
brr (!y5.2) (
retA' true) (
cl (f39.ok p3) fun y6 =>
retA' (!y6))) (.cut .nat fun x7 => ([(1, V p3), (2, V p4), (3, R 101), (6, R 103), (8, R 105), (26, V x7)], [(101, .varp [.sl (p1.map Cel.enc), .sl (p2.map Cel.enc), .nilsl]), (103, .varp [.int .i64 0, .int .i64 0, .nilsl, .nilsl, .nilsl]), (105, B y5.1)])) fun x7 =>
brr x7 (
.ret (((View.mk (Vertex.mk 0 0) [] [] []), (60 : Int)))) (
cl (f40.ok ([] : List Int)) fun y8 =>
cl (f28v1.ok p1 p2 p4) fun y9 =>
cl (f41v1.ok p4 y9) fun y10 =>
ap y10 ([p4] : List Int) fun l11 =>
loop1 ((0 : Int), ([] : List Named)) (fun s26 => f13.l1 p3 l11 s26.1 s26.2) (fun s26 => ([(6, R 101), (10, R 103), (11, V l11), (43, V p3), (44, V (L p3 : Int)), (45, V s26.1)], [(101, .varp [.int .i64 0, .int .i64 0, .nilsl, .nilsl, .nilsl]), (103, .var [V y5.1.ID, V y5.1.Side, V y8, V y9, H Named 501]), (501, O s26.2)])) (.cut (.ext 0) fun x27 => ([(6, R 101), (10, R 103)], [(101, .varp [.int .i64 0, .int .i64 0, .nilsl, .nilsl, .nilsl]), (103, .var [V y5.1.ID, V y5.1.Side, V y8, V y9, H Named 105]), (105, O x27)])) fun x27 =>
.ret (((View.mk y5.1 y8 y9 x27), (0 : Int))))

theorem f13.ok (p1 : List Vertex) (p2 : List Edge) (p3 : List Named) (p4 : Int) {x} (h : (f13 p1 p2 p3 p4).run = some x) : Spec Try.prog 13 [.aggp [.sl (p1.map Cel.enc), .sl (p2.map Cel.enc), .nilsl], V p3, V p4] [] (.tup [V x.1, V x.2]) [] :=
  Prg.ok Try.func13 (res := fun x => .tup [V x.1, V x.2]) (outs := fun x => []) (by kernel_rfl) (by kernel_rfl) rfl h

noncomputable def f17.l1 (p1 p2 : List Int) (v5 : Int) : Pg (Nx Int (Ex (Bool) Unit Empty)) :=
brr (decide (v5 < (L p1 : Int))) (
getR p1 v5 fun a6 =>
getR p2 v5 fun a7 =>
brr (a6 != a7) (
doneA (false)) (
cont (IntKind.i64.wrap (v5 + 1)))) (
doneB ())

noncomputable def f17 (p1 p2 : List Int) : Pg Bool :=
brr ((L p1 : Int) != (L p2 : Int)) (
.ret (false)) (
loop2 (0 : Int) (fun s8 => f17.l1 p1 p2 s8) (fun s8 => ([(0, V p1), (1, V p2), (5, V s8)], [])) .inl (fun r9 =>
.ret r9) (.cut (.ext 0) fun _ => ([], [])) fun _ =>
.ret (true))

theorem f17.ok (p1 p2 : List Int) {x} (h : (f17 p1 p2).run = some x) : Spec Try.prog 17 [V p1, V p2] [] (V x) [] :=
  Prg.ok Try.func17 (res := fun x => V x) (outs := fun x => []) (by kernel_rfl) (by kernel_rfl) rfl h

noncomputable def f16.l1 (p1 p2 : List Named) (v8 : Int) : Pg (Nx Int (Ex (Bool) Unit Empty)) :=
brr (decide (v8 < (L p1 : Int))) (
getR p1 v8 fun a9 =>
getR p2 v8 fun a10 =>
cl (f17.ok a9.Label a10.Label) fun y11 =>
getR p1 v8 fun a12 =>
getR p2 v8 fun a13 =>
brr ((a12.ID != a13.ID) || (!y11)) (
doneA (false)) (
cont (IntKind.i64.wrap (v8 + 1)))) (
doneB ())

noncomputable def f16 (p1 p2 : List Named) : Pg Bool :=
brr ((L p1 : Int) != (L p2 : Int)) (
.ret (false)) (
loop2 (0 : Int) (fun s14 => f16.l1 p1 p2 s14) (fun s14 => ([(0, V p1), (1, V p2), (5, V s14)], [])) .inl (fun r15 =>
.ret r15) (.cut (.ext 0) fun _ => ([], [])) fun _ =>
.ret (true))

theorem f16.ok (p1 p2 : List Named) {x} (h : (f16 p1 p2).run = some x) : Spec Try.prog 16 [V p1, V p2] [] (V x) [] :=
  Prg.ok Try.func16 (res := fun x => V x) (outs := fun x => []) (by kernel_rfl) (by kernel_rfl) rfl h

noncomputable def f73 (p1 : Named) (p2 : Int) : Pg Unit :=
.ret (())

theorem f73.ok (p1 : Named) (p2 : Int) {x} (h : (f73 p1 p2).run = some x) : Spec Try.prog 73 [V p1, R 0] [B p2] (V (p1.ID == p2)) [B p2] :=
  Prg.ok Try.func73 (res := fun x => V (p1.ID == p2)) (outs := fun x => [B p2]) (by kernel_rfl) (by kernel_rfl) rfl h

noncomputable def f72.l1 (p1 : List Named) (p2 : Int) (v5 : Int) : Pg (Nx Int (Ex (Int) Unit Empty)) :=
brr (decide (v5 < (L p1 : Int))) (
getR p1 v5 fun a6 =>
cl (f73.ok a6 p2) fun _ =>
brr (a6.ID == p2) (
doneA (v5)) (
cont (IntKind.i64.wrap (v5 + 1)))) (
doneB ())

noncomputable def f72 (p1 : List Named) (p2 : Int) : Pg Int :=
loop2 (0 : Int) (fun s8 => f72.l1 p1 p2 s8) (fun s8 => ([(0, V p1), (1, .clo 73 [R 0]), (7, V (L p1 : Int)), (8, V s8)], [(0, B p2)])) .inl (fun r9 =>
.ret r9) (.cut (.ext 0) fun _ => ([], [(0, B p2)])) fun _ =>
.ret (((-1) : Int))

theorem f72.ok (p1 : List Named) (p2 : Int) {x} (h : (f72 p1 p2).run = some x) : Spec Try.prog 72 [V p1, .clo 73 [R 0]] [B p2] (V x) [B p2] :=
  Prg.ok Try.func72 (res := fun x => V x) (outs := fun x => [B p2]) (by kernel_rfl) (by kernel_rfl) rfl h

noncomputable def f43 (p1 : List Named) (p2 : Int) : Pg (List Int) :=
cl (f72.ok p1 p2) fun y3 =>
brr (decide (y3 ≥ 0)) (
getR p1 y3 fun a4 =>
.ret (a4.Label)) (
.ret (([] : List Int)))

theorem f43.ok (p1 : List Named) (p2 : Int) {x} (h : (f43 p1 p2).run = some x) : Spec Try.prog 43 [V p1, V p2] [] (V x) [] :=
  Prg.ok Try.func43 (res := fun x => V x) (outs := fun x => []) (by kernel_rfl) (by kernel_rfl) rfl h

noncomputable def f46.l1 (p1 : List Int) (v5 : Int) : Pg (Nx Int (Ex (Bool) Unit Empty)) :=
brr (decide (v5 < (L p1 : Int))) (
getR p1 v5 fun a6 =>
ck v5 7 <|
rd ([0, 0, (-1), 0, (-1), 0, 0] : List Int) v5.toNat fun a7 =>
brr (decide (a6 < a7)) (
doneA (false)) (
ck v5 7 <|
rd ([23, 23, 39, 23, 39, 23, 23] : List Int) v5.toNat fun a8 =>
brr (decide (a6 > a8)) (
doneA (false)) (
cont (IntKind.i64.wrap (v5 + 1))))) (
doneB ())

noncomputable def f46 (p1 : List Int) : Pg Bool :=
brr ((L p1 : Int) != 7) (
.ret (false)) (
loop2 (0 : Int) (fun s9 => f46.l1 p1 s9) (fun s9 => ([(3, R 101), (4, R 103), (12, V p1), (13, V (L p1 : Int)), (14, V s9)], [(101, BA 7 ([0, 0, (-1), 0, (-1), 0, 0] : List Int)), (103, BA 7 ([23, 23, 39, 23, 39, 23, 23] : List Int))])) .inl (fun r10 =>
.ret r10) (.cut (.ext 0) fun _ => ([], [])) fun _ =>
.ret (true))

theorem f46.ok (p1 : List Int) {x} (h : (f46 p1).run = some x) : Spec Try.prog 46 [V p1] [] (V x) [] :=
  Prg.ok Try.func46 (res := fun x => V x) (outs := fun x => []) (by kernel_rfl) (by kernel_rfl) rfl h

noncomputable def f44 (p1 p2 : Int) : Pg Unit :=
.ret (())

theorem f44.ok (p1 p2 : Int) {x} (h : (f44 p1 p2).run = some x) : Spec Try.prog 44 [V p1, V p2] [] (V ((decide ((0 : Int) ≤ p1)) && (decide (p1 < p2)))) [] :=
  Prg.ok Try.func44 (res := fun x => V ((decide ((0 : Int) ≤ p1)) && (decide (p1 < p2)))) (outs := fun x => []) (by kernel_rfl) (by kernel_rfl) rfl h

noncomputable def f45 (p1 : Edge) : Pg Bool :=
cl (f44.ok p1.ID (40 : Int)) fun _ =>
brr (!((decide ((0 : Int) ≤ p1.ID)) && (decide (p1.ID < (40 : Int))))) (
.ret (true)) (
cl (f44.ok p1.From (24 : Int)) fun _ =>
brr (!((decide ((0 : Int) ≤ p1.From)) && (decide (p1.From < (24 : Int))))) (
.ret (true)) (
cl (f44.ok p1.To (24 : Int)) fun _ =>
.ret ((!((decide ((0 : Int) ≤ p1.To)) && (decide (p1.To < (24 : Int))))))))

theorem f45.ok (p1 : Edge) {x} (h : (f45 p1).run = some x) : Spec Try.prog 45 [V p1, R 0] [mkVar (.clo 44 [])] (V x) [mkVar (.clo 44 [])] :=
  Prg.ok Try.func45 (res := fun x => V x) (outs := fun x => [mkVar (.clo 44 [])]) (by kernel_rfl) (by kernel_rfl) rfl h

noncomputable def f74v1.l1 (p1 : List Edge) (v4 : Int) : Pg (Nx Int (Ex (Int) Unit Empty)) :=
brr (decide (v4 < (L p1 : Int))) (
getR p1 v4 fun a5 =>
cl (f45.ok a5) fun y6 =>
brr y6 (
doneA (v4)) (
cont (IntKind.i64.wrap (v4 + 1)))) (
doneB ())

noncomputable def f74v1 (p1 : List Edge) : Pg Int :=
loop2 (0 : Int) (fun s7 => f74v1.l1 p1 s7) (fun s7 => ([(0, V p1), (1, .clo 45 [R 0]), (7, V (L p1 : Int)), (8, V s7)], [(0, mkVar (.clo 44 []))])) .inl (fun r8 =>
.ret r8) (.cut (.ext 0) fun _ => ([], [(0, mkVar (.clo 44 []))])) fun _ =>
.ret (((-1) : Int))

theorem f74v1.ok (p1 : List Edge) {x} (h : (f74v1 p1).run = some x) : Spec Try.prog 74 [V p1, .clo 45 [R 0]] [mkVar (.clo 44 [])] (V x) [mkVar (.clo 44 [])] :=
  Prg.ok Try.func74 (res := fun x => V x) (outs := fun x => [mkVar (.clo 44 [])]) (by kernel_rfl) (by kernel_rfl) rfl h

noncomputable def f47v1 (p1 : List Edge) : Pg Bool :=
cl (f74v1.ok p1) fun y2 =>
.ret ((decide (y2 ≥ 0)))

theorem f47v1.ok (p1 : List Edge) {x} (h : (f47v1 p1).run = some x) : Spec Try.prog 47 [V p1, .clo 45 [R 0]] [mkVar (.clo 44 [])] (V x) [mkVar (.clo 44 [])] :=
  Prg.ok Try.func47 (res := fun x => V x) (outs := fun x => [mkVar (.clo 44 [])]) (by kernel_rfl) (by kernel_rfl) rfl h

noncomputable def f66v1 (p1 : Edge) (p2 : Int) : Pg Int :=
brr (p2 == p1.From) (
.ret (p1.To)) (
brr (p2 == p1.To) (
.ret (p1.From)) (
.ret (((-1) : Int))))

theorem f66v1.ok (p1 : Edge) (p2 : Int) {x} (h : (f66v1 p1 p2).run = some x) : Spec Try.prog 66 [V p1, V p2] [] (V x) [] :=
  Prg.ok Try.func66 (res := fun x => V x) (outs := fun x => []) (by kernel_rfl) (by kernel_rfl) rfl h

noncomputable def f70v1 (p1 p2 : Int) : Pg Unit :=
.ret (())

theorem f70v1.ok (p1 p2 : Int) {x} (h : (f70v1 p1 p2).run = some x) : Spec Try.prog 70 [V p1, R 0] [B p2] (V (p1 == p2)) [B p2] :=
  Prg.ok Try.func70 (res := fun x => V (p1 == p2)) (outs := fun x => [B p2]) (by kernel_rfl) (by kernel_rfl) rfl h

noncomputable def f85v4.l1 (p1 : List Int) (p2 : Int) (v5 : Int) : Pg (Nx Int (Ex (Int) Unit Empty)) :=
brr (decide (v5 < (L p1 : Int))) (
ck v5 (L p1) <|
rd p1 (at0 v5) fun a6 =>
cl (f70v1.ok a6 p2) fun _ =>
brr (a6 == p2) (
doneA (v5)) (
cont (IntKind.i64.wrap (v5 + 1)))) (
doneB ())

noncomputable def f85v4 (p1 : List Int) (p2 : Int) : Pg Int :=
loop2 (0 : Int) (fun s8 => f85v4.l1 p1 p2 s8) (fun s8 => ([(0, H Int 0), (1, .clo 70 [R 2]), (7, V (L p1 : Int)), (8, V s8)], [(0, O p1), (2, B p2)])) .inl (fun r9 =>
.ret r9) (.cut (.ext 0) fun _ => ([], [(0, O p1), (2, B p2)])) fun _ =>
.ret (((-1) : Int))

theorem f85v4.ok (p1 : List Int) (p2 : Int) {x} (h : (f85v4 p1 p2).run = some x) : Spec Try.prog 85 [H Int 0, .clo 70 [R 2]] [O p1, B p2] (V x) [O p1, B p2] :=
  Prg.ok Try.func85 (res := fun x => V x) (outs := fun x => [O p1, B p2]) (by kernel_rfl) (by kernel_rfl) rfl h

noncomputable def f68v3.l1 (p2 : Int) (v8 v9 : Int) (l10 : List Int) : Pg (Nx (Int × Int × (List Int)) (Ex (Int × (List Int)) Empty Empty)) :=
brr (decide (v9 < (L l10 : Int))) (
ck v9 (L l10) <|
rd l10 (at0 v9) fun a11 =>
cl (f70v1.ok a11 p2) fun _ =>
brr (!(a11 == p2)) (
ck v8 (L l10) <|
st l10 (at0 v8) (fun x13 => a11) fun l14 =>
cont ((IntKind.i64.wrap (v8 + 1)), (IntKind.i64.wrap (v9 + 1)), l14)) (
cont (v8, (IntKind.i64.wrap (v9 + 1)), l10))) (
doneA (v8, l10))

noncomputable def f68v3 (p1 : List Int) (p2 : Int) : Pg (List Int) :=
cl (f85v4.ok p1 p2) fun y3 =>
brr (y3 == (-1)) (
.ret (p1)) (
loop1 (y3, (IntKind.i64.wrap (y3 + 1)), p1) (fun s15 => f68v3.l1 p2 s15.1 s15.2.1 s15.2.2) (fun s15 => ([(0, H Int 0), (1, .clo 70 [R 2]), (5, V s15.1), (6, V s15.2.1)], [(0, O s15.2.2), (2, B p2)])) (.cut (.ext 0) fun x16 => ([(0, H Int 0), (5, V x16.1)], [(0, O x16.2), (2, B p2)])) fun x16 =>
bLo x16.1 (L x16.2) <|
clrN x16.2 0 (0 + (x16.1).toNat) ((L x16.2) - (x16.1).toNat) fun l17 =>
cutHiO l17 x16.1 fun l18 =>
.ret (l18))

theorem f68v3.ok (p1 : List Int) (p2 : Int) {x} (h : (f68v3 p1 p2).run = some x) : Spec Try.prog 68 [H Int 0, .clo 70 [R 2]] [O p1, B p2] (H Int 4) [.dead, B p2, O x] :=
  Prg.ok Try.func68 (res := fun x => H Int 4) (outs := fun x => [.dead, B p2, O x]) (by kernel_rfl) (by kernel_rfl) rfl h

noncomputable def f41v2.l1 (p1 : Int) (p2 : List Edge) (v11 : Int) (l12 : List Int) : Pg (Nx (Int × (List Int)) (Ex (List Int) Empty Empty)) :=
brr (decide (v11 < (L p2 : Int))) (
getR p2 v11 fun a13 =>
join1 (.reg 4) (
brr (a13.From == p1) (
retA' true) (
retA' (a13.To == p1))) (.cut .nat fun x14 => ([(2, R 101), (4, H Int 103), (6, R 105), (7, V p2), (8, V (L p2 : Int)), (9, V v11), (22, V x14)], [(101, B p1), (103, O l12), (105, B a13)])) fun x14 =>
brr x14 (
cl (f66v1.ok a13 p1) fun y15 =>
ap l12 ([y15] : List Int) fun l16 =>
cont ((IntKind.i64.wrap (v11 + 1)), l16)) (
cont ((IntKind.i64.wrap (v11 + 1)), l12))) (
doneA l12)

noncomputable def f41v2 (p1 : Int) (p2 : List Edge) : Pg (List Int) :=
loop1 ((0 : Int), ([] : List Int)) (fun s17 => f41v2.l1 p1 p2 s17.1 s17.2) (fun s17 => ([(2, R 101), (4, H Int 501), (7, V p2), (8, V (L p2 : Int)), (9, V s17.1)], [(101, B p1), (501, O s17.2)])) (.cut (.ext 0) fun x18 => ([(2, R 101), (4, H Int 103)], [(101, B p1), (103, O x18)])) fun x18 =>
cl (f67v1.ok x18) fun y19 =>
cl (f69v1.ok y19) fun y20 =>
cl (f68v3.ok y20 p1) fun y21 =>
.ret (y21)

theorem f41v2.ok (p1 : Int) (p2 : List Edge) {x} (h : (f41v2 p1 p2).run = some x) : Spec Try.prog 41 [V p1, V p2] [] (V x) [] :=
  Prg.ok Try.func41 (res := fun x => V x) (outs := fun x => []) (by kernel_rfl) (by kernel_rfl) rfl h

noncomputable def f48 (p1 p2 : Int) (p3 : Strong_best) : Pg Strong_best :=
brr (decide ((IntKind.i64.wrap (p2 + 1)) < p3.f_want)) (
.ret ((Strong_best.mk p3.f_want p3.f_edge true))) (
brr ((IntKind.i64.wrap (p2 + 1)) == p3.f_want) (
brr (decide (p3.f_edge < 0)) (
.ret ((Strong_best.mk p3.f_want p1 p3.f_bad))) (
brr (decide (p1 < p3.f_edge)) (
.ret ((Strong_best.mk p3.f_want p1 p3.f_bad))) (
.ret (p3)))) (
.ret (p3)))

theorem f48.ok (p1 p2 : Int) (p3 : Strong_best) {x} (h : (f48 p1 p2 p3).run = some x) : Spec Try.prog 48 [R 0, V p1, V p2] [B p3] (.tup []) [B x] :=
  Prg.ok Try.func48 (res := fun x => .tup []) (outs := fun x => [B x]) (by kernel_rfl) (by kernel_rfl) rfl h

noncomputable def r18_0 (p1 : Edge) (p2 : A2_Int) (p3 : View) (p4 : Bool) (p5 : Int) (p6 : List Int) (p7 : Int) (p8 : Bool) (p9 p10 : Strong_best) : Pg (Nat × Bool × Int × Bool × Strong_best × Strong_best) :=
brr (p2.x0 == p5) (
cl (f43.ok p3.Labels p2.x1) fun y11 =>
getR y11 (0 : Int) fun a12 =>
getR p6 (0 : Int) fun a13 =>
brr (a12 == a13) (
getR y11 (3 : Int) fun a14 =>
cl (f48.ok p1.ID a14 p10) fun y15 =>
.ret (((0), p4, p7, p8, p9, y15))) (
.ret (((0), p4, p7, p8, p9, p10)))) (
brr (p2.x1 == p5) (
cl (f43.ok p3.Labels p2.x0) fun y16 =>
getR y16 (0 : Int) fun a17 =>
getR p6 (0 : Int) fun a18 =>
brr (a17 == a18) (
getR y16 (1 : Int) fun a19 =>
cl (f48.ok p1.ID a19 p9) fun y20 =>
getR y16 (6 : Int) fun a21 =>
.ret (((0), p4, (if a21 < p7 then a21 else p7), p8, y20, p10))) (
getR y16 (5 : Int) fun a22 =>
getR p6 (5 : Int) fun a23 =>
brr (decide (a22 ≥ a23)) (
.ret (((1), false, p7, p8, p9, p10))) (
brr p8 (
.ret (((0), p4, p7, true, p9, p10))) (
getR y16 (5 : Int) fun a24 =>
getR p6 (5 : Int) fun a25 =>
.ret (((0), p4, p7, (a24 == (IntKind.i64.wrap (a25 - 1))), p9, p10)))))) (
.ret (((0), p4, p7, p8, p9, p10))))

theorem r18_0.ok (p1 : Edge) (p2 : A2_Int) (p3 : View) (p4 : Bool) (p5 : Int) (p6 : List Int) (p7 : Int) (p8 : Bool) (p9 p10 : Strong_best) {x} (h : (r18_0 p1 p2 p3 p4 p5 p6 p7 p8 p9 p10).run = some x) : RSpec Try.prog (.yl 0 :: [V p1, V p2]) [.lp [97, 98] (rfA Try.f18 0) (rfB Try.f18 0) 202 [1, 2, 3, 4, 10, 11, 12, 13] [R 2, R 4, R 6, R 8, R 10, R 12, R 14, R 16] [.ret] 0, B p3, B p4, B p5, B p6, mkVar (R 18), mkVar (R 20), B p7, B p8, B p9, B p10] (V (Nat.beq x.1 0)) [.lp [97, 98] (rfA Try.f18 0) (rfB Try.f18 0) 202 [1, 2, 3, 4, 10, 11, 12, 13] [R 2, R 4, R 6, R 8, R 10, R 12, R 14, R 16] [.ret] x.1, B p3, B x.2.1, B p5, B p6, mkVar (R 18), mkVar (R 20), B x.2.2.1, B x.2.2.2.1, B x.2.2.2.2.1, B x.2.2.2.2.2] :=
  Prg.okR (pe := fun x => x.1) (outs := fun x => [B p3, B x.2.1, B p5, B p6, mkVar (R 18), mkVar (R 20), B x.2.2.1, B x.2.2.2.1, B x.2.2.2.2.1, B x.2.2.2.2.2]) (by kernel_rfl) (by kernel_rfl) rfl h

noncomputable def f61v6.l1 (p1 : List Edge) (p2 : View) (p4 : Int) (p5 : List Int) (v13 : Int) (l14 : Bool) (l15 : Int) (l16 : Bool) (l17 l18 : Strong_best) : Pg (Nx (Int × Bool × Int × Bool × Strong_best × Strong_best) (Ex (Nat × Bool × Int × Bool × Strong_best × Strong_best) Empty Empty)) :=
brr (decide (v13 < (L p1 : Int))) (
getR p1 v13 fun a19 =>
brr (a19.From == a19.To) (
cont ((IntKind.i64.wrap (v13 + 1)), l14, l15, l16, l17, l18)) (
clY yNo (r18_0.ok a19 (A2_Int.mk a19.From a19.To) p2 l14 p4 p5 l15 l16 l17 l18) fun y20 =>
brr (!(Nat.beq y20.1 0)) (
doneA ((y20.1, y20.2.1, y20.2.2.1, y20.2.2.2.1, y20.2.2.2.2.1, y20.2.2.2.2.2))) (
brr (!a19.Directed) (
rdy 0 [97, 98] (rfA Try.f18 0) (rfB Try.f18 0) 202 [1, 2, 3, 4, 10, 11, 12, 13] [R 4, R 6, R 8, R 10, R 12, R 14, R 16, R 18] [.ret] y20.1 <|
clY yNo (r18_0.ok a19 (A2_Int.mk a19.To a19.From) p2 y20.2.1 p4 p5 y20.2.2.1 y20.2.2.2.1 y20.2.2.2.2.1 y20.2.2.2.2.2) fun y21 =>
brr (!(Nat.beq y21.1 0)) (
doneA ((y21.1, y21.2.1, y21.2.2.1, y21.2.2.2.1, y21.2.2.2.2.1, y21.2.2.2.2.2))) (
rdy 0 [97, 98] (rfA Try.f18 0) (rfB Try.f18 0) 202 [1, 2, 3, 4, 10, 11, 12, 13] [R 4, R 6, R 8, R 10, R 12, R 14, R 16, R 18] [.ret] y21.1 <|
cont ((IntKind.i64.wrap (v13 + 1)), y21.2.1, y21.2.2.1, y21.2.2.2.1, y21.2.2.2.2.1, y21.2.2.2.2.2))) (
rdy 0 [97, 98] (rfA Try.f18 0) (rfB Try.f18 0) 202 [1, 2, 3, 4, 10, 11, 12, 13] [R 4, R 6, R 8, R 10, R 12, R 14, R 16, R 18] [.ret] y20.1 <|
cont ((IntKind.i64.wrap (v13 + 1)), y20.2.1, y20.2.2.1, y20.2.2.2.1, y20.2.2.2.2.1, y20.2.2.2.2.2))))) (
doneA (((0 : Nat), l14, l15, l16, l17, l18)))

noncomputable def f61v6 (p1 : List Edge) (p2 : View) (p3 : Bool) (p4 : Int) (p5 : List Int) (p6 : Int) (p7 : Bool) (p8 p9 : Strong_best) : Pg (Nat × Bool × Int × Bool × Strong_best × Strong_best) :=
loop1 ((0 : Int), p3, p6, p7, p8, p9) (fun s22 => f61v6.l1 p1 p2 p4 p5 s22.1 s22.2.1 s22.2.2.1 s22.2.2.2.1 s22.2.2.2.2.1 s22.2.2.2.2.2) (fun s22 => ([(0, .yl 0), (5, V p1), (6, V (L p1 : Int)), (7, V s22.1)], [(0, .lp [97, 98] (rfA Try.f18 0) (rfB Try.f18 0) 202 [1, 2, 3, 4, 10, 11, 12, 13] [R 4, R 6, R 8, R 10, R 12, R 14, R 16, R 18] [.ret] 0), (2, B p1), (4, B p2), (6, B s22.2.1), (8, B p4), (10, B p5), (12, mkVar (R 20)), (14, mkVar (R 22)), (16, B s22.2.2.1), (18, B s22.2.2.2.1), (20, B s22.2.2.2.2.1), (22, B s22.2.2.2.2.2)])) .inl fun r23 =>
.ret r23

theorem f61v6.ok (p1 : List Edge) (p2 : View) (p3 : Bool) (p4 : Int) (p5 : List Int) (p6 : Int) (p7 : Bool) (p8 p9 : Strong_best) {x} (h : (f61v6 p1 p2 p3 p4 p5 p6 p7 p8 p9).run = some x) : Spec Try.prog 61 [.yl 0, R 2] [.lp [97, 98] (rfA Try.f18 0) (rfB Try.f18 0) 202 [1, 2, 3, 4, 10, 11, 12, 13] [R 4, R 6, R 8, R 10, R 12, R 14, R 16, R 18] [.ret] 0, B p1, B p2, B p3, B p4, B p5, mkVar (R 20), mkVar (R 22), B p6, B p7, B p8, B p9] (.tup []) [.lp [97, 98] (rfA Try.f18 0) (rfB Try.f18 0) 202 [1, 2, 3, 4, 10, 11, 12, 13] [R 4, R 6, R 8, R 10, R 12, R 14, R 16, R 18] [.ret] x.1, B p1, B p2, B x.2.1, B p4, B p5, mkVar (R 20), mkVar (R 22), B x.2.2.1, B x.2.2.2.1, B x.2.2.2.2.1, B x.2.2.2.2.2] :=
  Prg.ok Try.func61 (res := fun x => .tup []) (outs := fun x => [.lp [97, 98] (rfA Try.f18 0) (rfB Try.f18 0) 202 [1, 2, 3, 4, 10, 11, 12, 13] [R 4, R 6, R 8, R 10, R 12, R 14, R 16, R 18] [.ret] x.1, B p1, B p2, B x.2.1, B p4, B p5, mkVar (R 20), mkVar (R 22), B x.2.2.1, B x.2.2.2.1, B x.2.2.2.2.1, B x.2.2.2.2.2]) (by kernel_rfl) (by kernel_rfl) rfl h

noncomputable def f49 (p1 : Int) (p2 : Bool) (p3 : Strong_best) : Pg Bool :=
brr p2 (
.ret (((p3.f_want == 0) && (p1 == (-1))))) (
brr (!p3.f_bad) (
brr (decide (p3.f_want > 0)) (
brr (decide (p3.f_edge ≥ 0)) (
.ret ((p1 == p3.f_edge))) (
.ret (false))) (
.ret (false))) (
.ret (false)))

theorem f49.ok (p1 : Int) (p2 : Bool) (p3 : Strong_best) {x} (h : (f49 p1 p2 p3).run = some x) : Spec Try.prog 49 [R 0, V p1, V p2] [B p3] (V x) [B p3] :=
  Prg.ok Try.func49 (res := fun x => V x) (outs := fun x => [B p3]) (by kernel_rfl) (by kernel_rfl) rfl h

noncomputable def f18.l1 (p1 : View) (y2 y8 : List Int) (v16 : Int) : Pg (Nx Int (Ex (Bool) Unit Empty)) :=
brr (decide (v16 < (L y8 : Int))) (
getR y8 v16 fun a17 =>
cl (f43.ok p1.Labels a17) fun y18 =>
cl (f46.ok y18) fun y19 =>
brr (!y19) (
doneA (false)) (
getR y18 (0 : Int) fun a20 =>
getR y2 (0 : Int) fun a21 =>
brr (a20 == a21) (
getR y18 (5 : Int) fun a22 =>
getR y2 (5 : Int) fun a23 =>
brr (a22 != a23) (
doneA (false)) (
cont (IntKind.i64.wrap (v16 + 1)))) (
cont (IntKind.i64.wrap (v16 + 1))))) (
doneB ())

noncomputable def f18 (p1 : View) : Pg Bool :=
cl (f43.ok p1.Labels p1.Vertex.ID) fun y2 =>
join1 (.reg 5) (
cl (f46.ok y2) fun y4 =>
brr (!y4) (
retA' true) (
getR y2 (0 : Int) fun a5 =>
brr (decide (a5 > p1.Vertex.ID)) (
retA' true) (
clK [0] (f47v1.ok p1.Edges) fun y6 =>
retA' y6))) (.cut .nat fun x7 => ([(1, R 101), (2, R 103), (3, R 105), (4, R 107), (44, V x7)], [(101, B p1), (103, B false), (105, B p1.Vertex.ID), (107, B y2)])) fun x7 =>
brr x7 (
.ret (false)) (
cl (f41v2.ok p1.Vertex.ID p1.Edges) fun y8 =>
loop2 (0 : Int) (fun s24 => f18.l1 p1 y2 y8 s24) (fun s24 => ([(1, R 101), (2, R 103), (3, R 105), (4, R 107), (48, V y8), (49, V (L y8 : Int)), (50, V s24)], [(101, B p1), (103, B false), (105, B p1.Vertex.ID), (107, B y2)])) .inl (fun r25 =>
.ret r25) (.cut (.ext 0) fun _ => ([(1, R 101), (2, R 103), (3, R 105), (4, R 107)], [(101, B p1), (103, B false), (105, B p1.Vertex.ID), (107, B y2)])) fun _ =>
getR y2 (1 : Int) fun a27 =>
getR y2 (3 : Int) fun a28 =>
getR y2 (5 : Int) fun a29 =>
cl (f27.ok p1.Edges) fun _ =>
rfW [.ret] [1, 2, 3, 4, 10, 11, 12, 13] (f61v6.ok p1.Edges p1 false p1.Vertex.ID y2 (1048576 : Int) (a29 == 0) (Strong_best.mk a27 (-1) false) (Strong_best.mk a28 (-1) false)) (fun y31 => y31.1) (fun y31 =>
getR y2 (0 : Int) fun a32 =>
join1 (.reg 33) (
getR y2 (2 : Int) fun a35 =>
clK [0] (f49.ok a35 (a32 == p1.Vertex.ID) y31.2.2.2.2.1) fun y36 =>
brr (!y36) (
retA' true) (
getR y2 (4 : Int) fun a37 =>
clK [0] (f49.ok a37 (a32 == p1.Vertex.ID) y31.2.2.2.2.2) fun y38 =>
retA' (!y38))) (.cut .nat fun x39 => ([(2, R 101), (4, R 103), (12, R 105), (13, R 107), (190, V x39)], [(101, B y31.2.1), (103, B y2), (105, B y31.2.2.1), (107, B y31.2.2.2.1)])) fun x39 =>
brr x39 (
.ret (false)) (
brr y31.2.2.2.1 (
getR y2 (6 : Int) fun a40 =>
.ret ((a40 == 0))) (
getR y2 (6 : Int) fun a41 =>
.ret ((a41 == (IntKind.i64.wrap (y31.2.2.1 + 1))))))) fun y31 =>
.ret (y31.2.1))

theorem f18.ok (p1 : View) {x} (h : (f18 p1).run = some x) : Spec Try.prog 18 [V p1] [] (V x) [] :=
  Prg.ok Try.func18 (res := fun x => V x) (outs := fun x => []) (by kernel_rfl) (by kernel_rfl) rfl h

noncomputable def r18_0v1 (p1 : Edge) (p2 : A2_Int) (p3 p4 : Int) (p5 : Bool) (p6 : Int) (p7 : List Int) (p8 : Int) (p9 : Bool) (p10 p11 : Strong_best) : Pg (Nat × Bool × Int × Bool × Strong_best × Strong_best) :=
brr (p2.x0 == p6) (
cl (f43.ok ([] : List Named) p2.x1) fun y12 =>
getR y12 (0 : Int) fun a13 =>
getR p7 (0 : Int) fun a14 =>
brr (a13 == a14) (
getR y12 (3 : Int) fun a15 =>
cl (f48.ok p1.ID a15 p11) fun y16 =>
.ret (((0), p5, p8, p9, p10, y16))) (
.ret (((0), p5, p8, p9, p10, p11)))) (
brr (p2.x1 == p6) (
cl (f43.ok ([] : List Named) p2.x0) fun y17 =>
getR y17 (0 : Int) fun a18 =>
getR p7 (0 : Int) fun a19 =>
brr (a18 == a19) (
getR y17 (1 : Int) fun a20 =>
cl (f48.ok p1.ID a20 p10) fun y21 =>
getR y17 (6 : Int) fun a22 =>
.ret (((0), p5, (if a22 < p8 then a22 else p8), p9, y21, p11))) (
getR y17 (5 : Int) fun a23 =>
getR p7 (5 : Int) fun a24 =>
brr (decide (a23 ≥ a24)) (
.ret (((1), false, p8, p9, p10, p11))) (
brr p9 (
.ret (((0), p5, p8, true, p10, p11))) (
getR y17 (5 : Int) fun a25 =>
getR p7 (5 : Int) fun a26 =>
.ret (((0), p5, p8, (a25 == (IntKind.i64.wrap (a26 - 1))), p10, p11)))))) (
.ret (((0), p5, p8, p9, p10, p11))))

theorem r18_0v1.ok (p1 : Edge) (p2 : A2_Int) (p3 p4 : Int) (p5 : Bool) (p6 : Int) (p7 : List Int) (p8 : Int) (p9 : Bool) (p10 p11 : Strong_best) {x} (h : (r18_0v1 p1 p2 p3 p4 p5 p6 p7 p8 p9 p10 p11).run = some x) : RSpec Try.prog (.yl 0 :: [V p1, V p2]) [.lp [97, 98] (rfA Try.f18 0) (rfB Try.f18 0) 202 [1, 2, 3, 4, 10, 11, 12, 13] [R 2, R 4, R 6, R 8, R 10, R 12, R 14, R 16] [.ret] 0, .varp [.int .i64 p3, .int .i64 p4, .nilsl, .nilsl, .nilsl], B p5, B p6, B p7, mkVar (R 18), mkVar (R 20), B p8, B p9, B p10, B p11] (V (Nat.beq x.1 0)) [.lp [97, 98] (rfA Try.f18 0) (rfB Try.f18 0) 202 [1, 2, 3, 4, 10, 11, 12, 13] [R 2, R 4, R 6, R 8, R 10, R 12, R 14, R 16] [.ret] x.1, .varp [.int .i64 p3, .int .i64 p4, .nilsl, .nilsl, .nilsl], B x.2.1, B p6, B p7, mkVar (R 18), mkVar (R 20), B x.2.2.1, B x.2.2.2.1, B x.2.2.2.2.1, B x.2.2.2.2.2] :=
  Prg.okR (pe := fun x => x.1) (outs := fun x => [.varp [.int .i64 p3, .int .i64 p4, .nilsl, .nilsl, .nilsl], B x.2.1, B p6, B p7, mkVar (R 18), mkVar (R 20), B x.2.2.1, B x.2.2.2.1, B x.2.2.2.2.1, B x.2.2.2.2.2]) (by kernel_rfl) (by kernel_rfl) rfl h

noncomputable def f61v7.l1 (p1 : List Edge) (p2 p3 p5 : Int) (p6 : List Int) (v14 : Int) (l15 : Bool) (l16 : Int) (l17 : Bool) (l18 l19 : Strong_best) : Pg (Nx (Int × Bool × Int × Bool × Strong_best × Strong_best) (Ex (Nat × Bool × Int × Bool × Strong_best × Strong_best) Empty Empty)) :=
brr (decide (v14 < (L p1 : Int))) (
getR p1 v14 fun a20 =>
brr (a20.From == a20.To) (
cont ((IntKind.i64.wrap (v14 + 1)), l15, l16, l17, l18, l19)) (
clY yNo (r18_0v1.ok a20 (A2_Int.mk a20.From a20.To) p2 p3 l15 p5 p6 l16 l17 l18 l19) fun y21 =>
brr (!(Nat.beq y21.1 0)) (
doneA ((y21.1, y21.2.1, y21.2.2.1, y21.2.2.2.1, y21.2.2.2.2.1, y21.2.2.2.2.2))) (
brr (!a20.Directed) (
rdy 0 [97, 98] (rfA Try.f18 0) (rfB Try.f18 0) 202 [1, 2, 3, 4, 10, 11, 12, 13] [R 4, R 6, R 8, R 10, R 12, R 14, R 16, R 18] [.ret] y21.1 <|
clY yNo (r18_0v1.ok a20 (A2_Int.mk a20.To a20.From) p2 p3 y21.2.1 p5 p6 y21.2.2.1 y21.2.2.2.1 y21.2.2.2.2.1 y21.2.2.2.2.2) fun y22 =>
brr (!(Nat.beq y22.1 0)) (
doneA ((y22.1, y22.2.1, y22.2.2.1, y22.2.2.2.1, y22.2.2.2.2.1, y22.2.2.2.2.2))) (
rdy 0 [97, 98] (rfA Try.f18 0) (rfB Try.f18 0) 202 [1, 2, 3, 4, 10, 11, 12, 13] [R 4, R 6, R 8, R 10, R 12, R 14, R 16, R 18] [.ret] y22.1 <|
cont ((IntKind.i64.wrap (v14 + 1)), y22.2.1, y22.2.2.1, y22.2.2.2.1, y22.2.2.2.2.1, y22.2.2.2.2.2))) (
rdy 0 [97, 98] (rfA Try.f18 0) (rfB Try.f18 0) 202 [1, 2, 3, 4, 10, 11, 12, 13] [R 4, R 6, R 8, R 10, R 12, R 14, R 16, R 18] [.ret] y21.1 <|
cont ((IntKind.i64.wrap (v14 + 1)), y21.2.1, y21.2.2.1, y21.2.2.2.1, y21.2.2.2.2.1, y21.2.2.2.2.2))))) (
doneA (((0 : Nat), l15, l16, l17, l18, l19)))

noncomputable def f61v7 (p1 : List Edge) (p2 p3 : Int) (p4 : Bool) (p5 : Int) (p6 : List Int) (p7 : Int) (p8 : Bool) (p9 p10 : Strong_best) : Pg (Nat × Bool × Int × Bool × Strong_best × Strong_best) :=
loop1 ((0 : Int), p4, p7, p8, p9, p10) (fun s23 => f61v7.l1 p1 p2 p3 p5 p6 s23.1 s23.2.1 s23.2.2.1 s23.2.2.2.1 s23.2.2.2.2.1 s23.2.2.2.2.2) (fun s23 => ([(0, .yl 0), (5, V p1), (6, V (L p1 : Int)), (7, V s23.1)], [(0, .lp [97, 98] (rfA Try.f18 0) (rfB Try.f18 0) 202 [1, 2, 3, 4, 10, 11, 12, 13] [R 4, R 6, R 8, R 10, R 12, R 14, R 16, R 18] [.ret] 0), (2, B p1), (4, .varp [.int .i64 p2, .int .i64 p3, .nilsl, .nilsl, .nilsl]), (6, B s23.2.1), (8, B p5), (10, B p6), (12, mkVar (R 20)), (14, mkVar (R 22)), (16, B s23.2.2.1), (18, B s23.2.2.2.1), (20, B s23.2.2.2.2.1), (22, B s23.2.2.2.2.2)])) .inl fun r24 =>
.ret r24

theorem f61v7.ok (p1 : List Edge) (p2 p3 : Int) (p4 : Bool) (p5 : Int) (p6 : List Int) (p7 : Int) (p8 : Bool) (p9 p10 : Strong_best) {x} (h : (f61v7 p1 p2 p3 p4 p5 p6 p7 p8 p9 p10).run = some x) : Spec Try.prog 61 [.yl 0, R 2] [.lp [97, 98] (rfA Try.f18 0) (rfB Try.f18 0) 202 [1, 2, 3, 4, 10, 11, 12, 13] [R 4, R 6, R 8, R 10, R 12, R 14, R 16, R 18] [.ret] 0, B p1, .varp [.int .i64 p2, .int .i64 p3, .nilsl, .nilsl, .nilsl], B p4, B p5, B p6, mkVar (R 20), mkVar (R 22), B p7, B p8, B p9, B p10] (.tup []) [.lp [97, 98] (rfA Try.f18 0) (rfB Try.f18 0) 202 [1, 2, 3, 4, 10, 11, 12, 13] [R 4, R 6, R 8, R 10, R 12, R 14, R 16, R 18] [.ret] x.1, B p1, .varp [.int .i64 p2, .int .i64 p3, .nilsl, .nilsl, .nilsl], B x.2.1, B p5, B p6, mkVar (R 20), mkVar (R 22), B x.2.2.1, B x.2.2.2.1, B x.2.2.2.2.1, B x.2.2.2.2.2] :=
  Prg.ok Try.func61 (res := fun x => .tup []) (outs := fun x => [.lp [97, 98] (rfA Try.f18 0) (rfB Try.f18 0) 202 [1, 2, 3, 4, 10, 11, 12, 13] [R 4, R 6, R 8, R 10, R 12, R 14, R 16, R 18] [.ret] x.1, B p1, .varp [.int .i64 p2, .int .i64 p3, .nilsl, .nilsl, .nilsl], B x.2.1, B p5, B p6, mkVar (R 20), mkVar (R 22), B x.2.2.1, B x.2.2.2.1, B x.2.2.2.2.1, B x.2.2.2.2.2]) (by kernel_rfl) (by kernel_rfl) rfl h

noncomputable def f18v1.l1 (y3 y9 : List Int) (v17 : Int) : Pg (Nx Int (Ex (Bool) Unit Empty)) :=
brr (decide (v17 < (L y9 : Int))) (
getR y9 v17 fun a18 =>
cl (f43.ok ([] : List Named) a18) fun y19 =>
cl (f46.ok y19) fun y20 =>
brr (!y20) (
doneA (false)) (
getR y19 (0 : Int) fun a21 =>
getR y3 (0 : Int) fun a22 =>
brr (a21 == a22) (
getR y19 (5 : Int) fun a23 =>
getR y3 (5 : Int) fun a24 =>
brr (a23 != a24) (
doneA (false)) (
cont (IntKind.i64.wrap (v17 + 1)))) (
cont (IntKind.i64.wrap (v17 + 1))))) (
doneB ())

noncomputable def f18v1 (p1 p2 : Int) : Pg Bool :=
cl (f43.ok ([] : List Named) p1) fun y3 =>
join1 (.reg 5) (
cl (f46.ok y3) fun y5 =>
brr (!y5) (
retA' true) (
getR y3 (0 : Int) fun a6 =>
brr (decide (a6 > p1)) (
retA' true) (
clK [0] (f47v1.ok ([] : List Edge)) fun y7 =>
retA' y7))) (.cut .nat fun x8 => ([(1, R 101), (2, R 103), (3, R 105), (4, R 107), (44, V x8)], [(101, .varp [.int .i64 p1, .int .i64 p2, .nilsl, .nilsl, .nilsl]), (103, B false), (105, B p1), (107, B y3)])) fun x8 =>
brr x8 (
.ret (false)) (
cl (f41v2.ok p1 ([] : List Edge)) fun y9 =>
loop2 (0 : Int) (fun s25 => f18v1.l1 y3 y9 s25) (fun s25 => ([(1, R 101), (2, R 103), (3, R 105), (4, R 107), (48, V y9), (49, V (L y9 : Int)), (50, V s25)], [(101, .varp [.int .i64 p1, .int .i64 p2, .nilsl, .nilsl, .nilsl]), (103, B false), (105, B p1), (107, B y3)])) .inl (fun r26 =>
.ret r26) (.cut (.ext 0) fun _ => ([(1, R 101), (2, R 103), (3, R 105), (4, R 107)], [(101, .varp [.int .i64 p1, .int .i64 p2, .nilsl, .nilsl, .nilsl]), (103, B false), (105, B p1), (107, B y3)])) fun _ =>
getR y3 (1 : Int) fun a28 =>
getR y3 (3 : Int) fun a29 =>
getR y3 (5 : Int) fun a30 =>
cl (f27.ok ([] : List Edge)) fun _ =>
rfW [.ret] [1, 2, 3, 4, 10, 11, 12, 13] (f61v7.ok ([] : List Edge) p1 p2 false p1 y3 (1048576 : Int) (a30 == 0) (Strong_best.mk a28 (-1) false) (Strong_best.mk a29 (-1) false)) (fun y32 => y32.1) (fun y32 =>
getR y3 (0 : Int) fun a33 =>
join1 (.reg 33) (
getR y3 (2 : Int) fun a36 =>
clK [0] (f49.ok a36 (a33 == p1) y32.2.2.2.2.1) fun y37 =>
brr (!y37) (
retA' true) (
getR y3 (4 : Int) fun a38 =>
clK [0] (f49.ok a38 (a33 == p1) y32.2.2.2.2.2) fun y39 =>
retA' (!y39))) (.cut .nat fun x40 => ([(2, R 101), (4, R 103), (12, R 105), (13, R 107), (190, V x40)], [(101, B y32.2.1), (103, B y3), (105, B y32.2.2.1), (107, B y32.2.2.2.1)])) fun x40 =>
brr x40 (
.ret (false)) (
brr y32.2.2.2.1 (
getR y3 (6 : Int) fun a41 =>
.ret ((a41 == 0))) (
getR y3 (6 : Int) fun a42 =>
.ret ((a42 == (IntKind.i64.wrap (y32.2.2.1 + 1))))))) fun y32 =>
.ret (y32.2.1))

theorem f18v1.ok (p1 p2 : Int) {x} (h : (f18v1 p1 p2).run = some x) : Spec Try.prog 18 [.aggp [.int .i64 p1, .int .i64 p2, .nilsl, .nilsl, .nilsl]] [] (V x) [] :=
  Prg.ok Try.func18 (res := fun x => V x) (outs := fun x => []) (by kernel_rfl) (by kernel_rfl) rfl h

noncomputable def f14 (p1 : View) : Pg Int :=
cl (f43.ok p1.Labels p1.Vertex.ID) fun y2 =>
brr (decide ((L y2 : Int) > 0)) (
getR y2 (0 : Int) fun a3 =>
brr (a3 == p1.Vertex.ID) (
.ret ((1 : Int))) (
.ret ((0 : Int)))) (
.ret ((0 : Int)))

theorem f14.ok (p1 : View) {x} (h : (f14 p1).run = some x) : Spec Try.prog 14 [V p1] [] (V x) [] :=
  Prg.ok Try.func14 (res := fun x => V x) (outs := fun x => []) (by kernel_rfl) (by kernel_rfl) rfl h

noncomputable def f19.l1 (p1 p2 : List (List Int)) (v6 : Int) : Pg (Nx Int (Ex (Bool) Unit Empty)) :=
brr (decide (v6 < (L p1 : Int))) (
getR p1 v6 fun a7 =>
getR p2 v6 fun a8 =>
cl (f17.ok a7 a8) fun y9 =>
brr (!y9) (
doneA (false)) (
cont (IntKind.i64.wrap (v6 + 1)))) (
doneB ())

noncomputable def f19 (p1 p2 : List (List Int)) : Pg Bool :=
brr ((L p1 : Int) != (L p2 : Int)) (
.ret (false)) (
loop2 (0 : Int) (fun s10 => f19.l1 p1 p2 s10) (fun s10 => ([(0, V p1), (1, V p2), (5, V s10)], [])) .inl (fun r11 =>
.ret r11) (.cut (.ext 0) fun _ => ([], [])) fun _ =>
.ret (true))

theorem f19.ok (p1 p2 : List (List Int)) {x} (h : (f19 p1 p2).run = some x) : Spec Try.prog 19 [V p1, V p2] [] (V x) [] :=
  Prg.ok Try.func19 (res := fun x => V x) (outs := fun x => []) (by kernel_rfl) (by kernel_rfl) rfl h

noncomputable def f6 : Pg Bool :=
cl (f15.ok true) fun y1 =>
cl (f8.ok ([(Vertex.mk 0 0), (Vertex.mk 1 0), (Vertex.mk 2 0), (Vertex.mk 3 0)] : List Vertex) y1) fun y2 =>
cl (f15.ok false) fun y3 =>
cl (f8.ok ([(Vertex.mk 0 0), (Vertex.mk 1 0), (Vertex.mk 2 0), (Vertex.mk 3 0)] : List Vertex) y3) fun y4 =>
cl (f11.ok ([(Vertex.mk 0 0), (Vertex.mk 1 0), (Vertex.mk 2 0), (Vertex.mk 3 0)] : List Vertex) y1) fun y5 =>
cl (f10.ok ([(Vertex.mk 0 0), (Vertex.mk 1 0), (Vertex.mk 2 0), (Vertex.mk 3 0)] : List Vertex) y1 (0 : Int) (3 : Int)) fun y6 =>
cl (f10.ok ([(Vertex.mk 0 0), (Vertex.mk 1 0), (Vertex.mk 2 0), (Vertex.mk 3 0)] : List Vertex) y1 (2 : Int) (1 : Int)) fun y7 =>
brr (((((((((y2.2 != 0) || (y4.2 != 0)) || (y5.2 != 0)) || (y6.2 != 0)) || (y7.2 != 0)) || (!y6.1)) || y7.1) || ((L y2.1 : Int) != 4)) || ((L y4.1 : Int) != 4)) (
.ret (false)) (
cl (f13.ok ([(Vertex.mk 0 0), (Vertex.mk 1 0), (Vertex.mk 2 0), (Vertex.mk 3 0)] : List Vertex) y1 ([(Named.mk 0 ([0, 0, (-1), 0, (-1), 0, 0] : List Int)), (Named.mk 1 ([0, 1, 0, 1, 1, 0, 0] : List Int)), (Named.mk 2 ([2, 0, (-1), 0, (-1), 1, 0] : List Int)), (Named.mk 3 ([2, 1, 3, 1, 4, 1, 1] : List Int))] : List Named) (3 : Int)) fun y8 =>
ck (2 : Int) (L ([(Named.mk 0 ([0, 0, (-1), 0, (-1), 0, 0] : List Int)), (Named.mk 1 ([0, 1, 0, 1, 1, 0, 0] : List Int)), (Named.mk 2 ([2, 0, (-1), 0, (-1), 1, 0] : List Int)), (Named.mk 3 ([2, 1, 3, 1, 4, 1, 1] : List Int))] : List Named)) <|
rd ([(Named.mk 0 ([0, 0, (-1), 0, (-1), 0, 0] : List Int)), (Named.mk 1 ([0, 1, 0, 1, 1, 0, 0] : List Int)), (Named.mk 2 ([2, 0, (-1), 0, (-1), 1, 0] : List Int)), (Named.mk 3 ([2, 1, 3, 1, 4, 1, 1] : List Int))] : List Named) (at0 (2 : Int)) fun a9 =>
join1 (.reg 13) (
cl (f16.ok y2.1 ([(Named.mk 0 ([0, 0, (-1), 0, (-1), 0, 0] : List Int)), (Named.mk 1 ([0, 1, 0, 1, 1, 0, 0] : List Int)), (Named.mk 2 ([2, 0, (-1), 0, (-1), 1, 0] : List Int)), (Named.mk 3 ([2, 1, 3, 1, 4, 1, 1] : List Int))] : List Named)) fun y11 =>
brr y11 (
getR y4.1 (3 : Int) fun a12 =>
cl (f17.ok a12.Label ([0, 3, 3, 3, 4, 0, 0] : List Int)) fun y13 =>
retA' y13) (
retA' false)) (.cut .nat fun x14 => ([(6, V y5.1), (13, R 101), (14, V y8.2), (15, R 103), (16, V x14)], [(101, B y8.1), (103, .var [V y8.1.Vertex.ID, V y8.1.Vertex.Side, V y8.1.Depots, V y8.1.Edges, H Named 105]), (105, O ([(Named.mk 2 a9.Label), (Named.mk 3 ([2, 1, 3, 1, 4, 1, 0] : List Int))] : List Named))])) fun x14 =>
brr (x14 && (y8.2 == 0)) (
cl (f18.ok y8.1) fun y15 =>
brr y15 (
cl (f18.ok (View.mk y8.1.Vertex y8.1.Depots y8.1.Edges ([(Named.mk 2 a9.Label), (Named.mk 3 ([2, 1, 3, 1, 4, 1, 0] : List Int))] : List Named))) fun y16 =>
brr (!y16) (
cl (f18v1.ok (0 : Int) (0 : Int)) fun y17 =>
brr (!y17) (
cl (f14.ok y8.1) fun y18 =>
brr (y18 == 0) (
cl (f19.ok y5.1 ([([0, 1] : List Int), ([2, 3] : List Int)] : List (List Int))) fun y19 =>
.ret (y19)) (
.ret (false))) (
.ret (false))) (
.ret (false))) (
.ret (false))) (
.ret (false)))

theorem f6.ok {x} (h : (f6).run = some x) : Spec Try.prog 6 [] [] (V x) [] :=
  Prg.ok Try.func6 (res := fun x => V x) (outs := fun x => []) (by kernel_rfl) (by kernel_rfl) rfl h

noncomputable def f20 (p1 p2 : Int) : Pg Int :=
brr (decide (p1 < 0)) (
nzD p2 <|
.ret (((IntKind.i64.wrap (0 - (IntKind.i64.wrap (p1 + 1)))).tmod p2))) (
nzD p2 <|
.ret ((p1.tmod p2)))

theorem f20.ok (p1 p2 : Int) {x} (h : (f20 p1 p2).run = some x) : Spec Try.prog 20 [V p1, V p2] [] (V x) [] :=
  Prg.ok Try.func20 (res := fun x => V x) (outs := fun x => []) (by kernel_rfl) (by kernel_rfl) rfl h

noncomputable def f7.l3 (p1 x5 : Int) (x30 : List Vertex) (v98 : Int) (l99 : List Int) : Pg (Nx (Int × (List Int)) (Ex (List Int) Empty Empty)) :=
cl (f20.ok (IntKind.i64.wrap (p1.tdiv 32)) (4 : Int)) fun y100 =>
brr ((decide (v98 < y100)) && (decide (v98 < x5))) (
ck v98 (L x30) <|
rd x30 (at0 v98) fun a101 =>
ap l99 ([a101.ID] : List Int) fun l102 =>
cont ((IntKind.i64.wrap (v98 + 1)), l102)) (
doneA l99)

noncomputable def f7.l2 (p1 : Int) (p2 : List A5_Int) (x5 : Int) (x30 : List Vertex) (v69 : Int) (l70 : List Edge) : Pg (Nx (Int × (List Edge)) (Ex (List Edge) Empty Empty)) :=
brr ((decide (v69 < (L p2 : Int))) && (decide (v69 < 20))) (
cl (f20.ok (IntKind.i64.wrap (p1.tdiv 4)) (20 : Int)) fun y71 =>
getR p2 v69 fun a72 =>
cl (f20.ok a72.x0 x5) fun y73 =>
ck y73 (L x30) <|
rd x30 (at0 y73) fun a74 =>
getR p2 v69 fun a75 =>
cl (f20.ok a75.x1 x5) fun y76 =>
ck y76 (L x30) <|
rd x30 (at0 y76) fun a77 =>
getR p2 v69 fun a78 =>
cl (f20.ok a78.x2 (2 : Int)) fun y79 =>
getR p2 v69 fun a80 =>
cl (f20.ok a80.x3 (12 : Int)) fun y81 =>
getR p2 v69 fun a82 =>
cl (f20.ok a82.x4 (6 : Int)) fun y83 =>
getR p2 v69 fun a84 =>
cl (f20.ok a84.x4 (11 : Int)) fun y85 =>
join1 (.cond 122) (
brr (y85 == 10) (
getR p2 v69 fun a86 =>
cl (f20.ok a86.x3 (2001 : Int)) fun y87 =>
retA' (Edge.mk (IntKind.i64.wrap (v69 + y71)) a74.ID a77.ID (y79 == 1) (IntKind.i64.wrap (y87 - 1000)) y83)) (
retA' (Edge.mk (IntKind.i64.wrap (v69 + y71)) a74.ID a77.ID (y79 == 1) (IntKind.i64.wrap (y81 - 3)) y83))) (.cut .nat fun x88 => ([(0, V p1), (1, V p2), (6, R 101), (7, R 103), (8, V x5), (11, V v69), (12, R 105)], [(101, .varp [.nilsl, .nilsl, .nilsl]), (103, .var [H Vertex 107, H Edge 109, .pv .nilsl]), (105, B x88), (107, O x30), (109, O l70)])) fun x88 =>
ap l70 ([x88] : List Edge) fun l89 =>
cont ((IntKind.i64.wrap (v69 + 1)), l89)) (
doneA l70)

noncomputable def f7.l1 (p1 : Int) (p2 : List A5_Int) (p3 : Bool) (x5 : Int) (v20 : Int) (l21 : List Vertex) : Pg (Nx (Int × (List Vertex)) (Ex (List Vertex) Empty Empty)) :=
brr (decide (v20 < x5)) (
join1 (.reg 9) (
brr (!p3) (
cl (f20.ok (IntKind.i64.wrap (p1.tdiv 8)) (2 : Int)) fun y22 =>
retA' (y22 == 1)) (
retA' false)) (.cut .nat fun x23 => ([(0, V p1), (1, V p2), (2, V p3), (6, R 101), (7, R 103), (8, V x5), (9, V v20), (10, V v20), (34, V x23)], [(101, .varp [.nilsl, .nilsl, .nilsl]), (103, .var [H Vertex 105, .pv .nilsl, .pv .nilsl]), (105, O l21)])) fun x23 =>
join1 (.cond 34) (
brr x23 (
retA' (IntKind.i64.wrap (v20 + (IntKind.i64.wrap (v20.tdiv 2))))) (
retA' v20)) (.cut .nat fun x24 => ([(0, V p1), (1, V p2), (2, V p3), (6, R 101), (7, R 103), (8, V x5), (9, V v20), (10, V x24)], [(101, .varp [.nilsl, .nilsl, .nilsl]), (103, .var [H Vertex 105, .pv .nilsl, .pv .nilsl]), (105, O l21)])) fun x24 =>
cl (f20.ok (IntKind.i64.wrap (p1.tdiv 64)) (3 : Int)) fun y25 =>
let e26 : Int := (IntKind.i64.wrap ((IntKind.i64.wrap (p1.tdiv 16)) + (IntKind.i64.wrap (v20 * (IntKind.i64.wrap (1 + y25))))))
cl (f20.ok e26 (4 : Int)) fun y27 =>
ap l21 ([(Vertex.mk x24 y27)] : List Vertex) fun l28 =>
cont ((IntKind.i64.wrap (v20 + 1)), l28)) (
doneA l21)

noncomputable def f7 (p1 : Int) (p2 : List A5_Int) (p3 : Bool) : Pg Graph :=
cl (f20.ok p1 (8 : Int)) fun y4 =>
join1 (.cond 18) (
brr p3 (
retA' (IntKind.i64.wrap ((IntKind.i64.wrap (1 + y4)) + 10))) (
retA' (IntKind.i64.wrap (1 + y4)))) (.cut .nat fun x5 => ([(0, V p1), (1, V p2), (2, V p3), (6, R 101), (7, R 103), (8, V x5)], [(101, .varp [.nilsl, .nilsl, .nilsl]), (103, .varp [.nilsl, .nilsl, .nilsl])])) fun x5 =>
loop1 ((0 : Int), ([] : List Vertex)) (fun s29 => f7.l1 p1 p2 p3 x5 s29.1 s29.2) (fun s29 => ([(0, V p1), (1, V p2), (2, V p3), (6, R 101), (7, R 103), (8, V x5), (9, V s29.1)], [(101, .varp [.nilsl, .nilsl, .nilsl]), (103, .var [H Vertex 501, .pv .nilsl, .pv .nilsl]), (501, O s29.2)])) (.cut (.ext 0) fun x30 => ([(0, V p1), (1, V p2), (6, R 101), (7, R 103), (8, V x5)], [(101, .varp [.nilsl, .nilsl, .nilsl]), (103, .var [H Vertex 105, .pv .nilsl, .pv .nilsl]), (105, O x30)])) fun x30 =>
loop1 ((0 : Int), ([] : List Edge)) (fun s90 => f7.l2 p1 p2 x5 x30 s90.1 s90.2) (fun s90 => ([(0, V p1), (1, V p2), (6, R 101), (7, R 103), (8, V x5), (11, V s90.1)], [(101, .varp [.nilsl, .nilsl, .nilsl]), (103, .var [H Vertex 105, H Edge 501, .pv .nilsl]), (105, O x30), (501, O s90.2)])) (.cut (.ext 2) fun x91 => ([(0, V p1), (6, R 101), (7, R 103), (8, V x5)], [(101, .varp [.nilsl, .nilsl, .nilsl]), (103, .var [H Vertex 105, H Edge 107, .pv .nilsl]), (105, O x30), (107, O x91)])) fun x91 =>
loop1 ((0 : Int), ([] : List Int)) (fun s103 => f7.l3 p1 x5 x30 s103.1 s103.2) (fun s103 => ([(0, V p1), (6, R 101), (7, R 103), (8, V x5), (13, V s103.1)], [(101, .varp [.nilsl, .nilsl, .nilsl]), (103, .var [H Vertex 105, H Edge 107, H Int 501]), (105, O x30), (107, O x91), (501, O s103.2)])) (.cut (.ext 4) fun x104 => ([(6, R 101), (7, R 103)], [(101, .varp [.nilsl, .nilsl, .nilsl]), (103, .var [H Vertex 105, H Edge 107, H Int 109]), (105, O x30), (107, O x91), (109, O x104)])) fun x104 =>
.ret ((Graph.mk x30 x91 x104))

theorem f7.ok (p1 : Int) (p2 : List A5_Int) (p3 : Bool) {x} (h : (f7 p1 p2 p3).run = some x) : Spec Try.prog 7 [V p1, V p2, V p3] [] (V x) [] :=
  Prg.ok Try.func7 (res := fun x => V x) (outs := fun x => []) (by kernel_rfl) (by kernel_rfl) rfl h

noncomputable def f76v1 (p1 : Int) (p2 : Graph_change) : Pg (Int × Bool) :=
cl (f86.ok p2.Graph.Vertices p1) fun y3 =>
.ret ((y3.1, y3.2))

theorem f76v1.ok (p1 : Int) (p2 : Graph_change) {x} (h : (f76v1 p1 p2).run = some x) : Spec Try.prog 76 [R 0, V p1] [B p2] (.tup [V x.1, V x.2]) [B p2] :=
  Prg.ok Try.func76 (res := fun x => .tup [V x.1, V x.2]) (outs := fun x => [B p2]) (by kernel_rfl) (by kernel_rfl) rfl h

noncomputable def f56v1 (p1 : Int) (p2 : Graph_change) : Pg Bool :=
cl (f76v1.ok p1 p2) fun y3 =>
.ret (y3.2)

theorem f56v1.ok (p1 : Int) (p2 : Graph_change) {x} (h : (f56v1 p1 p2).run = some x) : Spec Try.prog 56 [R 0, V p1] [B p2] (V x) [B p2] :=
  Prg.ok Try.func56 (res := fun x => V x) (outs := fun x => [B p2]) (by kernel_rfl) (by kernel_rfl) rfl h

noncomputable def f54v1 (p1 : Edge) (p2 : Graph_change) : Pg Bool :=
cl (f55.ok p1) fun y3 =>
brr (!y3) (
.ret (true)) (
cl (f56v1.ok p1.From p2) fun y4 =>
brr (!y4) (
.ret (true)) (
cl (f56v1.ok p1.To p2) fun y5 =>
.ret ((!y5))))

theorem f54v1.ok (p1 : Edge) (p2 : Graph_change) {x} (h : (f54v1 p1 p2).run = some x) : Spec Try.prog 54 [V p1, R 0] [mkVar (R 2), B p2] (V x) [mkVar (R 2), B p2] :=
  Prg.ok Try.func54 (res := fun x => V x) (outs := fun x => [mkVar (R 2), B p2]) (by kernel_rfl) (by kernel_rfl) rfl h

noncomputable def f74v2.l1 (p1 : List Edge) (p2 : Graph_change) (v5 : Int) : Pg (Nx Int (Ex (Int) Unit Empty)) :=
brr (decide (v5 < (L p1 : Int))) (
getR p1 v5 fun a6 =>
cl (f54v1.ok a6 p2) fun y7 =>
brr y7 (
doneA (v5)) (
cont (IntKind.i64.wrap (v5 + 1)))) (
doneB ())

noncomputable def f74v2 (p1 : List Edge) (p2 : Graph_change) : Pg Int :=
loop2 (0 : Int) (fun s8 => f74v2.l1 p1 p2 s8) (fun s8 => ([(0, V p1), (1, .clo 54 [R 0]), (7, V (L p1 : Int)), (8, V s8)], [(0, mkVar (R 2)), (2, B p2)])) .inl (fun r9 =>
.ret r9) (.cut (.ext 0) fun _ => ([], [(0, mkVar (R 2)), (2, B p2)])) fun _ =>
.ret (((-1) : Int))

theorem f74v2.ok (p1 : List Edge) (p2 : Graph_change) {x} (h : (f74v2 p1 p2).run = some x) : Spec Try.prog 74 [V p1, .clo 54 [R 0]] [mkVar (R 2), B p2] (V x) [mkVar (R 2), B p2] :=
  Prg.ok Try.func74 (res := fun x => V x) (outs := fun x => [mkVar (R 2), B p2]) (by kernel_rfl) (by kernel_rfl) rfl h

noncomputable def f47v2 (p1 : List Edge) (p2 : Graph_change) : Pg Bool :=
cl (f74v2.ok p1 p2) fun y3 =>
.ret ((decide (y3 ≥ 0)))

theorem f47v2.ok (p1 : List Edge) (p2 : Graph_change) {x} (h : (f47v2 p1 p2).run = some x) : Spec Try.prog 47 [V p1, .clo 54 [R 0]] [mkVar (R 2), B p2] (V x) [mkVar (R 2), B p2] :=
  Prg.ok Try.func47 (res := fun x => V x) (outs := fun x => [mkVar (R 2), B p2]) (by kernel_rfl) (by kernel_rfl) rfl h

noncomputable def f80v1 (p1 : Int) (p2 : Graph_change) : Pg Bool :=
cl (f56v1.ok p1 p2) fun y3 =>
.ret ((!y3))

theorem f80v1.ok (p1 : Int) (p2 : Graph_change) {x} (h : (f80v1 p1 p2).run = some x) : Spec Try.prog 80 [V p1, R 0] [mkVar (R 2), B p2] (V x) [mkVar (R 2), B p2] :=
  Prg.ok Try.func80 (res := fun x => V x) (outs := fun x => [mkVar (R 2), B p2]) (by kernel_rfl) (by kernel_rfl) rfl h

noncomputable def f85v5.l1 (p1 : List Int) (p2 : Graph_change) (v5 : Int) : Pg (Nx Int (Ex (Int) Unit Empty)) :=
brr (decide (v5 < (L p1 : Int))) (
getR p1 v5 fun a6 =>
cl (f80v1.ok a6 p2) fun y7 =>
brr y7 (
doneA (v5)) (
cont (IntKind.i64.wrap (v5 + 1)))) (
doneB ())

noncomputable def f85v5 (p1 : List Int) (p2 : Graph_change) : Pg Int :=
loop2 (0 : Int) (fun s8 => f85v5.l1 p1 p2 s8) (fun s8 => ([(0, V p1), (1, .clo 80 [R 0]), (7, V (L p1 : Int)), (8, V s8)], [(0, mkVar (R 2)), (2, B p2)])) .inl (fun r9 =>
.ret r9) (.cut (.ext 0) fun _ => ([], [(0, mkVar (R 2)), (2, B p2)])) fun _ =>
.ret (((-1) : Int))

theorem f85v5.ok (p1 : List Int) (p2 : Graph_change) {x} (h : (f85v5 p1 p2).run = some x) : Spec Try.prog 85 [V p1, .clo 80 [R 0]] [mkVar (R 2), B p2] (V x) [mkVar (R 2), B p2] :=
  Prg.ok Try.func85 (res := fun x => V x) (outs := fun x => [mkVar (R 2), B p2]) (by kernel_rfl) (by kernel_rfl) rfl h

noncomputable def f79v1 (p1 : List Int) (p2 : Graph_change) : Pg Bool :=
cl (f85v5.ok p1 p2) fun y3 =>
.ret ((decide (y3 ≥ 0)))

theorem f79v1.ok (p1 : List Int) (p2 : Graph_change) {x} (h : (f79v1 p1 p2).run = some x) : Spec Try.prog 79 [V p1, .clo 80 [R 0]] [mkVar (R 2), B p2] (V x) [mkVar (R 2), B p2] :=
  Prg.ok Try.func79 (res := fun x => V x) (outs := fun x => [mkVar (R 2), B p2]) (by kernel_rfl) (by kernel_rfl) rfl h

noncomputable def f59v1 (p1 : Graph_change) : Pg Bool :=
brr (decide ((L p1.Graph.Depots : Int) ≤ 3)) (
cl (f77.ok p1.Graph.Depots) fun y2 =>
brr y2 (
cl (f79v1.ok p1.Graph.Depots p1) fun y3 =>
.ret ((!y3))) (
.ret (false))) (
.ret (false))

theorem f59v1.ok (p1 : Graph_change) {x} (h : (f59v1 p1).run = some x) : Spec Try.prog 59 [R 0] [B p1] (V x) [B p1] :=
  Prg.ok Try.func59 (res := fun x => V x) (outs := fun x => [B p1]) (by kernel_rfl) (by kernel_rfl) rfl h

noncomputable def f21v1 (p1 : Graph) : Pg Bool :=
join1 (.reg 1) (
cl (f50.ok p1.Vertices) fun y3 =>
brr (!y3) (
retA' true) (
cl (f52.ok p1.Edges) fun y4 =>
retA' (!y4))) (.cut .nat fun x5 => ([(1, R 101), (14, V x5)], [(101, B p1)])) fun x5 =>
brr x5 (
.ret (false)) (
cl (f30.ok p1.Vertices) fun y6 =>
brr (!y6) (
cl (f47v2.ok p1.Edges (Graph_change.mk p1)) fun y7 =>
brr (!y7) (
cl (f59v1.ok (Graph_change.mk ((Graph_change.mk p1).Graph))) fun y8 =>
.ret (y8)) (
.ret (false))) (
.ret (false)))

theorem f21v1.ok (p1 : Graph) {x} (h : (f21v1 p1).run = some x) : Spec Try.prog 21 [V p1] [] (V x) [] :=
  Prg.ok Try.func21 (res := fun x => V x) (outs := fun x => []) (by kernel_rfl) (by kernel_rfl) rfl h

noncomputable def f32v1.l2 (p1 : Graph) (l16 : List U32) : Pg (Nx (List U32) (Ex (List U32) Empty Empty)) :=
cl (f27.ok p1.Edges) fun _ =>
rf0 [6] (f61.ok p1.Edges l16) fun y18 =>
eqW y18 l16 <|
brr (eqL y18 l16) (
doneA (l16)) (
cont y18)

noncomputable def f32v1.l1 (p1 : Graph) (v6 : Int) (l7 : List U32) : Pg (Nx (Int × (List U32)) (Ex (List U32) Empty Empty)) :=
brr (decide (v6 < (L p1.Vertices : Int))) (
getR p1.Vertices v6 fun a8 =>
ck a8.ID 24 <|
rd l7 a8.ID.toNat fun a9 =>
nnS a8.ID <|
ck a8.ID 24 <|
st l7 a8.ID.toNat (fun x10 => (orI .u32 (U32.i a9) (IntKind.u32.wrap (1 * (2 ^ (min (a8.ID : Int).toNat IntKind.u32.bits)))))) fun l11 =>
cont ((IntKind.i64.wrap (v6 + 1)), l11)) (
doneA l7)

noncomputable def f32v1 (p1 : Graph) : Pg (List U32) :=
loop1 ((0 : Int), (List.replicate 24 (0 : Int) : List U32)) (fun s12 => f32v1.l1 p1 s12.1 s12.2) (fun s12 => ([(1, R 101), (2, R 103), (3, R 105), (10, V p1.Vertices), (11, V (L p1.Vertices : Int)), (12, V s12.1)], [(101, B p1), (103, BA 24 (List.replicate 24 (0 : Int) : List U32)), (105, BA 24 s12.2)])) (.cut (.ext 0) fun x13 => ([(1, R 101), (2, R 103), (3, R 105)], [(101, B p1), (103, BA 24 (List.replicate 24 (0 : Int) : List U32)), (105, BA 24 x13)])) fun x13 =>
loop1 x13 (fun s19 => f32v1.l2 p1 s19) (fun s19 => ([(1, R 101), (2, R 103), (3, R 105)], [(101, B p1), (103, BA 24 (List.replicate 24 (0 : Int) : List U32)), (105, BA 24 s19)])) .inl fun r20 =>
.ret r20

theorem f32v1.ok (p1 : Graph) {x} (h : (f32v1 p1).run = some x) : Spec Try.prog 32 [V p1] [] (Ar 24 x) [] :=
  Prg.ok Try.func32 (res := fun x => Ar 24 x) (outs := fun x => []) (by kernel_rfl) (by kernel_rfl) rfl h

noncomputable def r22_0v1 (p1 : Edge) (p2 : A2_Int) (p3 : List Vertex) (p4 : List Edge) (p5 p6 p7 : List Int) (p8 : List (List Int)) : Pg (List (List Int)) :=
ck p2.x0 24 <|
rd p6 p2.x0.toNat fun a9 =>
ck p2.x1 24 <|
rd p6 p2.x1.toNat fun a10 =>
brr (a9 == a10) (
opnW 4 5 51 0 24 p2.x0.toNat [] p8 fun l11 =>
opnW 4 7 75 24 24 p2.x1.toNat [(0 + p2.x0.toNat)] p8 fun l12 =>
ck p2.x0 24 <|
ldW 0 24 p2.x0.toNat (0 + p2.x0.toNat) 1 <|
ap l11 ([p2.x1] : List Int) fun l13 =>
ck p2.x1 24 <|
ldW 24 24 p2.x1.toNat (24 + p2.x1.toNat) 0 <|
ap l12 ([p2.x0] : List Int) fun l14 =>
ck p2.x0 24 <|
stW 0 24 p2.x0.toNat (0 + p2.x0.toNat) 1 <|
ck p2.x1 24 <|
stW 24 24 p2.x1.toNat (24 + p2.x1.toNat) 0 <|
clsW 4 (24 + p2.x1.toNat) p8 l14 fun l15 =>
clsW 4 (0 + p2.x0.toNat) l15 l13 fun l16 =>
.ret (l16)) (
.ret (p8))

theorem r22_0v1.ok (p1 : Edge) (p2 : A2_Int) (p3 : List Vertex) (p4 : List Edge) (p5 p6 p7 : List Int) (p8 : List (List Int)) {x} (h : (r22_0v1 p1 p2 p3 p4 p5 p6 p7 p8).run = some x) : RSpec Try.prog (.yl 0 :: [V p1, V p2]) [.lp [51, 52] (rfA Try.f22 0) (rfB Try.f22 0) 121 [3] [R 2] [] 0, mkVar (R 4), .own [V p3, V p4, V p5, Ar 24 p6, Ar 24 p7, ownR 24, ownR 24] [(75, 24, 24), (51, 0, 24)] (mE p8) []] (V true) [.lp [51, 52] (rfA Try.f22 0) (rfB Try.f22 0) 121 [3] [R 2] [] 0, mkVar (R 4), .own [V p3, V p4, V p5, Ar 24 p6, Ar 24 p7, ownR 24, ownR 24] [(75, 24, 24), (51, 0, 24)] (mE x) []] :=
  Prg.okR (pe := fun x => 0) (outs := fun x => [mkVar (R 4), .own [V p3, V p4, V p5, Ar 24 p6, Ar 24 p7, ownR 24, ownR 24] [(75, 24, 24), (51, 0, 24)] (mE x) []]) (by kernel_rfl) (by kernel_rfl) rfl h

noncomputable def f61v8.l1 (p1 : List Edge) (p2 : List Vertex) (p3 : List Edge) (p4 p5 p6 : List Int) (v11 : Int) (l12 : List (List Int)) : Pg (Nx (Int × (List (List Int))) (Ex (List (List Int)) Empty Empty)) :=
brr (decide (v11 < (L p1 : Int))) (
getR p1 v11 fun a13 =>
brr (a13.From == a13.To) (
cont ((IntKind.i64.wrap (v11 + 1)), l12)) (
clY yNo (r22_0v1.ok a13 (A2_Int.mk a13.From a13.To) p2 p3 p4 p5 p6 l12) fun y14 =>
brr (!true) (
doneA (y14)) (
brr (!a13.Directed) (
clY yNo (r22_0v1.ok a13 (A2_Int.mk a13.To a13.From) p2 p3 p4 p5 p6 y14) fun y15 =>
brr (!true) (
doneA (y15)) (
cont ((IntKind.i64.wrap (v11 + 1)), y15))) (
cont ((IntKind.i64.wrap (v11 + 1)), y14))))) (
doneA (l12))

noncomputable def f61v8 (p1 : List Edge) (p2 : List Vertex) (p3 : List Edge) (p4 p5 p6 : List Int) (p7 : List (List Int)) : Pg (List (List Int)) :=
loop1 ((0 : Int), p7) (fun s16 => f61v8.l1 p1 p2 p3 p4 p5 p6 s16.1 s16.2) (fun s16 => ([(0, .yl 0), (5, V p1), (6, V (L p1 : Int)), (7, V s16.1)], [(0, .lp [51, 52] (rfA Try.f22 0) (rfB Try.f22 0) 121 [3] [R 4] [] 0), (2, B p1), (4, mkVar (R 6)), (6, .own [V p2, V p3, V p4, Ar 24 p5, Ar 24 p6, ownR 24, ownR 24] [(75, 24, 24), (51, 0, 24)] (mE s16.2) [])])) .inl fun r17 =>
.ret r17

theorem f61v8.ok (p1 : List Edge) (p2 : List Vertex) (p3 : List Edge) (p4 p5 p6 : List Int) (p7 : List (List Int)) {x} (h : (f61v8 p1 p2 p3 p4 p5 p6 p7).run = some x) : Spec Try.prog 61 [.yl 0, R 2] [.lp [51, 52] (rfA Try.f22 0) (rfB Try.f22 0) 121 [3] [R 4] [] 0, B p1, mkVar (R 6), .own [V p2, V p3, V p4, Ar 24 p5, Ar 24 p6, ownR 24, ownR 24] [(75, 24, 24), (51, 0, 24)] (mE p7) []] (.tup []) [.lp [51, 52] (rfA Try.f22 0) (rfB Try.f22 0) 121 [3] [R 4] [] 0, B p1, mkVar (R 6), .own [V p2, V p3, V p4, Ar 24 p5, Ar 24 p6, ownR 24, ownR 24] [(75, 24, 24), (51, 0, 24)] (mE x) []] :=
  Prg.ok Try.func61 (res := fun x => .tup []) (outs := fun x => [.lp [51, 52] (rfA Try.f22 0) (rfB Try.f22 0) 121 [3] [R 4] [] 0, B p1, mkVar (R 6), .own [V p2, V p3, V p4, Ar 24 p5, Ar 24 p6, ownR 24, ownR 24] [(75, 24, 24), (51, 0, 24)] (mE x) []]) (by kernel_rfl) (by kernel_rfl) rfl h

noncomputable def r60_0v1.l1 (p2 : A2_Int) (p7 p8 : List Int) (v19 : Int) (l20 : List Int) : Pg (Nx (Int × (List Int)) (Ex (List Int) Empty Empty)) :=
brr (decide (v19 < 24)) (
ck v19 24 <|
rd p7 v19.toNat fun a21 =>
ck p2.x1 24 <|
rd p7 p2.x1.toNat fun a22 =>
brr (a21 == a22) (
ck v19 24 <|
rd l20 v19.toNat fun a23 =>
ck p2.x0 24 <|
rd p8 p2.x0.toNat fun a24 =>
ck v19 24 <|
st l20 v19.toNat (fun x25 => (if (IntKind.i64.wrap (a24 + 1)) > a23 then (IntKind.i64.wrap (a24 + 1)) else a23)) fun l26 =>
cont ((IntKind.i64.wrap (v19 + 1)), l26)) (
cont ((IntKind.i64.wrap (v19 + 1)), l20))) (
doneA l20)

noncomputable def r60_0v1 (p1 : Edge) (p2 : A2_Int) (p3 : List Int) (p4 : List Vertex) (p5 : List Edge) (p6 p7 p8 : List Int) (p9 p10 : List (List Int)) : Pg (List Int) :=
ck p2.x0 24 <|
rd p7 p2.x0.toNat fun a11 =>
ck p2.x1 24 <|
rd p7 p2.x1.toNat fun a12 =>
brr (a11 == a12) (
.ret (p3)) (
loop1 ((0 : Int), p3) (fun s27 => r60_0v1.l1 p2 p7 p8 s27.1 s27.2) (fun s27 => ([(1, R 2), (3, R 4), (6, V p2.x0), (7, V p2.x1), (38, V s27.1)], [(0, .dead), (2, mkVar (R 6)), (4, BA 24 s27.2), (6, .svar [V p4, V p5, V p6, Ar 24 p7, Ar 24 p8, Ar 24 p9, Ar 24 p10])])) (.cut (.ext 2) fun x28 => ([], [(0, .dead), (2, mkVar (R 6)), (4, BA 24 x28), (6, .svar [V p4, V p5, V p6, Ar 24 p7, Ar 24 p8, Ar 24 p9, Ar 24 p10])])) fun x28 =>
.ret (x28))

theorem r60_0v1.ok (p1 : Edge) (p2 : A2_Int) (p3 : List Int) (p4 : List Vertex) (p5 : List Edge) (p6 p7 p8 : List Int) (p9 p10 : List (List Int)) {x} (h : (r60_0v1 p1 p2 p3 p4 p5 p6 p7 p8 p9 p10).run = some x) : RSpec Try.prog (.yl 0 :: [V p1, V p2]) [.lp [19, 20] (rfA Try.f60 0) (rfB Try.f60 0) 69 [1, 3] [R 2, R 4] [] 0, mkVar (R 6), BA 24 p3, .svar [V p4, V p5, V p6, Ar 24 p7, Ar 24 p8, Ar 24 p9, Ar 24 p10]] (V true) [.lp [19, 20] (rfA Try.f60 0) (rfB Try.f60 0) 69 [1, 3] [R 2, R 4] [] 0, mkVar (R 6), BA 24 x, .svar [V p4, V p5, V p6, Ar 24 p7, Ar 24 p8, Ar 24 p9, Ar 24 p10]] :=
  Prg.okR (pe := fun x => 0) (outs := fun x => [mkVar (R 6), BA 24 x, .svar [V p4, V p5, V p6, Ar 24 p7, Ar 24 p8, Ar 24 p9, Ar 24 p10]]) (by kernel_rfl) (by kernel_rfl) rfl h

noncomputable def f61v9.l1 (p1 : List Edge) (p3 : List Vertex) (p4 : List Edge) (p5 p6 p7 : List Int) (p8 p9 : List (List Int)) (v13 : Int) (l14 : List Int) : Pg (Nx (Int × (List Int)) (Ex (List Int) Empty Empty)) :=
brr (decide (v13 < (L p1 : Int))) (
getR p1 v13 fun a15 =>
brr (a15.From == a15.To) (
cont ((IntKind.i64.wrap (v13 + 1)), l14)) (
clY yNo (r60_0v1.ok a15 (A2_Int.mk a15.From a15.To) l14 p3 p4 p5 p6 p7 p8 p9) fun y16 =>
brr (!true) (
doneA (y16)) (
brr (!a15.Directed) (
clY yNo (r60_0v1.ok a15 (A2_Int.mk a15.To a15.From) y16 p3 p4 p5 p6 p7 p8 p9) fun y17 =>
brr (!true) (
doneA (y17)) (
cont ((IntKind.i64.wrap (v13 + 1)), y17))) (
cont ((IntKind.i64.wrap (v13 + 1)), y16))))) (
doneA (l14))

noncomputable def f61v9 (p1 : List Edge) (p2 : List Int) (p3 : List Vertex) (p4 : List Edge) (p5 p6 p7 : List Int) (p8 p9 : List (List Int)) : Pg (List Int) :=
loop1 ((0 : Int), p2) (fun s18 => f61v9.l1 p1 p3 p4 p5 p6 p7 p8 p9 s18.1 s18.2) (fun s18 => ([(0, .yl 0), (5, V p1), (6, V (L p1 : Int)), (7, V s18.1)], [(0, .lp [19, 20] (rfA Try.f60 0) (rfB Try.f60 0) 69 [1, 3] [R 4, R 6] [] 0), (2, B p1), (4, mkVar (R 8)), (6, BA 24 s18.2), (8, .svar [V p3, V p4, V p5, Ar 24 p6, Ar 24 p7, Ar 24 p8, Ar 24 p9])])) .inl fun r19 =>
.ret r19

theorem f61v9.ok (p1 : List Edge) (p2 : List Int) (p3 : List Vertex) (p4 : List Edge) (p5 p6 p7 : List Int) (p8 p9 : List (List Int)) {x} (h : (f61v9 p1 p2 p3 p4 p5 p6 p7 p8 p9).run = some x) : Spec Try.prog 61 [.yl 0, R 2] [.lp [19, 20] (rfA Try.f60 0) (rfB Try.f60 0) 69 [1, 3] [R 4, R 6] [] 0, B p1, mkVar (R 8), BA 24 p2, .svar [V p3, V p4, V p5, Ar 24 p6, Ar 24 p7, Ar 24 p8, Ar 24 p9]] (.tup []) [.lp [19, 20] (rfA Try.f60 0) (rfB Try.f60 0) 69 [1, 3] [R 4, R 6] [] 0, B p1, mkVar (R 8), BA 24 x, .svar [V p3, V p4, V p5, Ar 24 p6, Ar 24 p7, Ar 24 p8, Ar 24 p9]] :=
  Prg.ok Try.func61 (res := fun x => .tup []) (outs := fun x => [.lp [19, 20] (rfA Try.f60 0) (rfB Try.f60 0) 69 [1, 3] [R 4, R 6] [] 0, B p1, mkVar (R 8), BA 24 x, .svar [V p3, V p4, V p5, Ar 24 p6, Ar 24 p7, Ar 24 p8, Ar 24 p9]]) (by kernel_rfl) (by kernel_rfl) rfl h

noncomputable def f60v1 (p1 : List Vertex) (p2 : List Edge) (p3 p4 p5 : List Int) (p6 p7 : List (List Int)) : Pg (List Int) :=
cl (f27.ok p2) fun _ =>
rf0 [1, 3] (f61v9.ok p2 p5 p1 p2 p3 p4 p5 p6 p7) fun y9 =>
.ret (y9)

theorem f60v1.ok (p1 : List Vertex) (p2 : List Edge) (p3 p4 p5 : List Int) (p6 p7 : List (List Int)) {x} (h : (f60v1 p1 p2 p3 p4 p5 p6 p7).run = some x) : Spec Try.prog 60 [R 0] [.svar [V p1, V p2, V p3, Ar 24 p4, Ar 24 p5, Ar 24 p6, Ar 24 p7]] (Ar 24 x) [.svar [V p1, V p2, V p3, Ar 24 p4, Ar 24 p5, Ar 24 p6, Ar 24 p7]] :=
  Prg.ok Try.func60 (res := fun x => Ar 24 x) (outs := fun x => [.svar [V p1, V p2, V p3, Ar 24 p4, Ar 24 p5, Ar 24 p6, Ar 24 p7]]) (by kernel_rfl) (by kernel_rfl) rfl h

noncomputable def f22v1.l1 (p1 : Graph) (y2 : List U32) (v19 : Int) (l20 : List Int) (a21 : Vertex) (v28 : Int) : Pg (Nx Int (Ex (List Int) Empty Empty)) :=
brr (decide (v28 < 24)) (
join1 (.reg 9) (
cl (f33.ok y2 a21.ID v28) fun y30 =>
brr y30 (
cl (f33v1.ok y2 v28 a21.ID) fun y31 =>
retA' y31) (
retA' false)) (.cut .nat fun x32 => ([(1, R 101), (3, R 103), (4, R 105), (6, R 107), (7, V v28), (18, V p1.Vertices), (19, V (L p1.Vertices : Int)), (20, V v19), (24, V v28), (38, V x32)], [(101, B p1), (103, mkVar (R 109)), (105, BA 24 y2), (107, B a21), (109, .svar [V p1.Vertices, V p1.Edges, V p1.Depots, Ar 24 l20, Ar 24 (List.replicate 24 (0 : Int)), nilR 24, nilR 24])])) fun x32 =>
brr x32 (
ck a21.ID 24 <|
st l20 a21.ID.toNat (fun x33 => v28) fun l34 =>
doneA l34) (
cont (IntKind.i64.wrap (v28 + 1)))) (
doneA l20)

noncomputable def f22v1.l3 (p1 : Graph) (x38 : List Int) (l41 l42 : List (List Int)) (l45 l46 l47 : List Int) : Pg (Nx ((List Int) × (List Int) × (List Int)) (Ex (List Int) Empty Empty)) :=
eqW l45 l46 <|
brr (!(eqL l45 l46)) (
clK [0] (f60v1.ok p1.Vertices p1.Edges p1.Depots x38 l46 l41 l42) fun y48 =>
cont (l46, y48, l46)) (
doneA l47)

noncomputable def f22v1.l2 (p1 : Graph) (y2 : List U32) (v19 : Int) (l20 : List Int) : Pg (Nx (Int × (List Int)) (Ex (List Int) Empty Empty)) :=
brr (decide (v19 < (L p1.Vertices : Int))) (
getR p1.Vertices v19 fun a21 =>
loop1 (0 : Int) (fun s35 => f22v1.l1 p1 y2 v19 l20 a21 s35) (fun s35 => ([(1, R 101), (3, R 103), (4, R 105), (6, R 107), (18, V p1.Vertices), (19, V (L p1.Vertices : Int)), (20, V v19), (24, V s35)], [(101, B p1), (103, mkVar (R 109)), (105, BA 24 y2), (107, B a21), (109, .svar [V p1.Vertices, V p1.Edges, V p1.Depots, Ar 24 l20, Ar 24 (List.replicate 24 (0 : Int)), nilR 24, nilR 24])])) (.cut (.ext 2) fun x36 => ([(1, R 101), (3, R 103), (4, R 105), (18, V p1.Vertices), (19, V (L p1.Vertices : Int)), (20, V v19)], [(101, B p1), (103, mkVar (R 107)), (105, BA 24 y2), (107, .svar [V p1.Vertices, V p1.Edges, V p1.Depots, Ar 24 x36, Ar 24 (List.replicate 24 (0 : Int)), nilR 24, nilR 24])])) fun x36 =>
cont ((IntKind.i64.wrap (v19 + 1)), x36)) (
doneA l20)

noncomputable def f22v1 (p1 : Graph) : Pg ((List Int) × (List Int) × (List (List Int)) × (List (List Int))) :=
bxN 14 [V p1.Vertices, V p1.Edges, V p1.Depots, Ar 24 (List.replicate 24 (0 : Int)), Ar 24 (List.replicate 24 (0 : Int)), nilR 24, nilR 24] <|
cl (f32v1.ok p1) fun y2 =>
loop1 ((0 : Int), (List.replicate 24 (0 : Int))) (fun s37 => f22v1.l2 p1 y2 s37.1 s37.2) (fun s37 => ([(1, R 101), (3, R 103), (4, R 105), (18, V p1.Vertices), (19, V (L p1.Vertices : Int)), (20, V s37.1)], [(101, B p1), (103, mkVar (R 107)), (105, BA 24 y2), (107, .svar [V p1.Vertices, V p1.Edges, V p1.Depots, Ar 24 s37.2, Ar 24 (List.replicate 24 (0 : Int)), nilR 24, nilR 24])])) (.cut (.ext 0) fun x38 => ([(1, R 101), (3, R 103)], [(101, B p1), (103, mkVar (R 105)), (105, .svar [V p1.Vertices, V p1.Edges, V p1.Depots, Ar 24 x38, Ar 24 (List.replicate 24 (0 : Int)), nilR 24, nilR 24])])) fun x38 =>
cl (f27.ok p1.Edges) fun _ =>
born2 105 51 24 75 <|
rf0 [3] (f61v8.ok p1.Edges p1.Vertices p1.Edges p1.Depots x38 (List.replicate 24 (0 : Int)) (List.replicate 48 [])) fun y40 =>
frz2 105 24 24 y40 fun l41 l42 =>
clK [0] (f60v1.ok p1.Vertices p1.Edges p1.Depots x38 (List.replicate 24 (0 : Int)) l41 l42) fun y43 =>
loop1 ((List.replicate 24 (0 : Int)), y43, (List.replicate 24 (0 : Int))) (fun s49 => f22v1.l3 p1 x38 l41 l42 s49.1 s49.2.1 s49.2.2) (fun s49 => ([(3, R 101), (10, R 103), (11, R 105)], [(101, mkVar (R 107)), (103, BA 24 s49.1), (105, BA 24 s49.2.1), (107, .svar [V p1.Vertices, V p1.Edges, V p1.Depots, Ar 24 x38, Ar 24 s49.2.2, Ar 24 l41, Ar 24 l42])])) (.cut (.ext 6) fun x50 => ([(3, R 101)], [(101, mkVar (R 103)), (103, .svar [V p1.Vertices, V p1.Edges, V p1.Depots, Ar 24 x38, Ar 24 x50, Ar 24 l41, Ar 24 l42])])) fun x50 =>
.ret ((x38, x50, l41, l42))

theorem f22v1.ok (p1 : Graph) {x} (h : (f22v1 p1).run = some x) : Spec Try.prog 22 [V p1] [] (R 0) [.svar [V p1.Vertices, V p1.Edges, V p1.Depots, Ar 24 x.1, Ar 24 x.2.1, Ar 24 x.2.2.1, Ar 24 x.2.2.2]] :=
  Prg.ok Try.func22 (res := fun x => R 0) (outs := fun x => [.svar [V p1.Vertices, V p1.Edges, V p1.Depots, Ar 24 x.1, Ar 24 x.2.1, Ar 24 x.2.2.1, Ar 24 x.2.2.2]]) (by kernel_rfl) (by kernel_rfl) rfl h

noncomputable def f23v1 (p1 : Int) (p2 : List Vertex) (p3 : List Edge) (p4 p5 p6 : List Int) (p7 p8 : List (List Int)) : Pg (List Int) :=
ck p1 24 <|
rd p7 p1.toNat fun a9 =>
.ret (a9)

theorem f23v1.ok (p1 : Int) (p2 : List Vertex) (p3 : List Edge) (p4 p5 p6 : List Int) (p7 p8 : List (List Int)) {x} (h : (f23v1 p1 p2 p3 p4 p5 p6 p7 p8).run = some x) : Spec Try.prog 23 [R 0, V p1] [.svar [V p2, V p3, V p4, Ar 24 p5, Ar 24 p6, Ar 24 p7, Ar 24 p8]] (V x) [.svar [V p2, V p3, V p4, Ar 24 p5, Ar 24 p6, Ar 24 p7, Ar 24 p8]] :=
  Prg.ok Try.func23 (res := fun x => V x) (outs := fun x => [.svar [V p2, V p3, V p4, Ar 24 p5, Ar 24 p6, Ar 24 p7, Ar 24 p8]]) (by kernel_rfl) (by kernel_rfl) rfl h

noncomputable def f25v2.l3 (y53 : List Int) (v61 : Int) (l62 l63 : List Int) : Pg (Nx (Int × (List Int) × (List Int)) (Ex ((List Int) × (List Int)) Empty Empty)) :=
brr (decide (v61 < (L y53 : Int))) (
getR y53 v61 fun a64 =>
ck a64 24 <|
rd l62 a64.toNat fun a65 =>
brr (a65 == 1048576) (
ck (0 : Int) (L l63) <|
rd l63 (at0 (0 : Int)) fun a66 =>
ck a66 24 <|
rd l62 a66.toNat fun a67 =>
ck a64 24 <|
st l62 a64.toNat (fun x68 => (IntKind.i64.wrap (a67 + 1))) fun l69 =>
ap l63 ([a64] : List Int) fun l70 =>
cont ((IntKind.i64.wrap (v61 + 1)), l69, l70)) (
cont ((IntKind.i64.wrap (v61 + 1)), l62, l63))) (
doneA (l62, l63))

noncomputable def f25v2.l4 (p2 : List Vertex) (p3 : List Edge) (p4 p5 p6 : List Int) (p7 p8 : List (List Int)) (l50 l51 : List Int) : Pg (Nx ((List Int) × (List Int)) (Ex (List Int) Empty Empty)) :=
brr (decide ((L l51 : Int) > 0)) (
ck (0 : Int) (L l51) <|
rd l51 (at0 (0 : Int)) fun a52 =>
cl (f23v1.ok a52 p2 p3 p4 p5 p6 p7 p8) fun y53 =>
loop1 ((0 : Int), l50, l51) (fun s71 => f25v2.l3 y53 s71.1 s71.2.1 s71.2.2) (fun s71 => ([(1, .bnd 23 (R 0)), (4, R 101), (6, H Int 103), (37, V y53), (38, V (L y53 : Int)), (39, V s71.1)], [(0, .svar [V p2, V p3, V p4, Ar 24 p5, Ar 24 p6, Ar 24 p7, Ar 24 p8]), (101, BA 24 s71.2.1), (103, O s71.2.2)])) (.cut (.ext 6) fun x72 => ([(1, .bnd 23 (R 0)), (4, R 101), (6, H Int 103)], [(0, .svar [V p2, V p3, V p4, Ar 24 p5, Ar 24 p6, Ar 24 p7, Ar 24 p8]), (101, BA 24 x72.1), (103, O x72.2)])) fun x72 =>
cutLoO x72.2 (1 : Int) fun l73 =>
cont (x72.1, l73)) (
doneA l50)

noncomputable def f25v2.l2 (y17 : List Int) (v21 : Int) (l22 : List Int) : Pg (Nx (Int × (List Int)) (Ex (List Int) Empty Empty)) :=
brr (decide (v21 < (L y17 : Int))) (
ck v21 (L y17) <|
rd y17 (at0 v21) fun a23 =>
ck a23 24 <|
st l22 a23.toNat (fun x24 => 0) fun l25 =>
cont ((IntKind.i64.wrap (v21 + 1)), l25)) (
doneA l22)

noncomputable def f25v2.l1 (v11 : Int) (l12 : List Int) : Pg (Nx (Int × (List Int)) (Ex (List Int) Empty Empty)) :=
brr (decide (v11 < 24)) (
ck v11 24 <|
st l12 v11.toNat (fun x13 => 1048576) fun l14 =>
cont ((IntKind.i64.wrap (v11 + 1)), l14)) (
doneA l12)

noncomputable def f25v2 (p1 : List Int) (p2 : List Vertex) (p3 : List Edge) (p4 p5 p6 : List Int) (p7 p8 : List (List Int)) : Pg (List Int) :=
loop1 ((0 : Int), (List.replicate 24 (0 : Int))) (fun s15 => f25v2.l1 s15.1 s15.2) (fun s15 => ([(0, V p1), (1, .bnd 23 (R 0)), (4, R 101), (11, V s15.1)], [(0, .svar [V p2, V p3, V p4, Ar 24 p5, Ar 24 p6, Ar 24 p7, Ar 24 p8]), (101, BA 24 s15.2)])) (.cut (.ext 0) fun x16 => ([(0, V p1), (1, .bnd 23 (R 0)), (4, R 101)], [(0, .svar [V p2, V p3, V p4, Ar 24 p5, Ar 24 p6, Ar 24 p7, Ar 24 p8]), (101, BA 24 x16)])) fun x16 =>
cl (f40v1.ok p1) fun y17 =>
loop1 ((0 : Int), x16) (fun s26 => f25v2.l2 y17 s26.1 s26.2) (fun s26 => ([(1, .bnd 23 (R 0)), (4, R 101), (6, H Int 103), (19, H Int 103), (20, V (L y17 : Int)), (21, V s26.1)], [(0, .svar [V p2, V p3, V p4, Ar 24 p5, Ar 24 p6, Ar 24 p7, Ar 24 p8]), (101, BA 24 s26.2), (103, O y17)])) (.cut (.ext 2) fun x27 => ([(1, .bnd 23 (R 0)), (4, R 101), (6, H Int 103)], [(0, .svar [V p2, V p3, V p4, Ar 24 p5, Ar 24 p6, Ar 24 p7, Ar 24 p8]), (101, BA 24 x27), (103, O y17)])) fun x27 =>
loop1 (x27, y17) (fun s74 => f25v2.l4 p2 p3 p4 p5 p6 p7 p8 s74.1 s74.2) (fun s74 => ([(1, .bnd 23 (R 0)), (4, R 101), (6, H Int 103)], [(0, .svar [V p2, V p3, V p4, Ar 24 p5, Ar 24 p6, Ar 24 p7, Ar 24 p8]), (101, BA 24 s74.1), (103, O s74.2)])) (.cut (.ext 4) fun x75 => ([(4, R 101)], [(0, .svar [V p2, V p3, V p4, Ar 24 p5, Ar 24 p6, Ar 24 p7, Ar 24 p8]), (101, BA 24 x75)])) fun x75 =>
.ret (x75)

theorem f25v2.ok (p1 : List Int) (p2 : List Vertex) (p3 : List Edge) (p4 p5 p6 : List Int) (p7 p8 : List (List Int)) {x} (h : (f25v2 p1 p2 p3 p4 p5 p6 p7 p8).run = some x) : Spec Try.prog 25 [V p1, .bnd 23 (R 0)] [.svar [V p2, V p3, V p4, Ar 24 p5, Ar 24 p6, Ar 24 p7, Ar 24 p8]] (Ar 24 x) [.svar [V p2, V p3, V p4, Ar 24 p5, Ar 24 p6, Ar 24 p7, Ar 24 p8]] :=
  Prg.ok Try.func25 (res := fun x => Ar 24 x) (outs := fun x => [.svar [V p2, V p3, V p4, Ar 24 p5, Ar 24 p6, Ar 24 p7, Ar 24 p8]]) (by kernel_rfl) (by kernel_rfl) rfl h

noncomputable def f24v1 (p1 : Int) (p2 : List Vertex) (p3 : List Edge) (p4 p5 p6 : List Int) (p7 p8 : List (List Int)) : Pg (List Int) :=
ck p1 24 <|
rd p8 p1.toNat fun a9 =>
.ret (a9)

theorem f24v1.ok (p1 : Int) (p2 : List Vertex) (p3 : List Edge) (p4 p5 p6 : List Int) (p7 p8 : List (List Int)) {x} (h : (f24v1 p1 p2 p3 p4 p5 p6 p7 p8).run = some x) : Spec Try.prog 24 [R 0, V p1] [.svar [V p2, V p3, V p4, Ar 24 p5, Ar 24 p6, Ar 24 p7, Ar 24 p8]] (V x) [.svar [V p2, V p3, V p4, Ar 24 p5, Ar 24 p6, Ar 24 p7, Ar 24 p8]] :=
  Prg.ok Try.func24 (res := fun x => V x) (outs := fun x => [.svar [V p2, V p3, V p4, Ar 24 p5, Ar 24 p6, Ar 24 p7, Ar 24 p8]]) (by kernel_rfl) (by kernel_rfl) rfl h

noncomputable def f25v3.l3 (y53 : List Int) (v61 : Int) (l62 l63 : List Int) : Pg (Nx (Int × (List Int) × (List Int)) (Ex ((List Int) × (List Int)) Empty Empty)) :=
brr (decide (v61 < (L y53 : Int))) (
getR y53 v61 fun a64 =>
ck a64 24 <|
rd l62 a64.toNat fun a65 =>
brr (a65 == 1048576) (
ck (0 : Int) (L l63) <|
rd l63 (at0 (0 : Int)) fun a66 =>
ck a66 24 <|
rd l62 a66.toNat fun a67 =>
ck a64 24 <|
st l62 a64.toNat (fun x68 => (IntKind.i64.wrap (a67 + 1))) fun l69 =>
ap l63 ([a64] : List Int) fun l70 =>
cont ((IntKind.i64.wrap (v61 + 1)), l69, l70)) (
cont ((IntKind.i64.wrap (v61 + 1)), l62, l63))) (
doneA (l62, l63))

noncomputable def f25v3.l4 (p2 : List Vertex) (p3 : List Edge) (p4 p5 p6 : List Int) (p7 p8 : List (List Int)) (l50 l51 : List Int) : Pg (Nx ((List Int) × (List Int)) (Ex (List Int) Empty Empty)) :=
brr (decide ((L l51 : Int) > 0)) (
ck (0 : Int) (L l51) <|
rd l51 (at0 (0 : Int)) fun a52 =>
cl (f24v1.ok a52 p2 p3 p4 p5 p6 p7 p8) fun y53 =>
loop1 ((0 : Int), l50, l51) (fun s71 => f25v3.l3 y53 s71.1 s71.2.1 s71.2.2) (fun s71 => ([(1, .bnd 24 (R 0)), (4, R 101), (6, H Int 103), (37, V y53), (38, V (L y53 : Int)), (39, V s71.1)], [(0, .svar [V p2, V p3, V p4, Ar 24 p5, Ar 24 p6, Ar 24 p7, Ar 24 p8]), (101, BA 24 s71.2.1), (103, O s71.2.2)])) (.cut (.ext 6) fun x72 => ([(1, .bnd 24 (R 0)), (4, R 101), (6, H Int 103)], [(0, .svar [V p2, V p3, V p4, Ar 24 p5, Ar 24 p6, Ar 24 p7, Ar 24 p8]), (101, BA 24 x72.1), (103, O x72.2)])) fun x72 =>
cutLoO x72.2 (1 : Int) fun l73 =>
cont (x72.1, l73)) (
doneA l50)

noncomputable def f25v3.l2 (y17 : List Int) (v21 : Int) (l22 : List Int) : Pg (Nx (Int × (List Int)) (Ex (List Int) Empty Empty)) :=
brr (decide (v21 < (L y17 : Int))) (
ck v21 (L y17) <|
rd y17 (at0 v21) fun a23 =>
ck a23 24 <|
st l22 a23.toNat (fun x24 => 0) fun l25 =>
cont ((IntKind.i64.wrap (v21 + 1)), l25)) (
doneA l22)

noncomputable def f25v3.l1 (v11 : Int) (l12 : List Int) : Pg (Nx (Int × (List Int)) (Ex (List Int) Empty Empty)) :=
brr (decide (v11 < 24)) (
ck v11 24 <|
st l12 v11.toNat (fun x13 => 1048576) fun l14 =>
cont ((IntKind.i64.wrap (v11 + 1)), l14)) (
doneA l12)

noncomputable def f25v3 (p1 : List Int) (p2 : List Vertex) (p3 : List Edge) (p4 p5 p6 : List Int) (p7 p8 : List (List Int)) : Pg (List Int) :=
loop1 ((0 : Int), (List.replicate 24 (0 : Int))) (fun s15 => f25v3.l1 s15.1 s15.2) (fun s15 => ([(0, V p1), (1, .bnd 24 (R 0)), (4, R 101), (11, V s15.1)], [(0, .svar [V p2, V p3, V p4, Ar 24 p5, Ar 24 p6, Ar 24 p7, Ar 24 p8]), (101, BA 24 s15.2)])) (.cut (.ext 0) fun x16 => ([(0, V p1), (1, .bnd 24 (R 0)), (4, R 101)], [(0, .svar [V p2, V p3, V p4, Ar 24 p5, Ar 24 p6, Ar 24 p7, Ar 24 p8]), (101, BA 24 x16)])) fun x16 =>
cl (f40v1.ok p1) fun y17 =>
loop1 ((0 : Int), x16) (fun s26 => f25v3.l2 y17 s26.1 s26.2) (fun s26 => ([(1, .bnd 24 (R 0)), (4, R 101), (6, H Int 103), (19, H Int 103), (20, V (L y17 : Int)), (21, V s26.1)], [(0, .svar [V p2, V p3, V p4, Ar 24 p5, Ar 24 p6, Ar 24 p7, Ar 24 p8]), (101, BA 24 s26.2), (103, O y17)])) (.cut (.ext 2) fun x27 => ([(1, .bnd 24 (R 0)), (4, R 101), (6, H Int 103)], [(0, .svar [V p2, V p3, V p4, Ar 24 p5, Ar 24 p6, Ar 24 p7, Ar 24 p8]), (101, BA 24 x27), (103, O y17)])) fun x27 =>
loop1 (x27, y17) (fun s74 => f25v3.l4 p2 p3 p4 p5 p6 p7 p8 s74.1 s74.2) (fun s74 => ([(1, .bnd 24 (R 0)), (4, R 101), (6, H Int 103)], [(0, .svar [V p2, V p3, V p4, Ar 24 p5, Ar 24 p6, Ar 24 p7, Ar 24 p8]), (101, BA 24 s74.1), (103, O s74.2)])) (.cut (.ext 4) fun x75 => ([(4, R 101)], [(0, .svar [V p2, V p3, V p4, Ar 24 p5, Ar 24 p6, Ar 24 p7, Ar 24 p8]), (101, BA 24 x75)])) fun x75 =>
.ret (x75)

theorem f25v3.ok (p1 : List Int) (p2 : List Vertex) (p3 : List Edge) (p4 p5 p6 : List Int) (p7 p8 : List (List Int)) {x} (h : (f25v3 p1 p2 p3 p4 p5 p6 p7 p8).run = some x) : Spec Try.prog 25 [V p1, .bnd 24 (R 0)] [.svar [V p2, V p3, V p4, Ar 24 p5, Ar 24 p6, Ar 24 p7, Ar 24 p8]] (Ar 24 x) [.svar [V p2, V p3, V p4, Ar 24 p5, Ar 24 p6, Ar 24 p7, Ar 24 p8]] :=
  Prg.ok Try.func25 (res := fun x => Ar 24 x) (outs := fun x => [.svar [V p2, V p3, V p4, Ar 24 p5, Ar 24 p6, Ar 24 p7, Ar 24 p8]]) (by kernel_rfl) (by kernel_rfl) rfl h

noncomputable def r26_0v5 (p1 : Edge) (p2 : A2_Int) (p3 : List Vertex) (p4 : List Edge) (p5 p6 p7 : List Int) (p8 p9 : List (List Int)) (p10 : List Int) : Pg (List Int) :=
mvW 4 8 5 <|
ck p2.x0 24 <|
rd p6 p2.x0.toNat fun a11 =>
ck p2.x1 24 <|
rd p6 p2.x1.toNat fun a12 =>
brr (a11 != a12) (
ck p2.x0 24 <|
rd p7 p2.x0.toNat fun a13 =>
ck p2.x1 24 <|
rd p7 p2.x1.toNat fun a14 =>
brr (a13 == (IntKind.i64.wrap (a14 - 1))) (
ap p10 ([p2.x1] : List Int) fun l15 =>
.ret (l15)) (
.ret (p10))) (
.ret (p10))

theorem r26_0v5.ok (p1 : Edge) (p2 : A2_Int) (p3 : List Vertex) (p4 : List Edge) (p5 p6 p7 : List Int) (p8 p9 : List (List Int)) (p10 : List Int) {x} (h : (r26_0v5 p1 p2 p3 p4 p5 p6 p7 p8 p9 p10).run = some x) : RSpec Try.prog (.yl 0 :: [V p1, V p2]) [.lp [15, 16] (rfA Try.f26 0) (rfB Try.f26 0) 79 [1, 2] [R 2, R 4] [] 0, mkVar (R 6), mkVar (H Int 8), .svar [V p3, V p4, V p5, Ar 24 p6, Ar 24 p7, Ar 24 p8, Ar 24 p9], O p10] (V true) [.lp [15, 16] (rfA Try.f26 0) (rfB Try.f26 0) 79 [1, 2] [R 2, R 4] [] 0, mkVar (R 6), mkVar (H Int 10), .svar [V p3, V p4, V p5, Ar 24 p6, Ar 24 p7, Ar 24 p8, Ar 24 p9], .dead, O x] :=
  Prg.okR (pe := fun x => 0) (outs := fun x => [mkVar (R 6), mkVar (H Int 10), .svar [V p3, V p4, V p5, Ar 24 p6, Ar 24 p7, Ar 24 p8, Ar 24 p9], .dead, O x]) (by kernel_rfl) (by kernel_rfl) rfl h

noncomputable def f61v10.l1 (p1 : List Edge) (p2 : List Vertex) (p3 : List Edge) (p4 p5 p6 : List Int) (p7 p8 : List (List Int)) (v15 : Int) (l16 : List Int) : Pg (Nx (Int × (List Int)) (Ex (List Int) Empty Empty)) :=
brr (decide (v15 < (L p1 : Int))) (
getR p1 v15 fun a17 =>
brr (a17.From == a17.To) (
cont ((IntKind.i64.wrap (v15 + 1)), l16)) (
clY yNo (r26_0v5.ok a17 (A2_Int.mk a17.From a17.To) p2 p3 p4 p5 p6 p7 p8 l16) fun y18 =>
brr (!true) (
doneA (y18)) (
brr (!a17.Directed) (
clY yNo (r26_0v5.ok a17 (A2_Int.mk a17.To a17.From) p2 p3 p4 p5 p6 p7 p8 y18) fun y19 =>
brr (!true) (
doneA (y19)) (
cont ((IntKind.i64.wrap (v15 + 1)), y19))) (
cont ((IntKind.i64.wrap (v15 + 1)), y18))))) (
doneA (l16))

noncomputable def f61v10 (p1 : List Edge) (p2 : List Vertex) (p3 : List Edge) (p4 p5 p6 : List Int) (p7 p8 : List (List Int)) : Pg (List Int) :=
loop1 ((0 : Int), ([] : List Int)) (fun s20 => f61v10.l1 p1 p2 p3 p4 p5 p6 p7 p8 s20.1 s20.2) (fun s20 => ([(0, .yl 0), (5, V p1), (6, V (L p1 : Int)), (7, V s20.1)], [(0, .lp [15, 16] (rfA Try.f26 0) (rfB Try.f26 0) 79 [1, 2] [R 4, R 6] [] 0), (2, B p1), (4, mkVar (R 8)), (6, mkVar (H Int 501)), (8, .svar [V p2, V p3, V p4, Ar 24 p5, Ar 24 p6, Ar 24 p7, Ar 24 p8]), (501, O s20.2)])) .inl fun r21 =>
.ret r21

theorem f61v10.ok (p1 : List Edge) (p2 : List Vertex) (p3 : List Edge) (p4 p5 p6 : List Int) (p7 p8 : List (List Int)) {x} (h : (f61v10 p1 p2 p3 p4 p5 p6 p7 p8).run = some x) : Spec Try.prog 61 [.yl 0, R 2] [.lp [15, 16] (rfA Try.f26 0) (rfB Try.f26 0) 79 [1, 2] [R 4, R 6] [] 0, B p1, mkVar (R 8), mkVar (.pv .nilsl), .svar [V p2, V p3, V p4, Ar 24 p5, Ar 24 p6, Ar 24 p7, Ar 24 p8]] (.tup []) [.lp [15, 16] (rfA Try.f26 0) (rfB Try.f26 0) 79 [1, 2] [R 4, R 6] [] 0, B p1, mkVar (R 8), mkVar (H Int 10), .svar [V p2, V p3, V p4, Ar 24 p5, Ar 24 p6, Ar 24 p7, Ar 24 p8], O x] :=
  Prg.ok Try.func61 (res := fun x => .tup []) (outs := fun x => [.lp [15, 16] (rfA Try.f26 0) (rfB Try.f26 0) 79 [1, 2] [R 4, R 6] [] 0, B p1, mkVar (R 8), mkVar (H Int 10), .svar [V p2, V p3, V p4, Ar 24 p5, Ar 24 p6, Ar 24 p7, Ar 24 p8], O x]) (by kernel_rfl) (by kernel_rfl) rfl h

noncomputable def f26v1.l1 (p1 : List Vertex) (p5 : List Int) (v13 : Int) (l14 : List Int) : Pg (Nx (Int × (List Int)) (Ex (List Int) Empty Empty)) :=
brr (decide (v13 < (L p1 : Int))) (
getR p1 v13 fun a15 =>
ck a15.ID 24 <|
rd p5 a15.ID.toNat fun a16 =>
brr (a16 == 0) (
ap l14 ([a15.ID] : List Int) fun l17 =>
cont ((IntKind.i64.wrap (v13 + 1)), l17)) (
cont ((IntKind.i64.wrap (v13 + 1)), l14))) (
doneA l14)

noncomputable def f26v1 (p1 : List Vertex) (p2 : List Edge) (p3 p4 p5 : List Int) (p6 p7 : List (List Int)) : Pg (List Int) :=
cl (f27.ok p2) fun _ =>
rf0 [1, 2] (f61v10.ok p2 p1 p2 p3 p4 p5 p6 p7) fun y9 =>
loop1 ((0 : Int), y9) (fun s18 => f26v1.l1 p1 p5 s18.1 s18.2) (fun s18 => ([(1, R 101), (2, R 103), (58, V p1), (59, V (L p1 : Int)), (60, V s18.1)], [(0, .svar [V p1, V p2, V p3, Ar 24 p4, Ar 24 p5, Ar 24 p6, Ar 24 p7]), (101, mkVar (R 0)), (103, mkVar (H Int 105)), (105, O s18.2)])) (.cut (.ext 2) fun x19 => ([(2, R 101)], [(0, .svar [V p1, V p2, V p3, Ar 24 p4, Ar 24 p5, Ar 24 p6, Ar 24 p7]), (101, mkVar (H Int 103)), (103, O x19)])) fun x19 =>
.ret (x19)

theorem f26v1.ok (p1 : List Vertex) (p2 : List Edge) (p3 p4 p5 : List Int) (p6 p7 : List (List Int)) {x} (h : (f26v1 p1 p2 p3 p4 p5 p6 p7).run = some x) : Spec Try.prog 26 [R 0] [.svar [V p1, V p2, V p3, Ar 24 p4, Ar 24 p5, Ar 24 p6, Ar 24 p7]] (V x) [.svar [V p1, V p2, V p3, Ar 24 p4, Ar 24 p5, Ar 24 p6, Ar 24 p7]] :=
  Prg.ok Try.func26 (res := fun x => V x) (outs := fun x => [.svar [V p1, V p2, V p3, Ar 24 p4, Ar 24 p5, Ar 24 p6, Ar 24 p7]]) (by kernel_rfl) (by kernel_rfl) rfl h

noncomputable def f28v2.l1 (p1 : Graph) (p2 : Int) (v9 : Int) (l10 : List Edge) : Pg (Nx (Int × (List Edge)) (Ex (List Edge) Empty Empty)) :=
brr (decide (v9 < (L p1.Edges : Int))) (
getR p1.Edges v9 fun a11 =>
join1 (.reg 4) (
brr (a11.From == p2) (
retA' true) (
retA' (a11.To == p2))) (.cut .nat fun x12 => ([(1, V p2), (4, H Edge 101), (6, R 103), (8, V p1.Edges), (9, V (L p1.Edges : Int)), (10, V v9), (23, V x12)], [(101, O l10), (103, B a11)])) fun x12 =>
brr x12 (
ap l10 ([a11] : List Edge) fun l13 =>
cont ((IntKind.i64.wrap (v9 + 1)), l13)) (
cont ((IntKind.i64.wrap (v9 + 1)), l10))) (
doneA l10)

noncomputable def f28v2 (p1 : Graph) (p2 : Int) : Pg (List Edge) :=
loop1 ((0 : Int), ([] : List Edge)) (fun s14 => f28v2.l1 p1 p2 s14.1 s14.2) (fun s14 => ([(1, V p2), (4, H Edge 501), (8, V p1.Edges), (9, V (L p1.Edges : Int)), (10, V s14.1)], [(501, O s14.2)])) (.cut (.ext 0) fun x15 => ([(4, H Edge 101)], [(101, O x15)])) fun x15 =>
.ret (x15)

theorem f28v2.ok (p1 : Graph) (p2 : Int) {x} (h : (f28v2 p1 p2).run = some x) : Spec Try.prog 28 [V p1, V p2] [] (V x) [] :=
  Prg.ok Try.func28 (res := fun x => V x) (outs := fun x => []) (by kernel_rfl) (by kernel_rfl) rfl h

noncomputable def r8_0v3 (p1 : Edge) (p2 : A2_Int) (p3 p4 : List Int) (p5 : Int) (p6 : List Vertex) (p7 : List Edge) (p8 p9 p10 : List Int) (p11 p12 : List (List Int)) (p13 : List Int) : Pg (List Int) :=
ck p2.x0 24 <|
rd p9 p2.x0.toNat fun a14 =>
ck p2.x1 24 <|
rd p9 p2.x1.toNat fun a15 =>
brr (a14 != a15) (
.ret (p13)) (
join1 (.reg 24) (
brr (p2.x1 == p5) (
ck (2 : Int) (L p13) <|
rd p13 (at0 (2 : Int)) fun a16 =>
brr (decide (a16 < 0)) (
ck p2.x0 24 <|
rd p3 p2.x0.toNat fun a17 =>
ck p5 24 <|
rd p3 p5.toNat fun a18 =>
retA' (a17 == (IntKind.i64.wrap (a18 - 1)))) (
retA' false)) (
retA' false)) (.cut .nat fun x19 => ([(11, R 6), (16, R 8), (17, R 10), (18, R 101), (20, V p2.x0), (21, V p2.x1), (136, V x19)], [(0, .dead), (2, mkVar (R 12)), (4, BA 24 p3), (6, BA 24 p4), (8, B p5), (10, mkVar (H Int 14)), (12, .svar [V p6, V p7, V p8, Ar 24 p9, Ar 24 p10, Ar 24 p11, Ar 24 p12]), (14, O p13), (101, B p1)])) fun x19 =>
join1 (.cond 136) (
brr x19 (
ck (2 : Int) (L p13) <|
st p13 (at0 (2 : Int)) (fun x20 => p1.ID) fun l21 =>
retA' l21) (
retA' p13)) (.cut .nat fun x22 => ([(11, R 6), (16, R 8), (17, R 10), (18, R 101), (20, V p2.x0), (21, V p2.x1)], [(0, .dead), (2, mkVar (R 12)), (4, BA 24 p3), (6, BA 24 p4), (8, B p5), (10, mkVar (H Int 14)), (12, .svar [V p6, V p7, V p8, Ar 24 p9, Ar 24 p10, Ar 24 p11, Ar 24 p12]), (14, O x22), (101, B p1)])) fun x22 =>
brr (p2.x0 == p5) (
ck (4 : Int) (L x22) <|
rd x22 (at0 (4 : Int)) fun a23 =>
brr (decide (a23 < 0)) (
ck p2.x1 24 <|
rd p4 p2.x1.toNat fun a24 =>
ck p5 24 <|
rd p4 p5.toNat fun a25 =>
brr (a24 == (IntKind.i64.wrap (a25 - 1))) (
ck (4 : Int) (L x22) <|
st x22 (at0 (4 : Int)) (fun x26 => p1.ID) fun l27 =>
.ret (l27)) (
.ret (x22))) (
.ret (x22))) (
.ret (x22)))

theorem r8_0v3.ok (p1 : Edge) (p2 : A2_Int) (p3 p4 : List Int) (p5 : Int) (p6 : List Vertex) (p7 : List Edge) (p8 p9 p10 : List Int) (p11 p12 : List (List Int)) (p13 : List Int) {x} (h : (r8_0v3 p1 p2 p3 p4 p5 p6 p7 p8 p9 p10 p11 p12 p13).run = some x) : RSpec Try.prog (.yl 0 :: [V p1, V p2]) [.lp [99, 100] (rfA Try.f8 0) (rfB Try.f8 0) 172 [4, 10, 11, 16, 17] [R 2, R 4, R 6, R 8, R 10] [] 0, mkVar (R 12), BA 24 p3, BA 24 p4, B p5, mkVar (H Int 14), .svar [V p6, V p7, V p8, Ar 24 p9, Ar 24 p10, Ar 24 p11, Ar 24 p12], O p13] (V true) [.lp [99, 100] (rfA Try.f8 0) (rfB Try.f8 0) 172 [4, 10, 11, 16, 17] [R 2, R 4, R 6, R 8, R 10] [] 0, mkVar (R 12), BA 24 p3, BA 24 p4, B p5, mkVar (H Int 14), .svar [V p6, V p7, V p8, Ar 24 p9, Ar 24 p10, Ar 24 p11, Ar 24 p12], O x] :=
  Prg.okR (pe := fun x => 0) (outs := fun x => [mkVar (R 12), BA 24 p3, BA 24 p4, B p5, mkVar (H Int 14), .svar [V p6, V p7, V p8, Ar 24 p9, Ar 24 p10, Ar 24 p11, Ar 24 p12], O x]) (by kernel_rfl) (by kernel_rfl) rfl h

end Go.Fx.Gen
