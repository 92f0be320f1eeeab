/- Plain programs, and the proofs that the code computes them; printed by a program of our own. -/
import Derived.Test.YtiecopfelbfkiaaFxY
import Derived.Test.YtiecopfelbfkiaaProg
set_option linter.unusedVariables false
set_option maxRecDepth 100000
namespace Go.Fx.Gen
open Go.Proofs Go.Fx
abbrev Pg := Prg Try.prog

structure A5_Int where
  x0 : Int
  x1 : Int
  x2 : Int
  x3 : Int
  x4 : Int

instance : Cel A5_Int := ⟨fun v => [.int .i64 v.x0, .int .i64 v.x1, .int .i64 v.x2, .int .i64 v.x3, .int .i64 v.x4], 5, fun _ => rfl⟩
instance : Val A5_Int := ⟨fun v => .aggp (Cel.enc v)⟩

structure A3_Int where
  x0 : Int
  x1 : Int
  x2 : Int

instance : Cel A3_Int := ⟨fun v => [.int .i64 v.x0, .int .i64 v.x1, .int .i64 v.x2], 3, fun _ => rfl⟩
instance : Val A3_Int := ⟨fun v => .aggp (Cel.enc v)⟩

structure Vertex where
  ID : Int
  Side : Int

instance : Cel Vertex := ⟨fun v => [.int .i64 v.ID, .int .i64 v.Side], 2, fun _ => rfl⟩
instance : Val Vertex := ⟨fun v => .aggp (Cel.enc v)⟩

structure Edge where
  ID : Int
  From : Int
  To : Int
  Directed : Bool
  Weight : Int
  Cap : Int

instance : Cel Edge := ⟨fun v => [.int .i64 v.ID, .int .i64 v.From, .int .i64 v.To, .bool v.Directed, .int .i64 v.Weight, .int .i64 v.Cap], 6, fun _ => rfl⟩
instance : Val Edge := ⟨fun v => .aggp (Cel.enc v)⟩

structure Named where
  ID : Int
  Label : List Int

instance : Cel Named := ⟨fun v => [.int .i64 v.ID, .sl (v.Label.map Cel.enc)], 2, fun _ => rfl⟩
instance : Val Named := ⟨fun v => .aggp (Cel.enc v)⟩

structure View where
  Vertex : Vertex
  Depots : List Int
  Edges : List Edge
  Labels : List Named

instance : Cel View := ⟨fun v => [.int .i64 v.Vertex.ID, .int .i64 v.Vertex.Side, .sl (v.Depots.map Cel.enc), .sl (v.Edges.map Cel.enc), .sl (v.Labels.map Cel.enc)], 5, fun _ => rfl⟩
instance : Val View := ⟨fun v => .aggp (Cel.enc v)⟩

structure NamedR where
  ID : Int
  Label : Ref
instance [Fm] : Cel NamedR := ⟨fun v => [.int .i64 v.ID, .fh Fm.f v.Label.i v.Label.off v.Label.len 1], 2, fun _ => rfl⟩

/-- The labels, with the members that they lead to. -/
def named1 (M : List (List Int)) (x : NamedR) : Option Named := (M[x.Label.i]?).bind fun l => if x.Label.off + x.Label.len ≤ l.length then some ⟨x.ID, (l.drop x.Label.off).take x.Label.len⟩ else none
def named (M : List (List Int)) (o : List NamedR) : Option (List Named) := o.mapM (named1 M)

theorem mapM_get' {α β : Type} {f : α → Option β} : ∀ {l : List α} {r : List β}, l.mapM f = some r → r.length = l.length ∧ ∀ (i : Nat) (x : α) (y : β), l[i]? = some x → r[i]? = some y → f x = some y
  | [], r, h => by rw [List.mapM_nil] at h; cases h; simp
  | a :: l, r, h => by
    rw [List.mapM_cons] at h
    simp only [bind, Option.bind_eq_some_iff, pure, Option.some.injEq] at h
    obtain ⟨b, h1, c, h2, rfl⟩ := h
    obtain ⟨g1, g2⟩ := mapM_get' h2
    refine ⟨by simp [g1], fun i x y hx hy => ?_⟩
    cases i with
    | zero => simp at hx hy; subst hx; subst hy; exact h1
    | succ i => exact g2 i x y (by simpa using hx) (by simpa using hy)

theorem named_tell [Fm] {M : List (List Int)} {o : List NamedR} {y : List Named} (h : named M o = some y) : TellO Fm.f 1 (M.map (List.map Cel.enc)) (O o) (O y) := by
  obtain ⟨g1, g2⟩ := mapM_get' h
  have key : ∀ (i : Nat) (x : NamedR) (z : Named), o[i]? = some x → y[i]? = some z → ∃ l, M[x.Label.i]? = some l ∧ x.Label.off + x.Label.len ≤ l.length ∧ z = ⟨x.ID, (l.drop x.Label.off).take x.Label.len⟩ := by
    intro i x z hx hz
    have := g2 i x z hx hz
    unfold named1 at this
    rw [Option.bind_eq_some_iff] at this
    obtain ⟨l, h1, h2⟩ := this
    split at h2
    · cases h2; exact ⟨l, h1, by assumption, rfl⟩
    · cases h2
  refine .sl false 2 _ _ ⟨by simp [g1], fun i r r' h1 h2 => ?_, fun i r r' j p p' h1 h2 h3 h4 => ?_⟩
  · rw [List.getElem?_map, Option.map_eq_some_iff] at h1 h2
    obtain ⟨x, _, rfl⟩ := h1
    obtain ⟨z, _, rfl⟩ := h2
    rfl
  · rw [List.getElem?_map, Option.map_eq_some_iff] at h1 h2
    obtain ⟨x, hx, rfl⟩ := h1
    obtain ⟨z, hz, rfl⟩ := h2
    obtain ⟨l, k1, k2, rfl⟩ := key i x z hx hz
    match j with
    | 0 => simp [Cel.enc] at h3 h4; subst h3; subst h4; exact .same _
    | 1 =>
      simp only [Cel.enc, List.getElem?_cons_succ, List.getElem?_cons_zero, Option.some.injEq] at h3 h4
      subst h3; subst h4
      have := Tell.fh (f := Fm.f) (sz := 1) (mem := M.map (List.map Cel.enc)) x.Label.i x.Label.off x.Label.len (l.map Cel.enc) (mem_ok k1) (by rw [List.length_map]; exact k2)
      rw [cut_map] at this
      exact this
    | j + 2 => simp [Cel.enc] at h3

/-- The end: the labels are told as data. -/
def tellN [Fm] {β : Type} (m : Nat) (M : List (List Int)) (o : List NamedR) (k : List Named → Pg β) : Pg β :=
  .tell (named M o) m Fm.f 1 (M.map (List.map Cel.enc)) (O o) (fun y => O y) (fun _ h => named_tell h) k
theorem r_tellN [Fm] {β : Type} {m : Nat} {M : List (List Int)} {o : List NamedR} {k : List Named → Pg β} : (tellN m M o k).run = bd (named M o) fun y => (k y).run := rfl
theorem tellN_s [Fm] {β : Type} {m : Nat} {M : List (List Int)} {o : List NamedR} {y : List Named} (h : named M o = some y) {k : List Named → Pg β} : (tellN m M o k).run = (k y).run := by
  show bd (named M o) _ = _
  rw [h]; rfl


structure Graph where
  Vertices : List Vertex
  Edges : List Edge
  Depots : List Int

instance : Cel Graph := ⟨fun v => [.sl (v.Vertices.map Cel.enc), .sl (v.Edges.map Cel.enc), .sl (v.Depots.map Cel.enc)], 3, fun _ => rfl⟩
instance : Val Graph := ⟨fun v => .aggp (Cel.enc v)⟩

structure Graph_change where
  Graph : Graph

instance : Cel Graph_change := ⟨fun v => [.sl (v.Graph.Vertices.map Cel.enc), .sl (v.Graph.Edges.map Cel.enc), .sl (v.Graph.Depots.map Cel.enc)], 3, fun _ => rfl⟩
instance : Val Graph_change := ⟨fun v => .aggp (Cel.enc v)⟩

abbrev str1 : ByteArray := ⟨#[0, 1, 2, 2, 3, 3, 3, 3, 4, 4, 4, 4, 4, 4, 4, 4, 5, 5, 5, 5, 5, 5, 5, 5, 5, 5, 5, 5, 5, 5, 5, 5, 6, 6, 6, 6, 6, 6, 6, 6, 6, 6, 6, 6, 6, 6, 6, 6, 6, 6, 6, 6, 6, 6, 6, 6, 6, 6, 6, 6, 6, 6, 6, 6, 7, 7, 7, 7, 7, 7, 7, 7, 7, 7, 7, 7, 7, 7, 7, 7, 7, 7, 7, 7, 7, 7, 7, 7, 7, 7, 7, 7, 7, 7, 7, 7, 7, 7, 7, 7, 7, 7, 7, 7, 7, 7, 7, 7, 7, 7, 7, 7, 7, 7, 7, 7, 7, 7, 7, 7, 7, 7, 7, 7, 7, 7, 7, 7, 8, 8, 8, 8, 8, 8, 8, 8, 8, 8, 8, 8, 8, 8, 8, 8, 8, 8, 8, 8, 8, 8, 8, 8, 8, 8, 8, 8, 8, 8, 8, 8, 8, 8, 8, 8, 8, 8, 8, 8, 8, 8, 8, 8, 8, 8, 8, 8, 8, 8, 8, 8, 8, 8, 8, 8, 8, 8, 8, 8, 8, 8, 8, 8, 8, 8, 8, 8, 8, 8, 8, 8, 8, 8, 8, 8, 8, 8, 8, 8, 8, 8, 8, 8, 8, 8, 8, 8, 8, 8, 8, 8, 8, 8, 8, 8, 8, 8, 8, 8, 8, 8, 8, 8, 8, 8, 8, 8, 8, 8, 8, 8, 8, 8, 8, 8, 8, 8, 8, 8, 8, 8, 8, 8, 8, 8, 8, 8]⟩

noncomputable def f10 : Pg Unit :=
.ret (())

theorem f10.ok {x} (h : (f10).run = some x) : Spec Try.prog 10 [] [] (.aggp [.sl (([(Vertex.mk 0 0), (Vertex.mk 1 0), (Vertex.mk 2 0), (Vertex.mk 3 0), (Vertex.mk 5 0)] : List Vertex).map Cel.enc), .sl (([(Edge.mk 0 2 1 false 0 0), (Edge.mk 4 1 3 false 0 0), (Edge.mk 6 3 2 false 0 0), (Edge.mk 7 5 5 false 0 0)] : List Edge).map Cel.enc), .nilsl]) [] :=
  Prg.ok Try.func10 (res := fun x => .aggp [.sl (([(Vertex.mk 0 0), (Vertex.mk 1 0), (Vertex.mk 2 0), (Vertex.mk 3 0), (Vertex.mk 5 0)] : List Vertex).map Cel.enc), .sl (([(Edge.mk 0 2 1 false 0 0), (Edge.mk 4 1 3 false 0 0), (Edge.mk 6 3 2 false 0 0), (Edge.mk 7 5 5 false 0 0)] : List Edge).map Cel.enc), .nilsl]) (outs := fun x => []) (by kernel_rfl) (by kernel_rfl) rfl h

noncomputable def f38 (p1 : Vertex) : Pg Unit :=
.ret (())

theorem f38.ok (p1 : Vertex) {x} (h : (f38 p1).run = some x) : Spec Try.prog 38 [V p1] [] (V p1.ID) [] :=
  Prg.ok Try.func38 (res := fun x => V p1.ID) (outs := fun x => []) (by kernel_rfl) (by kernel_rfl) rfl h

noncomputable def f37.l1 (p1 : List Vertex) (v6 : Int) : Pg (Nx Int (Ex (Bool) Unit Empty)) :=
brr (decide (v6 < (L p1 : Int))) (
getR p1 (IntKind.i64.wrap (v6 - 1)) fun a7 =>
cl (f38.ok a7) fun _ =>
getR p1 v6 fun a9 =>
cl (f38.ok a9) fun _ =>
brr (decide (a7.ID ≥ a9.ID)) (
doneA (false)) (
cont (IntKind.i64.wrap (v6 + 1)))) (
doneB ())

noncomputable def f37 (p1 : List Vertex) : Pg Bool :=
loop2 (1 : Int) (fun s11 => f37.l1 p1 s11) (fun s11 => ([(0, V p1), (1, .clo 38 []), (5, V s11)], [])) .inl (fun r12 =>
.ret r12) (.cut (.ext 0) fun _ => ([], [])) fun _ =>
.ret (true)

theorem f37.ok (p1 : List Vertex) {x} (h : (f37 p1).run = some x) : Spec Try.prog 37 [V p1, .clo 38 []] [] (V x) [] :=
  Prg.ok Try.func37 (res := fun x => V x) (outs := fun x => []) (by kernel_rfl) (by kernel_rfl) rfl h

noncomputable def f40 (p1 : Edge) : Pg Unit :=
.ret (())

theorem f40.ok (p1 : Edge) {x} (h : (f40 p1).run = some x) : Spec Try.prog 40 [V p1] [] (V p1.ID) [] :=
  Prg.ok Try.func40 (res := fun x => V p1.ID) (outs := fun x => []) (by kernel_rfl) (by kernel_rfl) rfl h

noncomputable def f39.l1 (p1 : List Edge) (v6 : Int) : Pg (Nx Int (Ex (Bool) Unit Empty)) :=
brr (decide (v6 < (L p1 : Int))) (
getR p1 (IntKind.i64.wrap (v6 - 1)) fun a7 =>
cl (f40.ok a7) fun _ =>
getR p1 v6 fun a9 =>
cl (f40.ok a9) fun _ =>
brr (decide (a7.ID ≥ a9.ID)) (
doneA (false)) (
cont (IntKind.i64.wrap (v6 + 1)))) (
doneB ())

noncomputable def f39 (p1 : List Edge) : Pg Bool :=
loop2 (1 : Int) (fun s11 => f39.l1 p1 s11) (fun s11 => ([(0, V p1), (1, .clo 40 []), (5, V s11)], [])) .inl (fun r12 =>
.ret r12) (.cut (.ext 0) fun _ => ([], [])) fun _ =>
.ret (true)

theorem f39.ok (p1 : List Edge) {x} (h : (f39 p1).run = some x) : Spec Try.prog 39 [V p1, .clo 40 []] [] (V x) [] :=
  Prg.ok Try.func39 (res := fun x => V x) (outs := fun x => []) (by kernel_rfl) (by kernel_rfl) rfl h

noncomputable def f60 (p1 p2 p3 : Int) : Pg Unit :=
.ret (())

theorem f60.ok (p1 p2 p3 : Int) {x} (h : (f60 p1 p2 p3).run = some x) : Spec Try.prog 60 [V p1, V p2, V p3] [] (V ((decide (p2 ≤ p1)) && (decide (p1 ≤ p3)))) [] :=
  Prg.ok Try.func60 (res := fun x => V ((decide (p2 ≤ p1)) && (decide (p1 ≤ p3)))) (outs := fun x => []) (by kernel_rfl) (by kernel_rfl) rfl h

noncomputable def f46 (p1 : Vertex) : Pg Bool :=
cl (f60.ok p1.ID (0 : Int) (23 : Int)) fun _ =>
brr ((decide ((0 : Int) ≤ p1.ID)) && (decide (p1.ID ≤ (23 : Int)))) (
cl (f60.ok p1.Side (0 : Int) (3 : Int)) fun _ =>
.ret (((decide ((0 : Int) ≤ p1.Side)) && (decide (p1.Side ≤ (3 : Int)))))) (
.ret (false))

theorem f46.ok (p1 : Vertex) {x} (h : (f46 p1).run = some x) : Spec Try.prog 46 [V p1] [] (V x) [] :=
  Prg.ok Try.func46 (res := fun x => V x) (outs := fun x => []) (by kernel_rfl) (by kernel_rfl) rfl h

noncomputable def f45 (p1 : Vertex) : Pg Bool :=
cl (f46.ok p1) fun y2 =>
.ret ((!y2))

theorem f45.ok (p1 : Vertex) {x} (h : (f45 p1).run = some x) : Spec Try.prog 45 [V p1] [] (V x) [] :=
  Prg.ok Try.func45 (res := fun x => V x) (outs := fun x => []) (by kernel_rfl) (by kernel_rfl) rfl h

noncomputable def f62.l1 (p1 : List Vertex) (v4 : Int) : Pg (Nx Int (Ex (Int) Unit Empty)) :=
brr (decide (v4 < (L p1 : Int))) (
getR p1 v4 fun a5 =>
cl (f45.ok a5) fun y6 =>
brr y6 (
doneA (v4)) (
cont (IntKind.i64.wrap (v4 + 1)))) (
doneB ())

noncomputable def f62 (p1 : List Vertex) : Pg Int :=
loop2 (0 : Int) (fun s7 => f62.l1 p1 s7) (fun s7 => ([(0, V p1), (1, .clo 45 []), (7, V (L p1 : Int)), (8, V s7)], [])) .inl (fun r8 =>
.ret r8) (.cut (.ext 0) fun _ => ([], [])) fun _ =>
.ret (((-1) : Int))

theorem f62.ok (p1 : List Vertex) {x} (h : (f62 p1).run = some x) : Spec Try.prog 62 [V p1, .clo 45 []] [] (V x) [] :=
  Prg.ok Try.func62 (res := fun x => V x) (outs := fun x => []) (by kernel_rfl) (by kernel_rfl) rfl h

noncomputable def f44 (p1 : List Vertex) : Pg Bool :=
cl (f62.ok p1) fun y2 =>
.ret ((decide (y2 ≥ 0)))

theorem f44.ok (p1 : List Vertex) {x} (h : (f44 p1).run = some x) : Spec Try.prog 44 [V p1, .clo 45 []] [] (V x) [] :=
  Prg.ok Try.func44 (res := fun x => V x) (outs := fun x => []) (by kernel_rfl) (by kernel_rfl) rfl h

noncomputable def f42 (p1 : Edge) : Pg Bool :=
cl (f60.ok p1.ID (0 : Int) (39 : Int)) fun _ =>
brr ((decide ((0 : Int) ≤ p1.ID)) && (decide (p1.ID ≤ (39 : Int)))) (
cl (f60.ok p1.From (0 : Int) (23 : Int)) fun _ =>
brr ((decide ((0 : Int) ≤ p1.From)) && (decide (p1.From ≤ (23 : Int)))) (
cl (f60.ok p1.To (0 : Int) (23 : Int)) fun _ =>
brr ((decide ((0 : Int) ≤ p1.To)) && (decide (p1.To ≤ (23 : Int)))) (
cl (f60.ok p1.Weight ((-1000) : Int) (1000 : Int)) fun _ =>
brr ((decide (((-1000) : Int) ≤ p1.Weight)) && (decide (p1.Weight ≤ (1000 : Int)))) (
cl (f60.ok p1.Cap (0 : Int) (1000 : Int)) fun _ =>
.ret (((decide ((0 : Int) ≤ p1.Cap)) && (decide (p1.Cap ≤ (1000 : Int)))))) (
.ret (false))) (
.ret (false))) (
.ret (false))) (
.ret (false))

theorem f42.ok (p1 : Edge) {x} (h : (f42 p1).run = some x) : Spec Try.prog 42 [V p1] [] (V x) [] :=
  Prg.ok Try.func42 (res := fun x => V x) (outs := fun x => []) (by kernel_rfl) (by kernel_rfl) rfl h

noncomputable def f77 (p1 : Int) : Pg Unit :=
.ret (())

theorem f77.ok (p1 : Int) {x} (h : (f77 p1).run = some x) : Spec Try.prog 77 [V p1] [] (V (p1 != p1)) [] :=
  Prg.ok Try.func77 (res := fun x => V (p1 != p1)) (outs := fun x => []) (by kernel_rfl) (by kernel_rfl) rfl h

noncomputable def f74 (p1 p2 : Int) : Pg Int :=
cl (f77.ok p1) fun _ =>
cl (f77.ok p2) fun _ =>
brr (p1 != p1) (
brr (p2 != p2) (
.ret ((0 : Int))) (
.ret (((-1) : Int)))) (
brr (p2 != p2) (
.ret ((1 : Int))) (
brr (decide (p1 < p2)) (
.ret (((-1) : Int))) (
brr (decide (p1 > p2)) (
.ret ((1 : Int))) (
.ret ((0 : Int))))))

theorem f74.ok (p1 p2 : Int) {x} (h : (f74 p1 p2).run = some x) : Spec Try.prog 74 [V p1, V p2] [] (V x) [] :=
  Prg.ok Try.func74 (res := fun x => V x) (outs := fun x => []) (by kernel_rfl) (by kernel_rfl) rfl h

noncomputable def f73 (p1 : Vertex) (p2 : Int) : Pg Int :=
cl (f74.ok p1.ID p2) fun y3 =>
.ret (y3)

theorem f73.ok (p1 : Vertex) (p2 : Int) {x} (h : (f73 p1 p2).run = some x) : Spec Try.prog 73 [V p1, V p2] [] (V x) [] :=
  Prg.ok Try.func73 (res := fun x => V x) (outs := fun x => []) (by kernel_rfl) (by kernel_rfl) rfl h

noncomputable def f72.l1 (p1 : List Vertex) (p2 : Int) (v6 v7 : Int) : Pg (Nx (Int × Int) (Ex Int Empty Empty)) :=
brr (decide (v6 < v7)) (
let e8 : Int := (IntKind.i64.wrap ((IntKind.u64.wrap (IntKind.i64.wrap (v6 + v7))).fdiv (2 ^ (min (1 : Int).toNat IntKind.u64.bits))))
getR p1 e8 fun a9 =>
cl (f73.ok a9 p2) fun y10 =>
brr (decide (y10 < 0)) (
cont ((IntKind.i64.wrap (e8 + 1)), v7)) (
cont (v6, e8))) (
doneA v6)

noncomputable def f72 (p1 : List Vertex) (p2 : Int) : Pg (Int × Bool) :=
loop1 ((0 : Int), (L p1 : Int)) (fun s11 => f72.l1 p1 p2 s11.1 s11.2) (fun s11 => ([(0, V p1), (1, V p2), (2, .clo 73 []), (8, V (L p1 : Int)), (9, V s11.1), (10, V s11.2)], [])) (.cut (.ext 0) fun x12 => ([(0, V p1), (1, V p2), (2, .clo 73 []), (8, V (L p1 : Int)), (9, V x12)], [])) fun x12 =>
brr (decide (x12 < (L p1 : Int))) (
getR p1 x12 fun a13 =>
cl (f73.ok a13 p2) fun y14 =>
.ret ((x12, (y14 == 0)))) (
.ret ((x12, false)))

theorem f72.ok (p1 : List Vertex) (p2 : Int) {x} (h : (f72 p1 p2).run = some x) : Spec Try.prog 72 [V p1, V p2, .clo 73 []] [] (.tup [V x.1, V x.2]) [] :=
  Prg.ok Try.func72 (res := fun x => .tup [V x.1, V x.2]) (outs := fun x => []) (by kernel_rfl) (by kernel_rfl) rfl h

noncomputable def f61 (p1 : Int) (p2 : List Vertex) (p3 : List Edge) : Pg (Int × Bool) :=
cl (f72.ok p2 p1) fun y4 =>
.ret ((y4.1, y4.2))

theorem f61.ok (p1 : Int) (p2 : List Vertex) (p3 : List Edge) {x} (h : (f61 p1 p2 p3).run = some x) : Spec Try.prog 61 [R 0, V p1] [.varp [.sl (p2.map Cel.enc), .sl (p3.map Cel.enc), .nilsl]] (.tup [V x.1, V x.2]) [.varp [.sl (p2.map Cel.enc), .sl (p3.map Cel.enc), .nilsl]] :=
  Prg.ok Try.func61 (res := fun x => .tup [V x.1, V x.2]) (outs := fun x => [.varp [.sl (p2.map Cel.enc), .sl (p3.map Cel.enc), .nilsl]]) (by kernel_rfl) (by kernel_rfl) rfl h

noncomputable def f43 (p1 : Int) (p2 : List Vertex) (p3 : List Edge) : Pg Bool :=
cl (f61.ok p1 p2 p3) fun y4 =>
.ret (y4.2)

theorem f43.ok (p1 : Int) (p2 : List Vertex) (p3 : List Edge) {x} (h : (f43 p1 p2 p3).run = some x) : Spec Try.prog 43 [R 0, V p1] [.varp [.sl (p2.map Cel.enc), .sl (p3.map Cel.enc), .nilsl]] (V x) [.varp [.sl (p2.map Cel.enc), .sl (p3.map Cel.enc), .nilsl]] :=
  Prg.ok Try.func43 (res := fun x => V x) (outs := fun x => [.varp [.sl (p2.map Cel.enc), .sl (p3.map Cel.enc), .nilsl]]) (by kernel_rfl) (by kernel_rfl) rfl h

noncomputable def f41 (p1 : Edge) (p2 : List Vertex) (p3 : List Edge) : Pg Bool :=
cl (f42.ok p1) fun y4 =>
brr (!y4) (
.ret (true)) (
cl (f43.ok p1.From p2 p3) fun y5 =>
brr (!y5) (
.ret (true)) (
cl (f43.ok p1.To p2 p3) fun y6 =>
.ret ((!y6))))

theorem f41.ok (p1 : Edge) (p2 : List Vertex) (p3 : List Edge) {x} (h : (f41 p1 p2 p3).run = some x) : Spec Try.prog 41 [V p1, R 0] [mkVar (R 2), .varp [.sl (p2.map Cel.enc), .sl (p3.map Cel.enc), .nilsl]] (V x) [mkVar (R 2), .varp [.sl (p2.map Cel.enc), .sl (p3.map Cel.enc), .nilsl]] :=
  Prg.ok Try.func41 (res := fun x => V x) (outs := fun x => [mkVar (R 2), .varp [.sl (p2.map Cel.enc), .sl (p3.map Cel.enc), .nilsl]]) (by kernel_rfl) (by kernel_rfl) rfl h

noncomputable def f57.l1 (p1 : List Edge) (p2 : List Vertex) (p3 : List Edge) (v6 : Int) : Pg (Nx Int (Ex (Int) Unit Empty)) :=
brr (decide (v6 < (L p1 : Int))) (
getR p1 v6 fun a7 =>
cl (f41.ok a7 p2 p3) fun y8 =>
brr y8 (
doneA (v6)) (
cont (IntKind.i64.wrap (v6 + 1)))) (
doneB ())

noncomputable def f57 (p1 : List Edge) (p2 : List Vertex) (p3 : List Edge) : Pg Int :=
loop2 (0 : Int) (fun s9 => f57.l1 p1 p2 p3 s9) (fun s9 => ([(0, V p1), (1, .clo 41 [R 0]), (7, V (L p1 : Int)), (8, V s9)], [(0, mkVar (R 2)), (2, .varp [.sl (p2.map Cel.enc), .sl (p3.map Cel.enc), .nilsl])])) .inl (fun r10 =>
.ret r10) (.cut (.ext 0) fun _ => ([], [(0, mkVar (R 2)), (2, .varp [.sl (p2.map Cel.enc), .sl (p3.map Cel.enc), .nilsl])])) fun _ =>
.ret (((-1) : Int))

theorem f57.ok (p1 : List Edge) (p2 : List Vertex) (p3 : List Edge) {x} (h : (f57 p1 p2 p3).run = some x) : Spec Try.prog 57 [V p1, .clo 41 [R 0]] [mkVar (R 2), .varp [.sl (p2.map Cel.enc), .sl (p3.map Cel.enc), .nilsl]] (V x) [mkVar (R 2), .varp [.sl (p2.map Cel.enc), .sl (p3.map Cel.enc), .nilsl]] :=
  Prg.ok Try.func57 (res := fun x => V x) (outs := fun x => [mkVar (R 2), .varp [.sl (p2.map Cel.enc), .sl (p3.map Cel.enc), .nilsl]]) (by kernel_rfl) (by kernel_rfl) rfl h

noncomputable def f33 (p1 : List Edge) (p2 : List Vertex) (p3 : List Edge) : Pg Bool :=
cl (f57.ok p1 p2 p3) fun y4 =>
.ret ((decide (y4 ≥ 0)))

theorem f33.ok (p1 : List Edge) (p2 : List Vertex) (p3 : List Edge) {x} (h : (f33 p1 p2 p3).run = some x) : Spec Try.prog 33 [V p1, .clo 41 [R 0]] [mkVar (R 2), .varp [.sl (p2.map Cel.enc), .sl (p3.map Cel.enc), .nilsl]] (V x) [mkVar (R 2), .varp [.sl (p2.map Cel.enc), .sl (p3.map Cel.enc), .nilsl]] :=
  Prg.ok Try.func33 (res := fun x => V x) (outs := fun x => [mkVar (R 2), .varp [.sl (p2.map Cel.enc), .sl (p3.map Cel.enc), .nilsl]]) (by kernel_rfl) (by kernel_rfl) rfl h

noncomputable def f64 (p1 : Int) : Pg Unit :=
.ret (())

theorem f64.ok (p1 : Int) {x} (h : (f64 p1).run = some x) : Spec Try.prog 64 [V p1] [] (V p1) [] :=
  Prg.ok Try.func64 (res := fun x => V p1) (outs := fun x => []) (by kernel_rfl) (by kernel_rfl) rfl h

noncomputable def f63.l1 (p1 : List Int) (v6 : Int) : Pg (Nx Int (Ex (Bool) Unit Empty)) :=
brr (decide (v6 < (L p1 : Int))) (
getR p1 (IntKind.i64.wrap (v6 - 1)) fun a7 =>
cl (f64.ok a7) fun _ =>
getR p1 v6 fun a9 =>
cl (f64.ok a9) fun _ =>
brr (decide (a7 ≥ a9)) (
doneA (false)) (
cont (IntKind.i64.wrap (v6 + 1)))) (
doneB ())

noncomputable def f63 (p1 : List Int) : Pg Bool :=
loop2 (1 : Int) (fun s11 => f63.l1 p1 s11) (fun s11 => ([(0, V p1), (1, .clo 64 []), (5, V s11)], [])) .inl (fun r12 =>
.ret r12) (.cut (.ext 0) fun _ => ([], [])) fun _ =>
.ret (true)

theorem f63.ok (p1 : List Int) {x} (h : (f63 p1).run = some x) : Spec Try.prog 63 [V p1, .clo 64 []] [] (V x) [] :=
  Prg.ok Try.func63 (res := fun x => V x) (outs := fun x => []) (by kernel_rfl) (by kernel_rfl) rfl h

noncomputable def f65 (p1 : Int) (p2 : List Vertex) (p3 : List Edge) : Pg Bool :=
cl (f43.ok p1 p2 p3) fun y4 =>
.ret ((!y4))

theorem f65.ok (p1 : Int) (p2 : List Vertex) (p3 : List Edge) {x} (h : (f65 p1 p2 p3).run = some x) : Spec Try.prog 65 [V p1, R 0] [mkVar (R 2), .varp [.sl (p2.map Cel.enc), .sl (p3.map Cel.enc), .nilsl]] (V x) [mkVar (R 2), .varp [.sl (p2.map Cel.enc), .sl (p3.map Cel.enc), .nilsl]] :=
  Prg.ok Try.func65 (res := fun x => V x) (outs := fun x => [mkVar (R 2), .varp [.sl (p2.map Cel.enc), .sl (p3.map Cel.enc), .nilsl]]) (by kernel_rfl) (by kernel_rfl) rfl h

noncomputable def f71.l1 (p1 : List Int) (p2 : List Vertex) (p3 : List Edge) (v6 : Int) : Pg (Nx Int (Ex (Int) Unit Empty)) :=
brr (decide (v6 < (L p1 : Int))) (
getR p1 v6 fun a7 =>
cl (f65.ok a7 p2 p3) fun y8 =>
brr y8 (
doneA (v6)) (
cont (IntKind.i64.wrap (v6 + 1)))) (
doneB ())

noncomputable def f71 (p1 : List Int) (p2 : List Vertex) (p3 : List Edge) : Pg Int :=
loop2 (0 : Int) (fun s9 => f71.l1 p1 p2 p3 s9) (fun s9 => ([(0, V p1), (1, .clo 65 [R 0]), (7, V (L p1 : Int)), (8, V s9)], [(0, mkVar (R 2)), (2, .varp [.sl (p2.map Cel.enc), .sl (p3.map Cel.enc), .nilsl])])) .inl (fun r10 =>
.ret r10) (.cut (.ext 0) fun _ => ([], [(0, mkVar (R 2)), (2, .varp [.sl (p2.map Cel.enc), .sl (p3.map Cel.enc), .nilsl])])) fun _ =>
.ret (((-1) : Int))

theorem f71.ok (p1 : List Int) (p2 : List Vertex) (p3 : List Edge) {x} (h : (f71 p1 p2 p3).run = some x) : Spec Try.prog 71 [V p1, .clo 65 [R 0]] [mkVar (R 2), .varp [.sl (p2.map Cel.enc), .sl (p3.map Cel.enc), .nilsl]] (V x) [mkVar (R 2), .varp [.sl (p2.map Cel.enc), .sl (p3.map Cel.enc), .nilsl]] :=
  Prg.ok Try.func71 (res := fun x => V x) (outs := fun x => [mkVar (R 2), .varp [.sl (p2.map Cel.enc), .sl (p3.map Cel.enc), .nilsl]]) (by kernel_rfl) (by kernel_rfl) rfl h

noncomputable def f55 (p1 : List Int) (p2 : List Vertex) (p3 : List Edge) : Pg Bool :=
cl (f71.ok p1 p2 p3) fun y4 =>
.ret ((decide (y4 ≥ 0)))

theorem f55.ok (p1 : List Int) (p2 : List Vertex) (p3 : List Edge) {x} (h : (f55 p1 p2 p3).run = some x) : Spec Try.prog 55 [V p1, .clo 65 [R 0]] [mkVar (R 2), .varp [.sl (p2.map Cel.enc), .sl (p3.map Cel.enc), .nilsl]] (V x) [mkVar (R 2), .varp [.sl (p2.map Cel.enc), .sl (p3.map Cel.enc), .nilsl]] :=
  Prg.ok Try.func55 (res := fun x => V x) (outs := fun x => [mkVar (R 2), .varp [.sl (p2.map Cel.enc), .sl (p3.map Cel.enc), .nilsl]]) (by kernel_rfl) (by kernel_rfl) rfl h

noncomputable def f47 (p1 : List Vertex) (p2 : List Edge) : Pg Bool :=
brr (decide ((0 : Int) ≤ 3)) (
cl (f63.ok ([] : List Int)) fun y3 =>
brr y3 (
cl (f55.ok ([] : List Int) p1 p2) fun y4 =>
.ret ((!y4))) (
.ret (false))) (
.ret (false))

theorem f47.ok (p1 : List Vertex) (p2 : List Edge) {x} (h : (f47 p1 p2).run = some x) : Spec Try.prog 47 [R 0] [.varp [.sl (p1.map Cel.enc), .sl (p2.map Cel.enc), .nilsl]] (V x) [.varp [.sl (p1.map Cel.enc), .sl (p2.map Cel.enc), .nilsl]] :=
  Prg.ok Try.func47 (res := fun x => V x) (outs := fun x => [.varp [.sl (p1.map Cel.enc), .sl (p2.map Cel.enc), .nilsl]]) (by kernel_rfl) (by kernel_rfl) rfl h

noncomputable def f21 (p1 : List Vertex) (p2 : List Edge) : Pg Bool :=
join1 (.reg 1) (
cl (f37.ok p1) fun y4 =>
brr (!y4) (
retA' true) (
cl (f39.ok p2) fun y5 =>
retA' (!y5))) (.cut .nat fun x6 => ([(1, R 101), (14, V x6)], [(101, .varp [.sl (p1.map Cel.enc), .sl (p2.map Cel.enc), .nilsl])])) fun x6 =>
brr x6 (
.ret (false)) (
cl (f44.ok p1) fun y7 =>
brr (!y7) (
cl (f33.ok p2 p1 p2) fun y8 =>
brr (!y8) (
cl (f47.ok p1 p2) fun y9 =>
.ret (y9)) (
.ret (false))) (
.ret (false)))

theorem f21.ok (p1 : List Vertex) (p2 : List Edge) {x} (h : (f21 p1 p2).run = some x) : Spec Try.prog 21 [.aggp [.sl (p1.map Cel.enc), .sl (p2.map Cel.enc), .nilsl]] [] (V x) [] :=
  Prg.ok Try.func21 (res := fun x => V x) (outs := fun x => []) (by kernel_rfl) (by kernel_rfl) rfl h

noncomputable def f36 (p1 : Edge) (p2 : Int) : Pg Int :=
brr (p2 == p1.From) (
.ret (p1.To)) (
brr (p2 == p1.To) (
.ret (p1.From)) (
.ret (((-1) : Int))))

theorem f36.ok (p1 : Edge) (p2 : Int) {x} (h : (f36 p1 p2).run = some x) : Spec Try.prog 36 [V p1, V p2] [] (V x) [] :=
  Prg.ok Try.func36 (res := fun x => V x) (outs := fun x => []) (by kernel_rfl) (by kernel_rfl) rfl h

noncomputable def f48.l1 (p2 : List Edge) (p3 : Int) (v10 : Int) (l11 : List Edge) : Pg (Nx (Int × (List Edge)) (Ex (List Edge) Empty Empty)) :=
brr (decide (v10 < (L p2 : Int))) (
getR p2 v10 fun a12 =>
join1 (.reg 4) (
brr (a12.From == p3) (
retA' true) (
retA' (a12.To == p3))) (.cut .nat fun x13 => ([(1, V p3), (4, H Edge 101), (6, R 103), (8, V p2), (9, V (L p2 : Int)), (10, V v10), (23, V x13)], [(101, O l11), (103, B a12)])) fun x13 =>
brr x13 (
ap l11 ([a12] : List Edge) fun l14 =>
cont ((IntKind.i64.wrap (v10 + 1)), l14)) (
cont ((IntKind.i64.wrap (v10 + 1)), l11))) (
doneA l11)

noncomputable def f48 (p1 : List Vertex) (p2 : List Edge) (p3 : Int) : Pg (List Edge) :=
loop1 ((0 : Int), ([] : List Edge)) (fun s15 => f48.l1 p2 p3 s15.1 s15.2) (fun s15 => ([(1, V p3), (4, H Edge 501), (8, V p2), (9, V (L p2 : Int)), (10, V s15.1)], [(501, O s15.2)])) (.cut (.ext 0) fun x16 => ([(4, H Edge 101)], [(101, O x16)])) fun x16 =>
.ret (x16)

theorem f48.ok (p1 : List Vertex) (p2 : List Edge) (p3 : Int) {x} (h : (f48 p1 p2 p3).run = some x) : Spec Try.prog 48 [.aggp [.sl (p1.map Cel.enc), .sl (p2.map Cel.enc), .nilsl], V p3] [] (V x) [] :=
  Prg.ok Try.func48 (res := fun x => V x) (outs := fun x => []) (by kernel_rfl) (by kernel_rfl) rfl h

noncomputable def f22.l1 [Fm] (a64 : Vertex) (a96 : Int) (y97 : List Edge) (v : Int) (M : List (List Int)) (m : List (Int × Ref)) (q : List Int) : Pg (Nx (Int × List (List Int) × List (Int × Ref) × List Int) (Ex (List (List Int) × List (Int × Ref) × List Int) Empty Empty)) :=
brr (decide (v < (L y97 : Int))) (
getR y97 v fun a110 =>
cl (f36.ok a110 a96) fun y111 =>
.ask (mapGet m y111).isSome (
lookR m y111 fun _ =>
brr (!true) .no (
cont ((IntKind.i64.wrap (v + 1)), M, m, q))) (
lookA m y111 <|
brr (!false) (
lookR m a96 fun r =>
ck (1 : Int) r.len <|
rdM M r.i (r.off + (1 : Int).toNat) fun a116 =>
bsM 81 M [a64.ID, (IntKind.i64.wrap (a116 + 1)), (-1)] <|
mset m y111 (Ref.mk (LM M) 0 3) fun m117 =>
ap q ([y111] : List Int) fun q118 =>
cont ((IntKind.i64.wrap (v + 1)), M ++ [[a64.ID, (IntKind.i64.wrap (a116 + 1)), (-1)]], m117, q118)) .no)) (
doneA (M, m, q))

noncomputable def f22.l2 [Fm] (p1 : List Vertex) (p2 : List Edge) (v62 : Int) (a64 : Vertex) (M : List (List Int)) (m : List (Int × Ref)) (q : List Int) : Pg (Nx (List (List Int) × List (Int × Ref) × List Int) (Ex (List (List Int) × List (Int × Ref)) Empty Empty)) :=
brr (decide ((L q : Int) > 0)) (
ck (0 : Int) (L q) <|
rd q (at0 (0 : Int)) fun a96 =>
cl (f48.ok p1 p2 a96) fun y97 =>
loop1 ((0 : Int), M, m, q) (fun s => f22.l1 a64 a96 y97 s.1 s.2.1 s.2.2.1 s.2.2.2) (fun s => ([(1, R 101), (3, .mp 103), (5, R 105), (8, H Int 107), (9, V a96), (21, V p1), (22, V (L p1 : Int)), (23, V v62), (54, V y97), (55, V (L y97 : Int)), (56, V s.1)], [(3, FM s.2.1), (101, .varp [.sl (p1.map Cel.enc), .sl (p2.map Cel.enc), .nilsl]), (103, MR s.2.2.1), (105, B a64), (107, O s.2.2.2)])) (.cut (.ext 4) fun x => ([(1, R 101), (3, .mp 103), (5, R 105), (8, H Int 107), (21, V p1), (22, V (L p1 : Int)), (23, V v62)], [(3, FM x.1), (101, .varp [.sl (p1.map Cel.enc), .sl (p2.map Cel.enc), .nilsl]), (103, MR x.2.1), (105, B a64), (107, O x.2.2)])) fun x =>
cutLoO x.2.2 (1 : Int) fun q121 =>
cont (x.1, x.2.1, q121)) (
doneA (M, m))

noncomputable def f22.l3 [Fm] (p1 : List Vertex) (p2 : List Edge) (v62 : Int) (M : List (List Int)) (m : List (Int × Ref)) : Pg (Nx (Int × List (List Int) × List (Int × Ref)) (Ex (List (List Int) × List (Int × Ref)) Empty Empty)) :=
brr (decide (v62 < (L p1 : Int))) (
getR p1 v62 fun a64 =>
.ask (mapGet m a64.ID).isSome (
lookR m a64.ID fun _ =>
brr true (
cont ((IntKind.i64.wrap (v62 + 1)), M, m)) .no) (
lookA m a64.ID <|
brr false .no (
bsM 40 M [a64.ID, 0, (-1)] <|
mset m a64.ID (Ref.mk (LM M) 0 3) fun m67 =>
loop1 (M ++ [[a64.ID, 0, (-1)]], m67, ([a64.ID] : List Int)) (fun s => f22.l2 p1 p2 v62 a64 s.1 s.2.1 s.2.2) (fun s => ([(1, R 101), (3, .mp 103), (5, R 105), (8, H Int 107), (21, V p1), (22, V (L p1 : Int)), (23, V v62)], [(3, FM s.1), (101, .varp [.sl (p1.map Cel.enc), .sl (p2.map Cel.enc), .nilsl]), (103, MR s.2.1), (105, B a64), (107, O s.2.2)])) (.cut (.ext 2) fun x => ([(1, R 101), (3, .mp 103), (21, V p1), (22, V (L p1 : Int)), (23, V v62)], [(3, FM x.1), (101, .varp [.sl (p1.map Cel.enc), .sl (p2.map Cel.enc), .nilsl]), (103, MR x.2)])) fun x =>
cont ((IntKind.i64.wrap (v62 + 1)), x.1, x.2)))) (
doneA (M, m))

noncomputable def f22.l4 [Fm] (m : List (Int × Ref)) (M : List (List Int)) (key : Int) (r : Ref) (y97 : List Edge) (v : Int) : Pg (Nx Int (Ex (List (List Int)) Unit Empty)) :=
brr (decide (v < (L y97 : Int))) (
getR y97 v fun a =>
cl (f36.ok a key) fun y106 =>
lookR m y106 fun r2 =>
ck (1 : Int) r2.len <|
rdM M r2.i (r2.off + (1 : Int).toNat) fun a109 =>
ck (1 : Int) r.len <|
rdM M r.i (r.off + (1 : Int).toNat) fun a112 =>
brr (a109 == (IntKind.i64.wrap (a112 - 1))) (
ck (2 : Int) r.len <|
stM M r.i (r.off + (2 : Int).toNat) a.ID fun M2 =>
doneA M2) (
cont (IntKind.i64.wrap (v + 1)))) (
doneB ())

noncomputable def f22.l5 [Fm] (p1 : List Vertex) (p2 : List Edge) (m : List (Int × Ref)) (seen : List Nat) (i : Nat) (M : List (List Int)) : Pg (Nx (List (List Int)) (Ex Empty Empty Empty)) :=
entM 103 m i fun key r =>
cl (f48.ok p1 p2 key) fun y97 =>
loop2 (0 : Int) (fun s => f22.l4 m M key r y97 s) (fun s => ([(1, R 101), (3, .mp 103), (15, V key), (16, avR r), (89, R 105), (97, V y97), (98, V (L y97 : Int)), (99, V s)], [(3, FM M), (101, .varp [.sl (p1.map Cel.enc), .sl (p2.map Cel.enc), .nilsl]), (103, MR m), (105, .it 103 (m.map mKey).length (i :: seen))])) (.cut (.ext 7) fun M2 => ([(1, R 101), (3, .mp 103), (89, R 105)], [(3, FM M2), (101, .varp [.sl (p1.map Cel.enc), .sl (p2.map Cel.enc), .nilsl]), (103, MR m), (105, .it 103 (m.map mKey).length (i :: seen))])) (fun M2 =>
cont M2) (.cut (.ext 8) fun _ => ([(1, R 101), (3, .mp 103), (89, R 105)], [(3, FM M), (101, .varp [.sl (p1.map Cel.enc), .sl (p2.map Cel.enc), .nilsl]), (103, MR m), (105, .it 103 (m.map mKey).length (i :: seen))])) fun _ =>
cont M

noncomputable def f22.fm [Fm] (p1 : List Vertex) (p2 : List Edge) : Pg (List (Int × List Int)) :=
loop1 ((0 : Int), ([] : List (List Int)), ([] : List (Int × Ref))) (fun s => f22.l3 p1 p2 s.1 s.2.1 s.2.2) (fun s => ([(1, R 101), (3, .mp 103), (21, V p1), (22, V (L p1 : Int)), (23, V s.1)], [(3, FM s.2.1), (101, .varp [.sl (p1.map Cel.enc), .sl (p2.map Cel.enc), .nilsl]), (103, MR s.2.2)])) (.cut (.ext 0) fun x => ([(1, R 101), (3, .mp 103)], [(3, FM x.1), (101, .varp [.sl (p1.map Cel.enc), .sl (p2.map Cel.enc), .nilsl]), (103, MR x.2)])) fun x =>
mloop0 (x.2.map mKey).length x.1 (fun seen i M => f22.l5 p1 p2 x.2 seen i M) (fun M seen => ([(1, R 101), (3, .mp 103), (89, R 105)], [(3, FM M), (101, .varp [.sl (p1.map Cel.enc), .sl (p2.map Cel.enc), .nilsl]), (103, MR x.2), (105, .it 103 (x.2.map mKey).length seen)])) fun M =>
tellG 103 M x.2 fun y =>
.ret y

theorem f22.l1.same (f g : Fm) (a64 a96 y97 v M m q) : (@f22.l1 f a64 a96 y97 v M m q).run = (@f22.l1 g a64 a96 y97 v M m q).run := by
  simp only [f22.l1, r_brr, r_getR, r_ask, r_lookR, r_lookA, r_ck, r_rdM, r_bsM, r_mset, r_ap, r_cl, r_ret, L_eq]
theorem f22.l2.same (f g : Fm) (p1 : List Vertex) (p2 : List Edge) (v62 a64 M m q) : (@f22.l2 f p1 p2 v62 a64 M m q).run = (@f22.l2 g p1 p2 v62 a64 M m q).run := by
  simp only [f22.l2, r_brr, r_ck, r_rd, r_cl, r_loop1, f22.l1.same f g, r_cutLoO, r_ret, L_eq]
theorem f22.l3.same (f g : Fm) (p1 : List Vertex) (p2 : List Edge) (v62 M m) : (@f22.l3 f p1 p2 v62 M m).run = (@f22.l3 g p1 p2 v62 M m).run := by
  simp only [f22.l3, r_brr, r_getR, r_ask, r_lookR, r_lookA, r_bsM, r_mset, r_loop1, f22.l2.same f g, r_ret, L_eq]
theorem f22.l4.same (f g : Fm) (m M key r y97 v) : (@f22.l4 f m M key r y97 v).run = (@f22.l4 g m M key r y97 v).run := by
  simp only [f22.l4, r_brr, r_getR, r_lookR, r_ck, r_rdM, r_stM, r_cl, r_ret, L_eq]
theorem f22.l5.same (f g : Fm) (p1 : List Vertex) (p2 : List Edge) (m seen seen2 i M) : (@f22.l5 f p1 p2 m seen i M).run = (@f22.l5 g p1 p2 m seen2 i M).run := by
  simp only [f22.l5, r_entM, r_cl, r_loop2, f22.l4.same f g, r_ret]
theorem f22.same (f g : Fm) (p1 : List Vertex) (p2 : List Edge) : (@f22.fm f p1 p2).run = (@f22.fm g p1 p2).run := by
  simp only [f22.fm, r_loop1, f22.l3.same f g, r_mloop0, r_tellG, r_ret]
  refine congrArg (bd _) (funext fun e => ?_)
  cases e with
  | a x =>
    simp only [ex3]
    have : (fun (i : Nat) (s : List (List Int)) => runAll fun seen => (@f22.l5 f p1 p2 x.2 seen i s).run) = fun i s => runAll fun seen => (@f22.l5 g p1 p2 x.2 seen i s).run := by
      funext i s
      rw [runAll_const (c := (@f22.l5 g p1 p2 x.2 [] i s).run) (fun seen => f22.l5.same f g p1 p2 x.2 seen [] i s), runAll_const (c := (@f22.l5 g p1 p2 x.2 [] i s).run) (fun seen => f22.l5.same g g p1 p2 x.2 seen [] i s)]
    rw [this]
  | b x => cases x
  | c x => cases x
noncomputable abbrev f22  (p1 : List Vertex) (p2 : List Edge) : Pg (List (Int × List Int)) := @f22.fm ⟨0⟩ p1 p2
theorem f22.ok  (p1 : List Vertex) (p2 : List Edge) {x} (h : (f22 p1 p2).run = some x) : Spec Try.prog 22 [.aggp [.sl (p1.map Cel.enc), .sl (p2.map Cel.enc), .nilsl]] [] (.mp 0) [MO false x] :=
  Prg.okF (p := fun f => @f22.fm ⟨f⟩ p1 p2) Try.func22 1 (res := fun _ => .mp 0) (outs := fun x => [MO false x]) (by kernel_rfl) (by kernel_rfl) rfl (fun f => (f22.same ⟨f⟩ ⟨0⟩ p1 p2).trans h)

noncomputable def f6.l1 (p1 : List Vertex) (y4 : List (Int × (List Int))) (v13 : Int) (l14 : List Named) : Pg (Nx (Int × (List Named)) (Ex (List Named) Empty Empty)) :=
brr (decide (v13 < (L p1 : Int))) (
getR p1 v13 fun a15 =>
look y4 a15.ID ([] : List Int) fun a16 b17 =>
ap l14 ([(Named.mk a15.ID a16)] : List Named) fun l18 =>
cont ((IntKind.i64.wrap (v13 + 1)), l18)) (
doneA l14)

noncomputable def f6 (p1 : List Vertex) (p2 : List Edge) : Pg ((List Named) × Int) :=
cl (f21.ok p1 p2) fun y3 =>
brr (!y3) (
.ret ((([] : List Named), (70 : Int)))) (
cl (f22.ok p1 p2) fun y4 =>
loop1 ((0 : Int), ([] : List Named)) (fun s19 => f6.l1 p1 y4 s19.1 s19.2) (fun s19 => ([(4, .mp 101), (5, H Named 501), (14, V p1), (15, V (L p1 : Int)), (16, V s19.1)], [(101, MO false y4), (501, O s19.2)])) (.cut (.ext 0) fun x20 => ([(5, H Named 101)], [(101, O x20)])) fun x20 =>
.ret ((x20, (0 : Int))))

theorem f6.ok (p1 : List Vertex) (p2 : List Edge) {x} (h : (f6 p1 p2).run = some x) : Spec Try.prog 6 [.aggp [.sl (p1.map Cel.enc), .sl (p2.map Cel.enc), .nilsl]] [] (.tup [V x.1, V x.2]) [] :=
  Prg.ok Try.func6 (res := fun x => .tup [V x.1, V x.2]) (outs := fun x => []) (by kernel_rfl) (by kernel_rfl) rfl h

noncomputable def f54 (p1 : Vertex) (p2 : Int) : Pg Unit :=
.ret (())

theorem f54.ok (p1 : Vertex) (p2 : Int) {x} (h : (f54 p1 p2).run = some x) : Spec Try.prog 54 [V p1, R 0] [B p2] (V (p1.ID == p2)) [B p2] :=
  Prg.ok Try.func54 (res := fun x => V (p1.ID == p2)) (outs := fun x => [B p2]) (by kernel_rfl) (by kernel_rfl) rfl h

noncomputable def f62v1.l1 (p1 : List Vertex) (p2 : Int) (v5 : Int) : Pg (Nx Int (Ex (Int) Unit Empty)) :=
brr (decide (v5 < (L p1 : Int))) (
getR p1 v5 fun a6 =>
cl (f54.ok a6 p2) fun _ =>
brr (a6.ID == p2) (
doneA (v5)) (
cont (IntKind.i64.wrap (v5 + 1)))) (
doneB ())

noncomputable def f62v1 (p1 : List Vertex) (p2 : Int) : Pg Int :=
loop2 (0 : Int) (fun s8 => f62v1.l1 p1 p2 s8) (fun s8 => ([(0, V p1), (1, .clo 54 [R 0]), (7, V (L p1 : Int)), (8, V s8)], [(0, B p2)])) .inl (fun r9 =>
.ret r9) (.cut (.ext 0) fun _ => ([], [(0, B p2)])) fun _ =>
.ret (((-1) : Int))

theorem f62v1.ok (p1 : List Vertex) (p2 : Int) {x} (h : (f62v1 p1 p2).run = some x) : Spec Try.prog 62 [V p1, .clo 54 [R 0]] [B p2] (V x) [B p2] :=
  Prg.ok Try.func62 (res := fun x => V x) (outs := fun x => [B p2]) (by kernel_rfl) (by kernel_rfl) rfl h

noncomputable def f44v1 (p1 : List Vertex) (p2 : Int) : Pg Bool :=
cl (f62v1.ok p1 p2) fun y3 =>
.ret ((decide (y3 ≥ 0)))

theorem f44v1.ok (p1 : List Vertex) (p2 : Int) {x} (h : (f44v1 p1 p2).run = some x) : Spec Try.prog 44 [V p1, .clo 54 [R 0]] [B p2] (V x) [B p2] :=
  Prg.ok Try.func44 (res := fun x => V x) (outs := fun x => [B p2]) (by kernel_rfl) (by kernel_rfl) rfl h

noncomputable def f53 (p1 : Int) (p2 : List Vertex) (p3 : List Edge) : Pg Bool :=
cl (f44v1.ok p2 p1) fun y4 =>
.ret ((!y4))

theorem f53.ok (p1 : Int) (p2 : List Vertex) (p3 : List Edge) {x} (h : (f53 p1 p2 p3).run = some x) : Spec Try.prog 53 [V p1, R 0] [.varp [.sl (p2.map Cel.enc), .sl (p3.map Cel.enc), .nilsl]] (V x) [.varp [.sl (p2.map Cel.enc), .sl (p3.map Cel.enc), .nilsl]] :=
  Prg.ok Try.func53 (res := fun x => V x) (outs := fun x => [.varp [.sl (p2.map Cel.enc), .sl (p3.map Cel.enc), .nilsl]]) (by kernel_rfl) (by kernel_rfl) rfl h

noncomputable def f71v1.l1 (p1 : List Int) (p2 : List Vertex) (p3 : List Edge) (v6 : Int) : Pg (Nx Int (Ex (Int) Unit Empty)) :=
brr (decide (v6 < (L p1 : Int))) (
getR p1 v6 fun a7 =>
cl (f53.ok a7 p2 p3) fun y8 =>
brr y8 (
doneA (v6)) (
cont (IntKind.i64.wrap (v6 + 1)))) (
doneB ())

noncomputable def f71v1 (p1 : List Int) (p2 : List Vertex) (p3 : List Edge) : Pg Int :=
loop2 (0 : Int) (fun s9 => f71v1.l1 p1 p2 p3 s9) (fun s9 => ([(0, V p1), (1, .clo 53 [R 0]), (7, V (L p1 : Int)), (8, V s9)], [(0, .varp [.sl (p2.map Cel.enc), .sl (p3.map Cel.enc), .nilsl])])) .inl (fun r10 =>
.ret r10) (.cut (.ext 0) fun _ => ([], [(0, .varp [.sl (p2.map Cel.enc), .sl (p3.map Cel.enc), .nilsl])])) fun _ =>
.ret (((-1) : Int))

theorem f71v1.ok (p1 : List Int) (p2 : List Vertex) (p3 : List Edge) {x} (h : (f71v1 p1 p2 p3).run = some x) : Spec Try.prog 71 [V p1, .clo 53 [R 0]] [.varp [.sl (p2.map Cel.enc), .sl (p3.map Cel.enc), .nilsl]] (V x) [.varp [.sl (p2.map Cel.enc), .sl (p3.map Cel.enc), .nilsl]] :=
  Prg.ok Try.func71 (res := fun x => V x) (outs := fun x => [.varp [.sl (p2.map Cel.enc), .sl (p3.map Cel.enc), .nilsl]]) (by kernel_rfl) (by kernel_rfl) rfl h

noncomputable def f55v1 (p1 : List Int) (p2 : List Vertex) (p3 : List Edge) : Pg Bool :=
cl (f71v1.ok p1 p2 p3) fun y4 =>
.ret ((decide (y4 ≥ 0)))

theorem f55v1.ok (p1 : List Int) (p2 : List Vertex) (p3 : List Edge) {x} (h : (f55v1 p1 p2 p3).run = some x) : Spec Try.prog 55 [V p1, .clo 53 [R 0]] [.varp [.sl (p2.map Cel.enc), .sl (p3.map Cel.enc), .nilsl]] (V x) [.varp [.sl (p2.map Cel.enc), .sl (p3.map Cel.enc), .nilsl]] :=
  Prg.ok Try.func55 (res := fun x => V x) (outs := fun x => [.varp [.sl (p2.map Cel.enc), .sl (p3.map Cel.enc), .nilsl]]) (by kernel_rfl) (by kernel_rfl) rfl h

noncomputable def f25 (p1 : List Vertex) (p2 : List Edge) (p3 : List Int) : Pg Bool :=
cl (f21.ok p1 p2) fun y4 =>
brr y4 (
cl (f55v1.ok p3 p1 p2) fun y5 =>
.ret ((!y5))) (
.ret (false))

theorem f25.ok (p1 : List Vertex) (p2 : List Edge) (p3 : List Int) {x} (h : (f25 p1 p2 p3).run = some x) : Spec Try.prog 25 [.aggp [.sl (p1.map Cel.enc), .sl (p2.map Cel.enc), .nilsl], V p3] [] (V x) [] :=
  Prg.ok Try.func25 (res := fun x => V x) (outs := fun x => []) (by kernel_rfl) (by kernel_rfl) rfl h

noncomputable def f11 (p1 : List Vertex) (p2 : List Edge) (p3 p4 : Int) : Pg (Bool × Int) :=
cl (f25.ok p1 p2 ([p3, p4] : List Int)) fun y5 =>
brr (!y5) (
.ret ((false, (70 : Int)))) (
cl (f22.ok p1 p2) fun y6 =>
look y6 p3 ([] : List Int) fun a7 b8 =>
getR a7 (0 : Int) fun a9 =>
look y6 p4 ([] : List Int) fun a10 b11 =>
getR a10 (0 : Int) fun a12 =>
.ret (((a9 == a12), (0 : Int))))

theorem f11.ok (p1 : List Vertex) (p2 : List Edge) (p3 p4 : Int) {x} (h : (f11 p1 p2 p3 p4).run = some x) : Spec Try.prog 11 [.aggp [.sl (p1.map Cel.enc), .sl (p2.map Cel.enc), .nilsl], V p3, V p4] [] (.tup [V x.1, V x.2]) [] :=
  Prg.ok Try.func11 (res := fun x => .tup [V x.1, V x.2]) (outs := fun x => []) (by kernel_rfl) (by kernel_rfl) rfl h

noncomputable def f36v1 (p1 : Edge) (p2 : Int) : Pg Int :=
brr (p2 == p1.From) (
.ret (p1.To)) (
brr (p2 == p1.To) (
.ret (p1.From)) (
.ret (((-1) : Int))))

theorem f36v1.ok (p1 : Edge) (p2 : Int) {x} (h : (f36v1 p1 p2).run = some x) : Spec Try.prog 36 [V p1, V p2] [] (V x) [] :=
  Prg.ok Try.func36 (res := fun x => V x) (outs := fun x => []) (by kernel_rfl) (by kernel_rfl) rfl h

noncomputable def f26.l1 (p2 : List Edge) (p3 p4 : Int) (v7 : Int) : Pg (Nx Int (Ex (Int) Unit Empty)) :=
brr (decide (v7 < (L p2 : Int))) (
getR p2 v7 fun a8 =>
brr (a8.ID == p4) (
cl (f36v1.ok a8 p3) fun y9 =>
doneA (y9)) (
cont (IntKind.i64.wrap (v7 + 1)))) (
doneB ())

noncomputable def f26 (p1 : List Vertex) (p2 : List Edge) (p3 p4 : Int) : Pg Int :=
loop2 (0 : Int) (fun s10 => f26.l1 p2 p3 p4 s10) (fun s10 => ([(1, V p3), (2, V p4), (10, V p2), (11, V (L p2 : Int)), (12, V s10)], [])) .inl (fun r11 =>
.ret r11) (.cut (.ext 0) fun _ => ([], [])) fun _ =>
.ret (((-1) : Int))

theorem f26.ok (p1 : List Vertex) (p2 : List Edge) (p3 p4 : Int) {x} (h : (f26 p1 p2 p3 p4).run = some x) : Spec Try.prog 26 [.aggp [.sl (p1.map Cel.enc), .sl (p2.map Cel.enc), .nilsl], V p3, V p4] [] (V x) [] :=
  Prg.ok Try.func26 (res := fun x => V x) (outs := fun x => []) (by kernel_rfl) (by kernel_rfl) rfl h

noncomputable def f27v1.l1 (v8 v9 : Int) (l10 : List Int) : Pg (Nx (Int × Int × (List Int)) (Ex (List Int) Empty Empty)) :=
brr (decide (v8 < v9)) (
ck v9 (L l10) <|
rd l10 (at0 v9) fun a11 =>
ck v8 (L l10) <|
rd l10 (at0 v8) fun a12 =>
ck v8 (L l10) <|
st l10 (at0 v8) (fun x13 => a11) fun l14 =>
ck v9 (L l14) <|
st l14 (at0 v9) (fun x15 => a12) fun l16 =>
cont ((IntKind.i64.wrap (v8 + 1)), (IntKind.i64.wrap (v9 - 1)), l16)) (
doneA (l10))

noncomputable def f27v1 (p1 : List Int) : Pg (List Int) :=
loop1 ((0 : Int), (IntKind.i64.wrap ((L p1 : Int) - 1)), p1) (fun s17 => f27v1.l1 s17.1 s17.2.1 s17.2.2) (fun s17 => ([(0, H Int 0), (2, V s17.1), (3, V s17.2.1)], [(0, O s17.2.2)])) .inl fun r18 =>
.ret r18

theorem f27v1.ok (p1 : List Int) {x} (h : (f27v1 p1).run = some x) : Spec Try.prog 27 [H Int 0] [O p1] (.tup []) [O x] :=
  Prg.ok Try.func27 (res := fun x => .tup []) (outs := fun x => [O x]) (by kernel_rfl) (by kernel_rfl) rfl h

noncomputable def f12.l1 (p1 : List Vertex) (p2 : List Edge) (y6 : List (Int × (List Int))) (v51 v52 : Int) (l53 l54 : List Int) : Pg (Nx (Int × Int × (List Int) × (List Int)) (Ex ((List Int) × (List Int)) Empty Empty)) :=
brr (v51 != v52) (
look y6 v51 ([] : List Int) fun a55 b56 =>
getR a55 (1 : Int) fun a57 =>
look y6 v52 ([] : List Int) fun a58 b59 =>
getR a58 (1 : Int) fun a60 =>
brr (decide (a57 ≥ a60)) (
look y6 v51 ([] : List Int) fun a61 b62 =>
getR a61 (2 : Int) fun a63 =>
ap l53 ([a63] : List Int) fun l64 =>
look y6 v51 ([] : List Int) fun a65 b66 =>
getR a65 (2 : Int) fun a67 =>
cl (f26.ok p1 p2 v51 a67) fun y68 =>
cont (y68, v52, l64, l54)) (
look y6 v52 ([] : List Int) fun a69 b70 =>
getR a69 (2 : Int) fun a71 =>
ap l54 ([a71] : List Int) fun l72 =>
look y6 v52 ([] : List Int) fun a73 b74 =>
getR a73 (2 : Int) fun a75 =>
cl (f26.ok p1 p2 v52 a75) fun y76 =>
cont (v51, y76, l53, l72))) (
doneA (l53, l54))

noncomputable def f12 (p1 : List Vertex) (p2 : List Edge) (p3 p4 : Int) : Pg ((List Int) × Int) :=
cl (f11.ok p1 p2 p3 p4) fun y5 =>
brr ((y5.2 != 0) || (!y5.1)) (
.ret ((([] : List Int), (70 : Int)))) (
cl (f22.ok p1 p2) fun y6 =>
loop1 (p3, p4, ([] : List Int), ([] : List Int)) (fun s77 => f12.l1 p1 p2 y6 s77.1 s77.2.1 s77.2.2.1 s77.2.2.2) (fun s77 => ([(1, V s77.1), (2, V s77.2.1), (3, R 101), (10, .mp 103), (11, H Int 501), (12, H Int 503)], [(101, .varp [.sl (p1.map Cel.enc), .sl (p2.map Cel.enc), .nilsl]), (103, MO false y6), (501, O s77.2.2.1), (503, O s77.2.2.2)])) (.cut (.ext 0) fun x78 => ([(11, H Int 101), (12, H Int 103)], [(101, O x78.1), (103, O x78.2)])) fun x78 =>
cl (f27v1.ok x78.2) fun y79 =>
ap x78.1 y79 fun l80 =>
.ret ((l80, (0 : Int))))

theorem f12.ok (p1 : List Vertex) (p2 : List Edge) (p3 p4 : Int) {x} (h : (f12 p1 p2 p3 p4).run = some x) : Spec Try.prog 12 [.aggp [.sl (p1.map Cel.enc), .sl (p2.map Cel.enc), .nilsl], V p3, V p4] [] (.tup [V x.1, V x.2]) [] :=
  Prg.ok Try.func12 (res := fun x => .tup [V x.1, V x.2]) (outs := fun x => []) (by kernel_rfl) (by kernel_rfl) rfl h

noncomputable def f13.l1 (p1 : List Vertex) (p3 : Int) (y5 : List (Int × (List Int))) (v22 : Int) (l23 : List Int) : Pg (Nx (Int × (List Int)) (Ex (List Int) Empty Empty)) :=
brr (decide (v22 < (L p1 : Int))) (
getR p1 v22 fun a24 =>
look y5 a24.ID ([] : List Int) fun a25 b26 =>
getR a25 (0 : Int) fun a27 =>
look y5 p3 ([] : List Int) fun a28 b29 =>
getR a28 (0 : Int) fun a30 =>
brr (a27 == a30) (
ap l23 ([a24.ID] : List Int) fun l31 =>
cont ((IntKind.i64.wrap (v22 + 1)), l31)) (
cont ((IntKind.i64.wrap (v22 + 1)), l23))) (
doneA l23)

noncomputable def f13 (p1 : List Vertex) (p2 : List Edge) (p3 : Int) : Pg ((List Int) × Int) :=
cl (f25.ok p1 p2 ([p3] : List Int)) fun y4 =>
brr (!y4) (
.ret ((([] : List Int), (70 : Int)))) (
cl (f22.ok p1 p2) fun y5 =>
loop1 ((0 : Int), ([] : List Int)) (fun s32 => f13.l1 p1 p3 y5 s32.1 s32.2) (fun s32 => ([(1, V p3), (6, .mp 101), (7, H Int 501), (18, V p1), (19, V (L p1 : Int)), (20, V s32.1)], [(101, MO false y5), (501, O s32.2)])) (.cut (.ext 0) fun x33 => ([(7, H Int 101)], [(101, O x33)])) fun x33 =>
.ret ((x33, (0 : Int))))

theorem f13.ok (p1 : List Vertex) (p2 : List Edge) (p3 : Int) {x} (h : (f13 p1 p2 p3).run = some x) : Spec Try.prog 13 [.aggp [.sl (p1.map Cel.enc), .sl (p2.map Cel.enc), .nilsl], V p3] [] (.tup [V x.1, V x.2]) [] :=
  Prg.ok Try.func13 (res := fun x => .tup [V x.1, V x.2]) (outs := fun x => []) (by kernel_rfl) (by kernel_rfl) rfl h

noncomputable def f61v1 (p1 : Int) (p2 : List Int) : Pg (Int × Bool) :=
cl (f72.ok ([] : List Vertex) p1) fun y3 =>
.ret ((y3.1, y3.2))

theorem f61v1.ok (p1 : Int) (p2 : List Int) {x} (h : (f61v1 p1 p2).run = some x) : Spec Try.prog 61 [R 0, V p1] [.varp [.nilsl, .nilsl, .sl (p2.map Cel.enc)]] (.tup [V x.1, V x.2]) [.varp [.nilsl, .nilsl, .sl (p2.map Cel.enc)]] :=
  Prg.ok Try.func61 (res := fun x => .tup [V x.1, V x.2]) (outs := fun x => [.varp [.nilsl, .nilsl, .sl (p2.map Cel.enc)]]) (by kernel_rfl) (by kernel_rfl) rfl h

noncomputable def f43v1 (p1 : Int) (p2 : List Int) : Pg Bool :=
cl (f61v1.ok p1 p2) fun y3 =>
.ret (y3.2)

theorem f43v1.ok (p1 : Int) (p2 : List Int) {x} (h : (f43v1 p1 p2).run = some x) : Spec Try.prog 43 [R 0, V p1] [.varp [.nilsl, .nilsl, .sl (p2.map Cel.enc)]] (V x) [.varp [.nilsl, .nilsl, .sl (p2.map Cel.enc)]] :=
  Prg.ok Try.func43 (res := fun x => V x) (outs := fun x => [.varp [.nilsl, .nilsl, .sl (p2.map Cel.enc)]]) (by kernel_rfl) (by kernel_rfl) rfl h

noncomputable def f41v1 (p1 : Edge) (p2 : List Int) : Pg Bool :=
cl (f42.ok p1) fun y3 =>
brr (!y3) (
.ret (true)) (
cl (f43v1.ok p1.From p2) fun y4 =>
brr (!y4) (
.ret (true)) (
cl (f43v1.ok p1.To p2) fun y5 =>
.ret ((!y5))))

theorem f41v1.ok (p1 : Edge) (p2 : List Int) {x} (h : (f41v1 p1 p2).run = some x) : Spec Try.prog 41 [V p1, R 0] [mkVar (R 2), .varp [.nilsl, .nilsl, .sl (p2.map Cel.enc)]] (V x) [mkVar (R 2), .varp [.nilsl, .nilsl, .sl (p2.map Cel.enc)]] :=
  Prg.ok Try.func41 (res := fun x => V x) (outs := fun x => [mkVar (R 2), .varp [.nilsl, .nilsl, .sl (p2.map Cel.enc)]]) (by kernel_rfl) (by kernel_rfl) rfl h

noncomputable def f57v1.l1 (p1 : List Edge) (p2 : List Int) (v5 : Int) : Pg (Nx Int (Ex (Int) Unit Empty)) :=
brr (decide (v5 < (L p1 : Int))) (
getR p1 v5 fun a6 =>
cl (f41v1.ok a6 p2) fun y7 =>
brr y7 (
doneA (v5)) (
cont (IntKind.i64.wrap (v5 + 1)))) (
doneB ())

noncomputable def f57v1 (p1 : List Edge) (p2 : List Int) : Pg Int :=
loop2 (0 : Int) (fun s8 => f57v1.l1 p1 p2 s8) (fun s8 => ([(0, V p1), (1, .clo 41 [R 0]), (7, V (L p1 : Int)), (8, V s8)], [(0, mkVar (R 2)), (2, .varp [.nilsl, .nilsl, .sl (p2.map Cel.enc)])])) .inl (fun r9 =>
.ret r9) (.cut (.ext 0) fun _ => ([], [(0, mkVar (R 2)), (2, .varp [.nilsl, .nilsl, .sl (p2.map Cel.enc)])])) fun _ =>
.ret (((-1) : Int))

theorem f57v1.ok (p1 : List Edge) (p2 : List Int) {x} (h : (f57v1 p1 p2).run = some x) : Spec Try.prog 57 [V p1, .clo 41 [R 0]] [mkVar (R 2), .varp [.nilsl, .nilsl, .sl (p2.map Cel.enc)]] (V x) [mkVar (R 2), .varp [.nilsl, .nilsl, .sl (p2.map Cel.enc)]] :=
  Prg.ok Try.func57 (res := fun x => V x) (outs := fun x => [mkVar (R 2), .varp [.nilsl, .nilsl, .sl (p2.map Cel.enc)]]) (by kernel_rfl) (by kernel_rfl) rfl h

noncomputable def f33v1 (p1 : List Edge) (p2 : List Int) : Pg Bool :=
cl (f57v1.ok p1 p2) fun y3 =>
.ret ((decide (y3 ≥ 0)))

theorem f33v1.ok (p1 : List Edge) (p2 : List Int) {x} (h : (f33v1 p1 p2).run = some x) : Spec Try.prog 33 [V p1, .clo 41 [R 0]] [mkVar (R 2), .varp [.nilsl, .nilsl, .sl (p2.map Cel.enc)]] (V x) [mkVar (R 2), .varp [.nilsl, .nilsl, .sl (p2.map Cel.enc)]] :=
  Prg.ok Try.func33 (res := fun x => V x) (outs := fun x => [mkVar (R 2), .varp [.nilsl, .nilsl, .sl (p2.map Cel.enc)]]) (by kernel_rfl) (by kernel_rfl) rfl h

noncomputable def f65v1 (p1 : Int) (p2 : List Int) : Pg Bool :=
cl (f43v1.ok p1 p2) fun y3 =>
.ret ((!y3))

theorem f65v1.ok (p1 : Int) (p2 : List Int) {x} (h : (f65v1 p1 p2).run = some x) : Spec Try.prog 65 [V p1, R 0] [mkVar (R 2), .varp [.nilsl, .nilsl, .sl (p2.map Cel.enc)]] (V x) [mkVar (R 2), .varp [.nilsl, .nilsl, .sl (p2.map Cel.enc)]] :=
  Prg.ok Try.func65 (res := fun x => V x) (outs := fun x => [mkVar (R 2), .varp [.nilsl, .nilsl, .sl (p2.map Cel.enc)]]) (by kernel_rfl) (by kernel_rfl) rfl h

noncomputable def f71v2.l1 (p1 p2 : List Int) (v5 : Int) : Pg (Nx Int (Ex (Int) Unit Empty)) :=
brr (decide (v5 < (L p1 : Int))) (
getR p1 v5 fun a6 =>
cl (f65v1.ok a6 p2) fun y7 =>
brr y7 (
doneA (v5)) (
cont (IntKind.i64.wrap (v5 + 1)))) (
doneB ())

noncomputable def f71v2 (p1 p2 : List Int) : Pg Int :=
loop2 (0 : Int) (fun s8 => f71v2.l1 p1 p2 s8) (fun s8 => ([(0, V p1), (1, .clo 65 [R 0]), (7, V (L p1 : Int)), (8, V s8)], [(0, mkVar (R 2)), (2, .varp [.nilsl, .nilsl, .sl (p2.map Cel.enc)])])) .inl (fun r9 =>
.ret r9) (.cut (.ext 0) fun _ => ([], [(0, mkVar (R 2)), (2, .varp [.nilsl, .nilsl, .sl (p2.map Cel.enc)])])) fun _ =>
.ret (((-1) : Int))

theorem f71v2.ok (p1 p2 : List Int) {x} (h : (f71v2 p1 p2).run = some x) : Spec Try.prog 71 [V p1, .clo 65 [R 0]] [mkVar (R 2), .varp [.nilsl, .nilsl, .sl (p2.map Cel.enc)]] (V x) [mkVar (R 2), .varp [.nilsl, .nilsl, .sl (p2.map Cel.enc)]] :=
  Prg.ok Try.func71 (res := fun x => V x) (outs := fun x => [mkVar (R 2), .varp [.nilsl, .nilsl, .sl (p2.map Cel.enc)]]) (by kernel_rfl) (by kernel_rfl) rfl h

noncomputable def f55v2 (p1 p2 : List Int) : Pg Bool :=
cl (f71v2.ok p1 p2) fun y3 =>
.ret ((decide (y3 ≥ 0)))

theorem f55v2.ok (p1 p2 : List Int) {x} (h : (f55v2 p1 p2).run = some x) : Spec Try.prog 55 [V p1, .clo 65 [R 0]] [mkVar (R 2), .varp [.nilsl, .nilsl, .sl (p2.map Cel.enc)]] (V x) [mkVar (R 2), .varp [.nilsl, .nilsl, .sl (p2.map Cel.enc)]] :=
  Prg.ok Try.func55 (res := fun x => V x) (outs := fun x => [mkVar (R 2), .varp [.nilsl, .nilsl, .sl (p2.map Cel.enc)]]) (by kernel_rfl) (by kernel_rfl) rfl h

noncomputable def f47v1 (p1 : List Int) : Pg Bool :=
brr (decide ((L p1 : Int) ≤ 3)) (
cl (f63.ok p1) fun y2 =>
brr y2 (
cl (f55v2.ok p1 p1) fun y3 =>
.ret ((!y3))) (
.ret (false))) (
.ret (false))

theorem f47v1.ok (p1 : List Int) {x} (h : (f47v1 p1).run = some x) : Spec Try.prog 47 [R 0] [.varp [.nilsl, .nilsl, .sl (p1.map Cel.enc)]] (V x) [.varp [.nilsl, .nilsl, .sl (p1.map Cel.enc)]] :=
  Prg.ok Try.func47 (res := fun x => V x) (outs := fun x => [.varp [.nilsl, .nilsl, .sl (p1.map Cel.enc)]]) (by kernel_rfl) (by kernel_rfl) rfl h

noncomputable def f21v1 (p1 : List Int) : Pg Bool :=
join1 (.reg 1) (
cl (f37.ok ([] : List Vertex)) fun y3 =>
brr (!y3) (
retA' true) (
cl (f39.ok ([] : List Edge)) fun y4 =>
retA' (!y4))) (.cut .nat fun x5 => ([(1, R 101), (14, V x5)], [(101, .varp [.nilsl, .nilsl, .sl (p1.map Cel.enc)])])) fun x5 =>
brr x5 (
.ret (false)) (
cl (f44.ok ([] : List Vertex)) fun y6 =>
brr (!y6) (
cl (f33v1.ok ([] : List Edge) p1) fun y7 =>
brr (!y7) (
cl (f47v1.ok p1) fun y8 =>
.ret (y8)) (
.ret (false))) (
.ret (false)))

theorem f21v1.ok (p1 : List Int) {x} (h : (f21v1 p1).run = some x) : Spec Try.prog 21 [.aggp [.nilsl, .nilsl, .sl (p1.map Cel.enc)]] [] (V x) [] :=
  Prg.ok Try.func21 (res := fun x => V x) (outs := fun x => []) (by kernel_rfl) (by kernel_rfl) rfl h

noncomputable def f22v1 (p1 : List Int) : Pg (List (Int × (List Int))) := .no
theorem f22v1.ok (p1 : List Int) {x} (h : (f22v1 p1).run = some x) : Spec Try.prog 22 [.aggp [.nilsl, .nilsl, .sl (p1.map Cel.enc)]] [] (.mp 0) [MO false x] := by cases h

noncomputable def f6v1.l1 : Pg (Nx Unit (Ex Unit Empty Empty)) :=
brr (decide ((0 : Int) < 0)) (
.no) (
doneA ())

noncomputable def f6v1 (p1 : List Int) : Pg Int :=
cl (f21v1.ok p1) fun y2 =>
brr (!y2) (
.ret ((70 : Int))) (
cl (f22v1.ok p1) fun y3 =>
loop1 () (fun _ => f6v1.l1) (fun _ => ([(4, .mp 101), (5, .pv .nilsl), (14, .pv .nilsl), (15, V (0 : Int)), (16, V (0 : Int))], [(101, MO false y3)])) (.cut (.ext 0) fun _ => ([(5, .pv .nilsl)], [])) fun _ =>
.ret ((0 : Int)))

theorem f6v1.ok (p1 : List Int) {x} (h : (f6v1 p1).run = some x) : Spec Try.prog 6 [.aggp [.nilsl, .nilsl, .sl (p1.map Cel.enc)]] [] (.tup [V ([] : List Named), V x]) [] :=
  Prg.ok Try.func6 (res := fun x => .tup [V ([] : List Named), V x]) (outs := fun x => []) (by kernel_rfl) (by kernel_rfl) rfl h

noncomputable def f28.l1 (p1 : List Vertex) (p3 : Int) (v5 : Int) : Pg (Nx Int (Ex (Int) Unit Empty)) :=
brr (decide (v5 < (L p1 : Int))) (
getR p1 v5 fun a6 =>
brr (a6.ID == p3) (
doneA (v5)) (
cont (IntKind.i64.wrap (v5 + 1)))) (
doneB ())

noncomputable def f28 (p1 : List Vertex) (p2 : List Edge) (p3 : Int) : Pg Int :=
loop2 (0 : Int) (fun s7 => f28.l1 p1 p3 s7) (fun s7 => ([(1, V p3), (2, R 101), (5, V s7)], [(101, .varp [.sl (p1.map Cel.enc), .sl (p2.map Cel.enc), .nilsl])])) .inl (fun r8 =>
.ret r8) (.cut (.ext 0) fun _ => ([], [])) fun _ =>
.ret (((-1) : Int))

theorem f28.ok (p1 : List Vertex) (p2 : List Edge) (p3 : Int) {x} (h : (f28 p1 p2 p3).run = some x) : Spec Try.prog 28 [.aggp [.sl (p1.map Cel.enc), .sl (p2.map Cel.enc), .nilsl], V p3] [] (V x) [] :=
  Prg.ok Try.func28 (res := fun x => V x) (outs := fun x => []) (by kernel_rfl) (by kernel_rfl) rfl h

noncomputable def f29.l1 (p1 : List Vertex) (p2 : List Edge) (p3 : Int) (v16 : Int) (l17 : List Edge) : Pg (Nx (Int × (List Edge)) (Ex (List Edge) Empty Empty)) :=
brr (decide (v16 < (L p2 : Int))) (
join1 (.reg 5) (
getR p2 v16 fun a19 =>
brr (a19.From == p3) (
retA' true) (
getR p2 v16 fun a20 =>
retA' (a20.To == p3))) (.cut .nat fun x21 => ([(1, V p3), (2, R 101), (5, H Edge 103), (6, V v16), (31, V x21)], [(101, .varp [.sl (p1.map Cel.enc), .sl (p2.map Cel.enc), .nilsl]), (103, O l17)])) fun x21 =>
brr x21 (
getR p2 v16 fun a22 =>
ap l17 ([a22] : List Edge) fun l23 =>
cont ((IntKind.i64.wrap (v16 + 1)), l23)) (
cont ((IntKind.i64.wrap (v16 + 1)), l17))) (
doneA l17)

noncomputable def f29 (p1 : List Vertex) (p2 : List Edge) (p3 : Int) : Pg (List Edge) :=
loop1 ((0 : Int), ([] : List Edge)) (fun s24 => f29.l1 p1 p2 p3 s24.1 s24.2) (fun s24 => ([(1, V p3), (2, R 101), (5, H Edge 501), (6, V s24.1)], [(101, .varp [.sl (p1.map Cel.enc), .sl (p2.map Cel.enc), .nilsl]), (501, O s24.2)])) (.cut (.ext 0) fun x25 => ([(5, H Edge 101)], [(101, O x25)])) fun x25 =>
.ret (x25)

theorem f29.ok (p1 : List Vertex) (p2 : List Edge) (p3 : Int) {x} (h : (f29 p1 p2 p3).run = some x) : Spec Try.prog 29 [.aggp [.sl (p1.map Cel.enc), .sl (p2.map Cel.enc), .nilsl], V p3] [] (V x) [] :=
  Prg.ok Try.func29 (res := fun x => V x) (outs := fun x => []) (by kernel_rfl) (by kernel_rfl) rfl h

noncomputable def f30 (p1 : Edge) (p2 : Int) : Pg Int :=
brr (p1.From == p2) (
.ret (p1.To)) (
brr (p1.To == p2) (
.ret (p1.From)) (
.ret (((-1) : Int))))

theorem f30.ok (p1 : Edge) (p2 : Int) {x} (h : (f30 p1 p2).run = some x) : Spec Try.prog 30 [V p1, V p2] [] (V x) [] :=
  Prg.ok Try.func30 (res := fun x => V x) (outs := fun x => []) (by kernel_rfl) (by kernel_rfl) rfl h

noncomputable def f14.l1 (p3 : List Named) (p4 : Int) (y7 : List Edge) (v40 : Int) (v46 : Bool) (v47 : Int) : Pg (Nx (Bool × Int) (Ex Bool Empty Empty)) :=
brr (decide (v47 < (L y7 : Int))) (
brr v46 (
cont (true, (IntKind.i64.wrap (v47 + 1)))) (
getR y7 v47 fun a48 =>
cl (f30.ok a48 p4) fun y49 =>
getR p3 v40 fun a50 =>
cont ((y49 == a50.ID), (IntKind.i64.wrap (v47 + 1))))) (
doneA v46)

noncomputable def f14.l2 (p3 : List Named) (p4 : Int) (l6 : List Int) (y7 : List Edge) (x9 : Int × Int) (v40 : Int) (l41 : List Named) : Pg (Nx (Int × (List Named)) (Ex (List Named) Empty Empty)) :=
brr (decide (v40 < (L p3 : Int))) (
getR p3 v40 fun a42 =>
loop1 ((a42.ID == p4), (0 : Int)) (fun s51 => f14.l1 p3 p4 y7 v40 s51.1 s51.2) (fun s51 => ([(1, V p3), (2, V p4), (6, R 101), (8, R 103), (9, V v40), (10, V s51.1), (11, V s51.2)], [(101, .varp [.int .i64 0, .int .i64 0, .nilsl, .nilsl, .nilsl]), (103, .var [V x9.1, V x9.2, H Int 105, V y7, H Named 107]), (105, O l6), (107, O l41)])) (.cut (.ext 2) fun x52 => ([(1, V p3), (2, V p4), (6, R 101), (8, R 103), (9, V v40), (10, V x52)], [(101, .varp [.int .i64 0, .int .i64 0, .nilsl, .nilsl, .nilsl]), (103, .var [V x9.1, V x9.2, H Int 105, V y7, H Named 107]), (105, O l6), (107, O l41)])) fun x52 =>
brr x52 (
getR p3 v40 fun a53 =>
getR p3 v40 fun a54 =>
ap ([] : List Int) a54.Label fun l55 =>
ap l41 ([(Named.mk a53.ID l55)] : List Named) fun l56 =>
cont ((IntKind.i64.wrap (v40 + 1)), l56)) (
cont ((IntKind.i64.wrap (v40 + 1)), l41))) (
doneA l41)

noncomputable def f14 (p1 : List Vertex) (p2 : List Edge) (p3 : List Named) (p4 : Int) : Pg View :=
cl (f28.ok p1 p2 p4) fun y5 =>
ap ([] : List Int) [] fun l6 =>
cl (f29.ok p1 p2 p4) fun y7 =>
join1 (.cond 24) (
brr (decide (y5 ≥ 0)) (
getR p1 y5 fun a8 =>
retA' (a8.ID, a8.Side)) (
retA' ((0 : Int), (0 : Int)))) (.cut .nat fun x9 => ([(1, V p3), (2, V p4), (6, R 101), (8, R 103)], [(101, .varp [.int .i64 0, .int .i64 0, .nilsl, .nilsl, .nilsl]), (103, .var [V x9.1, V x9.2, H Int 105, V y7, .pv .nilsl]), (105, O l6)])) fun x9 =>
loop1 ((0 : Int), ([] : List Named)) (fun s57 => f14.l2 p3 p4 l6 y7 x9 s57.1 s57.2) (fun s57 => ([(1, V p3), (2, V p4), (6, R 101), (8, R 103), (9, V s57.1)], [(101, .varp [.int .i64 0, .int .i64 0, .nilsl, .nilsl, .nilsl]), (103, .var [V x9.1, V x9.2, H Int 105, V y7, H Named 501]), (105, O l6), (501, O s57.2)])) (.cut (.ext 0) fun x58 => ([(6, R 101), (8, R 103)], [(101, .varp [.int .i64 0, .int .i64 0, .nilsl, .nilsl, .nilsl]), (103, .var [V x9.1, V x9.2, H Int 105, V y7, H Named 107]), (105, O l6), (107, O x58)])) fun x58 =>
.ret ((View.mk (Vertex.mk x9.1 x9.2) l6 y7 x58))

theorem f14.ok (p1 : List Vertex) (p2 : List Edge) (p3 : List Named) (p4 : Int) {x} (h : (f14 p1 p2 p3 p4).run = some x) : Spec Try.prog 14 [.aggp [.sl (p1.map Cel.enc), .sl (p2.map Cel.enc), .nilsl], V p3, V p4] [] (V x) [] :=
  Prg.ok Try.func14 (res := fun x => V x) (outs := fun x => []) (by kernel_rfl) (by kernel_rfl) rfl h

noncomputable def f24 (p1 p2 : Int) : Pg Int :=
brr (decide (p1 < 0)) (
nzD p2 <|
.ret (((IntKind.i64.wrap (0 - (IntKind.i64.wrap (p1 + 1)))).tmod p2))) (
nzD p2 <|
.ret ((p1.tmod p2)))

theorem f24.ok (p1 p2 : Int) {x} (h : (f24 p1 p2).run = some x) : Spec Try.prog 24 [V p1, V p2] [] (V x) [] :=
  Prg.ok Try.func24 (res := fun x => V x) (outs := fun x => []) (by kernel_rfl) (by kernel_rfl) rfl h

noncomputable def f8.l1 [Fm] (p1 : List Named) (p2 : List A3_Int) (i : Int) (M : List (List Int)) (o : List NamedR) : Pg (Nx (Int × List (List Int) × List NamedR) (Ex (List (List Int) × List NamedR) Empty Empty)) :=
brr (decide (i < (L p1 : Int))) (
getR p1 i fun a1 =>
getR p1 i fun a2 =>
apM M ([] : List Int) a2.Label fun l3 =>
ap o ([NamedR.mk a1.ID ⟨LM M, 0, L l3⟩] : List NamedR) fun l4 =>
cont ((IntKind.i64.wrap (i + 1)), M ++ [l3], l4)) (
doneA (M, o))

noncomputable def f8.l2 [Fm] (p2 : List A3_Int) (v : Int) (M : List (List Int)) (o : List NamedR) : Pg (Nx (Int × List (List Int) × List NamedR) (Ex (List (List Int) × List NamedR) Empty Empty)) :=
brr ((decide (v < (L p2 : Int))) && (decide (v < 4))) (
brr (decide ((L o : Int) > 0)) (
getR p2 v fun a32 =>
cl (f24.ok a32.x0 (L o : Int)) fun k =>
getR p2 v fun a34 =>
ck k (L o) <|
rd o (at0 k) fun a35 =>
cl (f24.ok a34.x1 (IntKind.i64.wrap ((a35.Label.len : Int) + 1))) fun n =>
ck k (L o) <|
rd o (at0 k) fun a37 =>
brr (n == (a37.Label.len : Int)) (
getR p2 v fun a38 =>
cl (f24.ok a38.x2 (L o : Int)) fun m =>
getR p2 v fun a40 =>
cl (f24.ok a40.x2 (5 : Int)) fun y41 =>
brr ((y41 == 0) && (decide (n > 0))) (
ck k (L o) <|
rd o (at0 k) fun a5 =>
bHi (IntKind.i64.wrap (n - 1)) a5.Label.len <|
ck k (L o) <|
st o (at0 k) (fun a => NamedR.mk a.ID ⟨a5.Label.i, a5.Label.off + 0, (IntKind.i64.wrap (n - 1)).toNat - 0⟩) fun o2 =>
cont (IntKind.i64.wrap (v + 1), M, o2)) (
ck m (L o) <|
rd o (at0 m) fun b =>
ck k (L o) <|
rd o (at0 k) fun a =>
ck k (L o) <|
st o (at0 k) (fun x => NamedR.mk x.ID b.Label) fun o2 =>
ck m (L o2) <|
st o2 (at0 m) (fun x => NamedR.mk x.ID a.Label) fun o3 =>
cont (IntKind.i64.wrap (v + 1), M, o3))) (
getR p2 v fun a42 =>
cl (f24.ok a42.x2 (3 : Int)) fun y43 =>
brr (y43 == 0) (
ck k (L o) <|
rd o (at0 k) fun a =>
getR p2 v fun a44 =>
cl (f24.ok a44.x2 (12 : Int)) fun y45 =>
ck n a.Label.len <|
stM M a.Label.i (a.Label.off + n.toNat) (IntKind.i64.wrap (y45 - 2)) fun M2 =>
cont (IntKind.i64.wrap (v + 1), M2, o)) (
ck k (L o) <|
rd o (at0 k) fun a =>
ck k (L o) <|
rd o (at0 k) fun b =>
ck n b.Label.len <|
rdM M b.Label.i (b.Label.off + n.toNat) fun a46 =>
getR p2 v fun a47 =>
cl (f24.ok a47.x2 (5 : Int)) fun y48 =>
ck n a.Label.len <|
stM M a.Label.i (a.Label.off + n.toNat) (IntKind.i64.wrap ((IntKind.i64.wrap (a46 + y48)) - 2)) fun M2 =>
cont (IntKind.i64.wrap (v + 1), M2, o)))) (
doneA (M, o))) (
doneA (M, o))

noncomputable def f8.fm [Fm] (p1 : List Named) (p2 : List A3_Int) : Pg (List Named) :=
loop1 ((0 : Int), ([] : List (List Int)), ([] : List NamedR)) (fun s => f8.l1 p1 p2 s.1 s.2.1 s.2.2) (fun s => ([(0, V p1), (1, V p2), (5, H NamedR 101), (6, V s.1)], [(3, FM s.2.1), (101, O s.2.2)])) (.cut (.ext 0) fun x => ([(1, V p2), (5, H NamedR 101)], [(3, FM x.1), (101, O x.2)])) fun x =>
loop1 ((0 : Int), x.1, x.2) (fun s => f8.l2 p2 s.1 s.2.1 s.2.2) (fun s => ([(1, V p2), (5, H NamedR 101), (7, V s.1)], [(3, FM s.2.1), (101, O s.2.2)])) (.cut (.ext 2) fun x => ([(5, H NamedR 101)], [(3, FM x.1), (101, O x.2)])) fun x =>
tellN 101 x.1 x.2 fun y =>
.ret y

theorem f8.l1.same (f g : Fm) (p1 p2) (i : Int) (M : List (List Int)) (o : List NamedR) : (@f8.l1 f p1 p2 i M o).run = (@f8.l1 g p1 p2 i M o).run := by
  simp only [f8.l1, r_brr, r_getR, r_apM, r_ap, r_ret, L_eq]
theorem f8.l2.same (f g : Fm) (p2) (i : Int) (M : List (List Int)) (o : List NamedR) : (@f8.l2 f p2 i M o).run = (@f8.l2 g p2 i M o).run := by
  simp only [f8.l2, r_brr, r_getR, r_rd, r_ck, r_cl, r_ret, L_eq, r_st, r_bHi, r_rdM, r_stM]
theorem f8.same (f g : Fm) (p1 p2) : (@f8.fm f p1 p2).run = (@f8.fm g p1 p2).run := by
  simp only [f8.fm, r_loop1, f8.l1.same f g, f8.l2.same f g, r_ret, r_tellN]
noncomputable abbrev f8 (p1 : List Named) (p2 : List A3_Int) : Pg (List Named) := @f8.fm ⟨0⟩ p1 p2
theorem f8.ok (p1 : List Named) (p2 : List A3_Int) {x} (h : (f8 p1 p2).run = some x) : Spec Try.prog 8 [V p1, V p2] [] (V x) [] :=
  Prg.okF (p := fun f => @f8.fm ⟨f⟩ p1 p2) Try.func8 1 (res := fun x => V x) (outs := fun x => []) (by kernel_rfl) (by kernel_rfl) rfl (fun f => (f8.same ⟨f⟩ ⟨0⟩ p1 p2).trans h)

noncomputable def f15.l1 (p1 : List Vertex) (p2 : List Edge) (p5 : List Int) (v9 v10 : Int) : Pg (Nx (Int × Int) (Ex (Bool) Int Empty)) :=
brr (decide (v10 < (L p5 : Int))) (
getR p5 v10 fun a11 =>
cl (f26.ok p1 p2 v9 a11) fun y12 =>
brr (decide (y12 < 0)) (
doneA (false)) (
cont (y12, (IntKind.i64.wrap (v10 + 1))))) (
doneB v9)

noncomputable def f15 (p1 : List Vertex) (p2 : List Edge) (p3 p4 : Int) (p5 : List Int) : Pg Bool :=
cl (f25.ok p1 p2 ([p3, p4] : List Int)) fun y6 =>
brr ((!y6) || (decide ((L p5 : Int) > 40))) (
.ret (false)) (
loop2 (p3, (0 : Int)) (fun s13 => f15.l1 p1 p2 p5 s13.1 s13.2) (fun s13 => ([(1, V s13.1), (2, V p4), (4, R 101), (22, V p5), (23, V (L p5 : Int)), (24, V s13.2)], [(101, .varp [.sl (p1.map Cel.enc), .sl (p2.map Cel.enc), .nilsl])])) .inl (fun r14 =>
.ret r14) (.cut (.ext 0) fun x15 => ([(1, V x15), (2, V p4)], [])) fun x15 =>
.ret ((x15 == p4)))

theorem f15.ok (p1 : List Vertex) (p2 : List Edge) (p3 p4 : Int) (p5 : List Int) {x} (h : (f15 p1 p2 p3 p4 p5).run = some x) : Spec Try.prog 15 [.aggp [.sl (p1.map Cel.enc), .sl (p2.map Cel.enc), .nilsl], V p3, V p4, V p5] [] (V x) [] :=
  Prg.ok Try.func15 (res := fun x => V x) (outs := fun x => []) (by kernel_rfl) (by kernel_rfl) rfl h

noncomputable def f56.l1 (p1 : List Int) (p2 : Int) (v4 : Int) : Pg (Nx Int (Ex (Int) Unit Empty)) :=
brr (decide (v4 < (L p1 : Int))) (
getR p1 v4 fun a5 =>
brr (p2 == a5) (
doneA (v4)) (
cont (IntKind.i64.wrap (v4 + 1)))) (
doneB ())

noncomputable def f56 (p1 : List Int) (p2 : Int) : Pg Int :=
loop2 (0 : Int) (fun s6 => f56.l1 p1 p2 s6) (fun s6 => ([(0, V p1), (1, V p2), (7, V (L p1 : Int)), (8, V s6)], [])) .inl (fun r7 =>
.ret r7) (.cut (.ext 0) fun _ => ([], [])) fun _ =>
.ret (((-1) : Int))

theorem f56.ok (p1 : List Int) (p2 : Int) {x} (h : (f56 p1 p2).run = some x) : Spec Try.prog 56 [V p1, V p2] [] (V x) [] :=
  Prg.ok Try.func56 (res := fun x => V x) (outs := fun x => []) (by kernel_rfl) (by kernel_rfl) rfl h

noncomputable def f31 (p1 : List Int) (p2 : Int) : Pg Bool :=
cl (f56.ok p1 p2) fun y3 =>
.ret ((decide (y3 ≥ 0)))

theorem f31.ok (p1 : List Int) (p2 : Int) {x} (h : (f31 p1 p2).run = some x) : Spec Try.prog 31 [V p1, V p2] [] (V x) [] :=
  Prg.ok Try.func31 (res := fun x => V x) (outs := fun x => []) (by kernel_rfl) (by kernel_rfl) rfl h

noncomputable def f56v1.l1 (p1 : List Int) (p2 : Int) (v4 : Int) : Pg (Nx Int (Ex (Int) Unit Empty)) :=
brr (decide (v4 < (L p1 : Int))) (
getR p1 v4 fun a5 =>
brr (p2 == a5) (
doneA (v4)) (
cont (IntKind.i64.wrap (v4 + 1)))) (
doneB ())

noncomputable def f56v1 (p1 : List Int) (p2 : Int) : Pg Int :=
loop2 (0 : Int) (fun s6 => f56v1.l1 p1 p2 s6) (fun s6 => ([(0, V p1), (1, V p2), (7, V (L p1 : Int)), (8, V s6)], [])) .inl (fun r7 =>
.ret r7) (.cut (.ext 0) fun _ => ([], [])) fun _ =>
.ret (((-1) : Int))

theorem f56v1.ok (p1 : List Int) (p2 : Int) {x} (h : (f56v1 p1 p2).run = some x) : Spec Try.prog 56 [V p1, V p2] [] (V x) [] :=
  Prg.ok Try.func56 (res := fun x => V x) (outs := fun x => []) (by kernel_rfl) (by kernel_rfl) rfl h

noncomputable def f31v1 (p1 : List Int) (p2 : Int) : Pg Bool :=
cl (f56v1.ok p1 p2) fun y3 =>
.ret ((decide (y3 ≥ 0)))

theorem f31v1.ok (p1 : List Int) (p2 : Int) {x} (h : (f31v1 p1 p2).run = some x) : Spec Try.prog 31 [V p1, V p2] [] (V x) [] :=
  Prg.ok Try.func31 (res := fun x => V x) (outs := fun x => []) (by kernel_rfl) (by kernel_rfl) rfl h

noncomputable def f32 (p1 : Edge) (p2 : List Int) : Pg Bool :=
cl (f31v1.ok p2 p1.From) fun y3 =>
cl (f31v1.ok p2 p1.To) fun y4 =>
.ret ((!(y3 == y4)))

theorem f32.ok (p1 : Edge) (p2 : List Int) {x} (h : (f32 p1 p2).run = some x) : Spec Try.prog 32 [V p1, R 0] [B p2] (V x) [B p2] :=
  Prg.ok Try.func32 (res := fun x => V x) (outs := fun x => [B p2]) (by kernel_rfl) (by kernel_rfl) rfl h

noncomputable def f57v2.l1 (p1 : List Edge) (p2 : List Int) (v5 : Int) : Pg (Nx Int (Ex (Int) Unit Empty)) :=
brr (decide (v5 < (L p1 : Int))) (
getR p1 v5 fun a6 =>
cl (f32.ok a6 p2) fun y7 =>
brr y7 (
doneA (v5)) (
cont (IntKind.i64.wrap (v5 + 1)))) (
doneB ())

noncomputable def f57v2 (p1 : List Edge) (p2 : List Int) : Pg Int :=
loop2 (0 : Int) (fun s8 => f57v2.l1 p1 p2 s8) (fun s8 => ([(0, V p1), (1, .clo 32 [R 0]), (7, V (L p1 : Int)), (8, V s8)], [(0, B p2)])) .inl (fun r9 =>
.ret r9) (.cut (.ext 0) fun _ => ([], [(0, B p2)])) fun _ =>
.ret (((-1) : Int))

theorem f57v2.ok (p1 : List Edge) (p2 : List Int) {x} (h : (f57v2 p1 p2).run = some x) : Spec Try.prog 57 [V p1, .clo 32 [R 0]] [B p2] (V x) [B p2] :=
  Prg.ok Try.func57 (res := fun x => V x) (outs := fun x => [B p2]) (by kernel_rfl) (by kernel_rfl) rfl h

noncomputable def f33v2 (p1 : List Edge) (p2 : List Int) : Pg Bool :=
cl (f57v2.ok p1 p2) fun y3 =>
.ret ((decide (y3 ≥ 0)))

theorem f33v2.ok (p1 : List Edge) (p2 : List Int) {x} (h : (f33v2 p1 p2).run = some x) : Spec Try.prog 33 [V p1, .clo 32 [R 0]] [B p2] (V x) [B p2] :=
  Prg.ok Try.func33 (res := fun x => V x) (outs := fun x => [B p2]) (by kernel_rfl) (by kernel_rfl) rfl h

noncomputable def f16.l1 (p5 : List Int) (v15 : Int) : Pg (Nx Int (Ex (Bool) Unit Empty)) :=
brr (decide (v15 < (L p5 : Int))) (
getR p5 v15 fun a16 =>
brr (decide (v15 > 0)) (
getR p5 (IntKind.i64.wrap (v15 - 1)) fun a17 =>
brr (decide (a17 ≥ a16)) (
doneA (false)) (
cont (IntKind.i64.wrap (v15 + 1)))) (
cont (IntKind.i64.wrap (v15 + 1)))) (
doneB ())

noncomputable def f16 (p1 : List Vertex) (p2 : List Edge) (p3 p4 : Int) (p5 : List Int) : Pg Bool :=
join1 (.reg 1) (
ap ([p3, p4] : List Int) p5 fun l8 =>
cl (f25.ok p1 p2 l8) fun y9 =>
brr (!y9) (
retA' true) (
cl (f31.ok p5 p3) fun y10 =>
brr (!y10) (
retA' true) (
cl (f31.ok p5 p4) fun y11 =>
retA' y11))) (.cut .nat fun x12 => ([(4, R 101), (7, R 103), (30, V x12)], [(101, .varp [.sl (p1.map Cel.enc), .sl (p2.map Cel.enc), .nilsl]), (103, B p5)])) fun x12 =>
brr x12 (
.ret (false)) (
loop2 (0 : Int) (fun s18 => f16.l1 p5 s18) (fun s18 => ([(4, R 101), (7, R 103), (31, V p5), (32, V (L p5 : Int)), (33, V s18)], [(101, .varp [.sl (p1.map Cel.enc), .sl (p2.map Cel.enc), .nilsl]), (103, B p5)])) .inl (fun r19 =>
.ret r19) (.cut (.ext 0) fun _ => ([(4, R 101), (7, R 103)], [(101, .varp [.sl (p1.map Cel.enc), .sl (p2.map Cel.enc), .nilsl]), (103, B p5)])) fun _ =>
cl (f33v2.ok p2 p5) fun y21 =>
.ret ((!y21)))

theorem f16.ok (p1 : List Vertex) (p2 : List Edge) (p3 p4 : Int) (p5 : List Int) {x} (h : (f16 p1 p2 p3 p4 p5).run = some x) : Spec Try.prog 16 [.aggp [.sl (p1.map Cel.enc), .sl (p2.map Cel.enc), .nilsl], V p3, V p4, V p5] [] (V x) [] :=
  Prg.ok Try.func16 (res := fun x => V x) (outs := fun x => []) (by kernel_rfl) (by kernel_rfl) rfl h

noncomputable def f17.l1 (p1 p2 : List Int) (v5 : Int) : Pg (Nx Int (Ex (Bool) Unit Empty)) :=
brr (decide (v5 < (L p1 : Int))) (
getR p1 v5 fun a6 =>
getR p2 v5 fun a7 =>
brr (a6 != a7) (
doneA (false)) (
cont (IntKind.i64.wrap (v5 + 1)))) (
doneB ())

noncomputable def f17 (p1 p2 : List Int) : Pg Bool :=
brr ((L p1 : Int) != (L p2 : Int)) (
.ret (false)) (
loop2 (0 : Int) (fun s8 => f17.l1 p1 p2 s8) (fun s8 => ([(0, V p1), (1, V p2), (5, V s8)], [])) .inl (fun r9 =>
.ret r9) (.cut (.ext 0) fun _ => ([], [])) fun _ =>
.ret (true))

theorem f17.ok (p1 p2 : List Int) {x} (h : (f17 p1 p2).run = some x) : Spec Try.prog 17 [V p1, V p2] [] (V x) [] :=
  Prg.ok Try.func17 (res := fun x => V x) (outs := fun x => []) (by kernel_rfl) (by kernel_rfl) rfl h

noncomputable def f9.l1 (p1 p2 : List Named) (v8 : Int) : Pg (Nx Int (Ex (Bool) Unit Empty)) :=
brr (decide (v8 < (L p1 : Int))) (
getR p1 v8 fun a9 =>
getR p2 v8 fun a10 =>
brr (a9.ID != a10.ID) (
doneA (false)) (
getR p1 v8 fun a11 =>
getR p2 v8 fun a12 =>
cl (f17.ok a11.Label a12.Label) fun y13 =>
brr (!y13) (
doneA (false)) (
cont (IntKind.i64.wrap (v8 + 1))))) (
doneB ())

noncomputable def f9 (p1 p2 : List Named) : Pg Bool :=
brr ((L p1 : Int) != (L p2 : Int)) (
.ret (false)) (
loop2 (0 : Int) (fun s14 => f9.l1 p1 p2 s14) (fun s14 => ([(0, V p1), (1, V p2), (5, V s14)], [])) .inl (fun r15 =>
.ret r15) (.cut (.ext 0) fun _ => ([], [])) fun _ =>
.ret (true))

theorem f9.ok (p1 p2 : List Named) {x} (h : (f9 p1 p2).run = some x) : Spec Try.prog 9 [V p1, V p2] [] (V x) [] :=
  Prg.ok Try.func9 (res := fun x => V x) (outs := fun x => []) (by kernel_rfl) (by kernel_rfl) rfl h

noncomputable def f34.l1 (p1 : View) (v7 : Int) (l8 : List (Int × (Option (List Int)))) : Pg (Nx (Int × (List (Int × (Option (List Int))))) (Ex (List (Int × (Option (List Int)))) Empty Empty)) :=
brr (decide (v7 < (L p1.Labels : Int))) (
getR p1.Labels v7 fun a9 =>
lookK l8 a9.ID fun a10 b11 =>
brr b11 (
cont ((IntKind.i64.wrap (v7 + 1)), l8)) (
msetO l8 a9.ID none fun m12 =>
brr ((L a9.Label : Int) == 3) (
msetO m12 a9.ID (some a9.Label) fun m13 =>
cont ((IntKind.i64.wrap (v7 + 1)), m13)) (
cont ((IntKind.i64.wrap (v7 + 1)), m12)))) (
doneA l8)

noncomputable def f34 (p1 : View) : Pg (List (Int × (Option (List Int)))) :=
loop1 ((0 : Int), ([] : List (Int × (Option (List Int))))) (fun s14 => f34.l1 p1 s14.1 s14.2) (fun s14 => ([(3, .mp 101), (10, V p1.Labels), (11, V (L p1.Labels : Int)), (12, V s14.1)], [(101, MO false s14.2)])) (.cut (.ext 0) fun x15 => ([(3, .mp 101)], [(101, MO false x15)])) fun x15 =>
.ret (x15)

theorem f34.ok (p1 : View) {x} (h : (f34 p1).run = some x) : Spec Try.prog 34 [V p1] [] (.mp 0) [MO false x] :=
  Prg.ok Try.func34 (res := fun x => .mp 0) (outs := fun x => [MO false x]) (by kernel_rfl) (by kernel_rfl) rfl h

noncomputable def f58 (p1 : Int) : Pg Unit :=
.ret (())

theorem f58.ok (p1 : Int) {x} (h : (f58 p1).run = some x) : Spec Try.prog 58 [V p1] [] (V ((decide (p1 ≥ 0)) && (decide (p1 < 24)))) [] :=
  Prg.ok Try.func58 (res := fun x => V ((decide (p1 ≥ 0)) && (decide (p1 < 24)))) (outs := fun x => []) (by kernel_rfl) (by kernel_rfl) rfl h

noncomputable def f59 (p1 : Edge) (p2 : Int) (p3 : View) : Pg Bool :=
join1 (.reg 1) (
brr (decide (p1.ID > p2)) (
brr (decide (p1.ID < 40)) (
brr (decide (p1.Weight ≥ (-1000))) (
retA' (decide (p1.Weight ≤ 1000))) (
retA' false)) (
retA' false)) (
retA' false)) (.cut .nat fun x4 => ([(1, R 0), (2, R 2), (3, R 4), (4, R 101), (6, V x4)], [(0, B p2), (2, mkVar (.clo 58 [])), (4, B p3), (101, B p1)])) fun x4 =>
brr (!x4) (
.ret (true)) (
cl (f58.ok p1.From) fun _ =>
brr (!((decide (p1.From ≥ 0)) && (decide (p1.From < 24)))) (
.ret (true)) (
cl (f58.ok p1.To) fun _ =>
brr (!((decide (p1.To ≥ 0)) && (decide (p1.To < 24)))) (
.ret (true)) (
brr (p1.From != p3.Vertex.ID) (
.ret ((p1.To != p3.Vertex.ID))) (
.ret (false)))))

theorem f59.ok (p1 : Edge) (p2 : Int) (p3 : View) {x} (h : (f59 p1 p2 p3).run = some x) : Spec Try.prog 59 [V p1, R 0, R 2, R 4] [B p2, mkVar (.clo 58 []), B p3] (V x) [B p1.ID, mkVar (.clo 58 []), B p3] :=
  Prg.ok Try.func59 (res := fun x => V x) (outs := fun x => [B p1.ID, mkVar (.clo 58 []), B p3]) (by kernel_rfl) (by kernel_rfl) rfl h

noncomputable def f57v3.l1 (p1 : List Edge) (p3 : View) (v6 l7 : Int) : Pg (Nx (Int × Int) (Ex (Int × Int) Int Empty)) :=
brr (decide (v6 < (L p1 : Int))) (
getR p1 v6 fun a8 =>
cl (f59.ok a8 l7 p3) fun y9 =>
brr y9 (
doneA ((v6, a8.ID))) (
cont ((IntKind.i64.wrap (v6 + 1)), a8.ID))) (
doneB l7)

noncomputable def f57v3 (p1 : List Edge) (p2 : Int) (p3 : View) : Pg (Int × Int) :=
loop2 ((0 : Int), p2) (fun s10 => f57v3.l1 p1 p3 s10.1 s10.2) (fun s10 => ([(0, V p1), (1, .clo 59 [R 0, R 2, R 4]), (7, V (L p1 : Int)), (8, V s10.1)], [(0, B s10.2), (2, mkVar (.clo 58 [])), (4, B p3)])) .inl (fun r11 =>
.ret r11) (.cut (.ext 0) fun x12 => ([], [(0, B x12), (2, mkVar (.clo 58 [])), (4, B p3)])) fun x12 =>
.ret ((((-1) : Int), x12))

theorem f57v3.ok (p1 : List Edge) (p2 : Int) (p3 : View) {x} (h : (f57v3 p1 p2 p3).run = some x) : Spec Try.prog 57 [V p1, .clo 59 [R 0, R 2, R 4]] [B p2, mkVar (.clo 58 []), B p3] (V x.1) [B x.2, mkVar (.clo 58 []), B p3] :=
  Prg.ok Try.func57 (res := fun x => V x.1) (outs := fun x => [B x.2, mkVar (.clo 58 []), B p3]) (by kernel_rfl) (by kernel_rfl) rfl h

noncomputable def f33v3 (p1 : List Edge) (p2 : Int) (p3 : View) : Pg (Bool × Int) :=
cl (f57v3.ok p1 p2 p3) fun y4 =>
.ret (((decide (y4.1 ≥ 0)), y4.2))

theorem f33v3.ok (p1 : List Edge) (p2 : Int) (p3 : View) {x} (h : (f33v3 p1 p2 p3).run = some x) : Spec Try.prog 33 [V p1, .clo 59 [R 0, R 2, R 4]] [B p2, mkVar (.clo 58 []), B p3] (V x.1) [B x.2, mkVar (.clo 58 []), B p3] :=
  Prg.ok Try.func33 (res := fun x => V x.1) (outs := fun x => [B x.2, mkVar (.clo 58 []), B p3]) (by kernel_rfl) (by kernel_rfl) rfl h

noncomputable def f35 (p1 : View) : Pg Bool :=
cl (f58.ok p1.Vertex.ID) fun _ =>
brr ((decide (p1.Vertex.ID ≥ 0)) && (decide (p1.Vertex.ID < 24))) (
cl (f33v3.ok p1.Edges ((-1) : Int) p1) fun y3 =>
.ret ((!y3.1))) (
.ret (false))

theorem f35.ok (p1 : View) {x} (h : (f35 p1).run = some x) : Spec Try.prog 35 [V p1] [] (V x) [] :=
  Prg.ok Try.func35 (res := fun x => V x) (outs := fun x => []) (by kernel_rfl) (by kernel_rfl) rfl h

noncomputable def f18.l1 (p1 : View) (y2 : List (Int × (Option (List Int)))) (a3 : List Int) (v23 v24 : Int) : Pg (Nx (Int × Int) (Ex (Bool) Int Empty)) :=
brr (decide (v24 < (L p1.Edges : Int))) (
getR p1.Edges v24 fun a25 =>
cl (f36.ok a25 p1.Vertex.ID) fun y26 =>
.ask ((lookJ y2 y26).isSome) (
lookL y2 y26 fun a27 =>
join1 (.reg 10) (
neN a27 <|
brr false (
retA' true) (
getR a27 (0 : Int) fun a28 =>
getR a3 (0 : Int) fun a29 =>
brr (a28 != a29) (
retA' true) (
getR a27 (1 : Int) fun a30 =>
getR a3 (1 : Int) fun a31 =>
retA' (decide (a30 < (IntKind.i64.wrap (a31 - 1))))))) (.cut .nat fun x32 => ([(3, .mp 101), (4, V p1.Vertex.ID), (5, V a3), (6, V v23), (8, R 103), (9, V a27), (57, V p1.Edges), (58, V (L p1.Edges : Int)), (59, V v24), (88, V x32)], [(101, MO false y2), (103, B a25)])) fun x32 =>
brr x32 (
doneA (false)) (
getR a27 (1 : Int) fun a33 =>
getR a3 (1 : Int) fun a34 =>
brr ((a33 == (IntKind.i64.wrap (a34 - 1))) && (decide (v23 < 0))) (
cont (a25.ID, (IntKind.i64.wrap (v24 + 1)))) (
cont (v23, (IntKind.i64.wrap (v24 + 1)))))) (
lookNo y2 y26 <|
join1 (.reg 10) (
brr true (
retA' ()) (
.no)) (.cut .nat fun _ => ([(3, .mp 101), (4, V p1.Vertex.ID), (5, V a3), (6, V v23), (8, R 103), (9, .pv .nilsl), (57, V p1.Edges), (58, V (L p1.Edges : Int)), (59, V v24), (88, V true)], [(101, MO false y2), (103, B a25)])) fun _ =>
brr true (
doneA (false)) (
.no))) (
doneB v23)

noncomputable def f18.l2 (p1 : View) (y2 : List (Int × (Option (List Int)))) : Pg (Nx Unit (Ex (Bool) Unit Empty)) :=
brr (decide ((0 : Int) < (L p1.Edges : Int))) (
getR p1.Edges (0 : Int) fun a45 =>
cl (f36.ok a45 p1.Vertex.ID) fun y46 =>
.ask ((lookJ y2 y46).isSome) (
lookL y2 y46 fun a47 =>
join1 (.reg 10) (
neN a47 <|
brr false (
retA' ()) (
getR a47 (0 : Int) fun a48 =>
.no)) (.cut .nat fun _ => ([(3, .mp 101), (4, V p1.Vertex.ID), (5, .pv .nilsl), (6, V ((-1) : Int)), (8, R 103), (9, V a47), (57, V p1.Edges), (58, V (L p1.Edges : Int)), (59, V (0 : Int)), (88, V true)], [(101, MO false y2), (103, B a45)])) fun _ =>
brr true (
doneA (false)) (
getR a47 (1 : Int) fun a50 =>
.no)) (
lookNo y2 y46 <|
join1 (.reg 10) (
brr true (
retA' ()) (
.no)) (.cut .nat fun _ => ([(3, .mp 101), (4, V p1.Vertex.ID), (5, .pv .nilsl), (6, V ((-1) : Int)), (8, R 103), (9, .pv .nilsl), (57, V p1.Edges), (58, V (L p1.Edges : Int)), (59, V (0 : Int)), (88, V true)], [(101, MO false y2), (103, B a45)])) fun _ =>
brr true (
doneA (false)) (
.no))) (
doneB ())

noncomputable def f18 (p1 : View) : Pg Bool :=
cl (f34.ok p1) fun y2 =>
.ask ((lookJ y2 p1.Vertex.ID).isSome) (
lookL y2 p1.Vertex.ID fun a3 =>
join1 (.reg 3) (
cl (f35.ok p1) fun y5 =>
brr (!y5) (
retA' true) (
neN a3 <|
brr false (
retA' true) (
getR a3 (0 : Int) fun a6 =>
brr (decide (a6 < 0)) (
retA' true) (
getR a3 (0 : Int) fun a7 =>
brr (decide (a7 > p1.Vertex.ID)) (
retA' true) (
getR a3 (1 : Int) fun a8 =>
brr (decide (a8 < 0)) (
retA' true) (
getR a3 (1 : Int) fun a9 =>
getR a3 (0 : Int) fun a10 =>
retA' (!((a9 == 0) == (a10 == p1.Vertex.ID))))))))) (.cut .nat fun x11 => ([(1, R 101), (3, .mp 103), (4, V p1.Vertex.ID), (5, V a3), (55, V x11)], [(101, B p1), (103, MO false y2)])) fun x11 =>
brr x11 (
.ret (false)) (
loop2 (((-1) : Int), (0 : Int)) (fun s36 => f18.l1 p1 y2 a3 s36.1 s36.2) (fun s36 => ([(3, .mp 101), (4, V p1.Vertex.ID), (5, V a3), (6, V s36.1), (57, V p1.Edges), (58, V (L p1.Edges : Int)), (59, V s36.2)], [(101, MO false y2)])) .inl (fun r37 =>
.ret r37) (.cut (.ext 0) fun x38 => ([(5, V a3), (6, V x38)], [])) fun x38 =>
getR a3 (1 : Int) fun a39 =>
brr (a39 == 0) (
getR a3 (2 : Int) fun a40 =>
.ret ((a40 == (-1)))) (
brr (decide (x38 ≥ 0)) (
getR a3 (2 : Int) fun a41 =>
.ret ((a41 == x38))) (
.ret (false))))) (
lookNo y2 p1.Vertex.ID <|
join1 (.reg 3) (
cl (f35.ok p1) fun y43 =>
brr (!y43) (
retA' ()) (
brr true (
retA' ()) (
.no))) (.cut .nat fun _ => ([(1, R 101), (3, .mp 103), (4, V p1.Vertex.ID), (5, .pv .nilsl), (55, V true)], [(101, B p1), (103, MO false y2)])) fun _ =>
brr true (
.ret (false)) (
loop2 () (fun _ => f18.l2 p1 y2) (fun _ => ([(3, .mp 101), (4, V p1.Vertex.ID), (5, .pv .nilsl), (6, V ((-1) : Int)), (57, V p1.Edges), (58, V (L p1.Edges : Int)), (59, V (0 : Int))], [(101, MO false y2)])) .inl (fun r53 =>
.ret r53) (.cut (.ext 0) fun _ => ([(5, .pv .nilsl), (6, V ((-1) : Int))], [])) fun _ =>
.no))

theorem f18.ok (p1 : View) {x} (h : (f18 p1).run = some x) : Spec Try.prog 18 [V p1] [] (V x) [] :=
  Prg.ok Try.func18 (res := fun x => V x) (outs := fun x => []) (by kernel_rfl) (by kernel_rfl) rfl h

noncomputable def f19 (p1 : View) : Pg Int :=
cl (f34.ok p1) fun y2 =>
.ask ((lookJ y2 p1.Vertex.ID).isSome) (
lookL y2 p1.Vertex.ID fun a3 =>
neN a3 <|
brr true (
getR a3 (1 : Int) fun a4 =>
brr (a4 == 0) (
.ret ((1 : Int))) (
.ret ((0 : Int)))) (
.ret ((0 : Int)))) (
lookNo y2 p1.Vertex.ID <|
brr false (
.no) (
.ret ((0 : Int))))

theorem f19.ok (p1 : View) {x} (h : (f19 p1).run = some x) : Spec Try.prog 19 [V p1] [] (V x) [] :=
  Prg.ok Try.func19 (res := fun x => V x) (outs := fun x => []) (by kernel_rfl) (by kernel_rfl) rfl h

noncomputable def f4 : Pg Bool :=
cl (f10.ok) fun _ =>
cl (f6.ok ([(Vertex.mk 0 0), (Vertex.mk 1 0), (Vertex.mk 2 0), (Vertex.mk 3 0), (Vertex.mk 5 0)] : List Vertex) ([(Edge.mk 0 2 1 false 0 0), (Edge.mk 4 1 3 false 0 0), (Edge.mk 6 3 2 false 0 0), (Edge.mk 7 5 5 false 0 0)] : List Edge)) fun y2 =>
cl (f11.ok ([(Vertex.mk 0 0), (Vertex.mk 1 0), (Vertex.mk 2 0), (Vertex.mk 3 0), (Vertex.mk 5 0)] : List Vertex) ([(Edge.mk 0 2 1 false 0 0), (Edge.mk 4 1 3 false 0 0), (Edge.mk 6 3 2 false 0 0), (Edge.mk 7 5 5 false 0 0)] : List Edge) (2 : Int) (3 : Int)) fun y3 =>
cl (f11.ok ([(Vertex.mk 0 0), (Vertex.mk 1 0), (Vertex.mk 2 0), (Vertex.mk 3 0), (Vertex.mk 5 0)] : List Vertex) ([(Edge.mk 0 2 1 false 0 0), (Edge.mk 4 1 3 false 0 0), (Edge.mk 6 3 2 false 0 0), (Edge.mk 7 5 5 false 0 0)] : List Edge) (0 : Int) (5 : Int)) fun y4 =>
cl (f12.ok ([(Vertex.mk 0 0), (Vertex.mk 1 0), (Vertex.mk 2 0), (Vertex.mk 3 0), (Vertex.mk 5 0)] : List Vertex) ([(Edge.mk 0 2 1 false 0 0), (Edge.mk 4 1 3 false 0 0), (Edge.mk 6 3 2 false 0 0), (Edge.mk 7 5 5 false 0 0)] : List Edge) (2 : Int) (3 : Int)) fun y5 =>
cl (f12.ok ([(Vertex.mk 0 0), (Vertex.mk 1 0), (Vertex.mk 2 0), (Vertex.mk 3 0), (Vertex.mk 5 0)] : List Vertex) ([(Edge.mk 0 2 1 false 0 0), (Edge.mk 4 1 3 false 0 0), (Edge.mk 6 3 2 false 0 0), (Edge.mk 7 5 5 false 0 0)] : List Edge) (3 : Int) (3 : Int)) fun y6 =>
cl (f13.ok ([(Vertex.mk 0 0), (Vertex.mk 1 0), (Vertex.mk 2 0), (Vertex.mk 3 0), (Vertex.mk 5 0)] : List Vertex) ([(Edge.mk 0 2 1 false 0 0), (Edge.mk 4 1 3 false 0 0), (Edge.mk 6 3 2 false 0 0), (Edge.mk 7 5 5 false 0 0)] : List Edge) (3 : Int)) fun y7 =>
cl (f12.ok ([(Vertex.mk 0 0), (Vertex.mk 1 0), (Vertex.mk 2 0), (Vertex.mk 3 0), (Vertex.mk 5 0)] : List Vertex) ([(Edge.mk 0 2 1 false 0 0), (Edge.mk 4 1 3 false 0 0), (Edge.mk 6 3 2 false 0 0), (Edge.mk 7 5 5 false 0 0)] : List Edge) (0 : Int) (5 : Int)) fun y8 =>
cl (f6v1.ok ([1] : List Int)) fun y9 =>
brr (((((((((((y2.2 != 0) || (y3.2 != 0)) || (y4.2 != 0)) || (y5.2 != 0)) || (y6.2 != 0)) || (y7.2 != 0)) || (y8.2 != 70)) || (y9 != 70)) || (!y3.1)) || y4.1) || (decide ((L y6.1 : Int) > 0))) (
.ret (false)) (
cl (f14.ok ([(Vertex.mk 0 0), (Vertex.mk 1 0), (Vertex.mk 2 0), (Vertex.mk 3 0), (Vertex.mk 5 0)] : List Vertex) ([(Edge.mk 0 2 1 false 0 0), (Edge.mk 4 1 3 false 0 0), (Edge.mk 6 3 2 false 0 0), (Edge.mk 7 5 5 false 0 0)] : List Edge) ([(Named.mk 0 ([0, 0, (-1)] : List Int)), (Named.mk 1 ([1, 0, (-1)] : List Int)), (Named.mk 2 ([1, 1, 0] : List Int)), (Named.mk 3 ([1, 1, 4] : List Int)), (Named.mk 5 ([5, 0, (-1)] : List Int))] : List Named) (3 : Int)) fun y10 =>
cl (f8.ok ([(Named.mk 0 ([0, 0, (-1)] : List Int)), (Named.mk 1 ([1, 0, (-1)] : List Int)), (Named.mk 2 ([1, 1, 0] : List Int)), (Named.mk 3 ([1, 1, 4] : List Int)), (Named.mk 5 ([5, 0, (-1)] : List Int))] : List Named) ([(A3_Int.mk 3 1 1)] : List A3_Int)) fun y11 =>
cl (f14.ok ([(Vertex.mk 0 0), (Vertex.mk 1 0), (Vertex.mk 2 0), (Vertex.mk 3 0), (Vertex.mk 5 0)] : List Vertex) ([(Edge.mk 0 2 1 false 0 0), (Edge.mk 4 1 3 false 0 0), (Edge.mk 6 3 2 false 0 0), (Edge.mk 7 5 5 false 0 0)] : List Edge) y11 (3 : Int)) fun y12 =>
join1 (.reg 15) (
cl (f15.ok ([(Vertex.mk 0 0), (Vertex.mk 1 0), (Vertex.mk 2 0), (Vertex.mk 3 0), (Vertex.mk 5 0)] : List Vertex) ([(Edge.mk 0 2 1 false 0 0), (Edge.mk 4 1 3 false 0 0), (Edge.mk 6 3 2 false 0 0), (Edge.mk 7 5 5 false 0 0)] : List Edge) (2 : Int) (3 : Int) ([6] : List Int)) fun y14 =>
brr y14 (
cl (f15.ok ([(Vertex.mk 0 0), (Vertex.mk 1 0), (Vertex.mk 2 0), (Vertex.mk 3 0), (Vertex.mk 5 0)] : List Vertex) ([(Edge.mk 0 2 1 false 0 0), (Edge.mk 4 1 3 false 0 0), (Edge.mk 6 3 2 false 0 0), (Edge.mk 7 5 5 false 0 0)] : List Edge) (2 : Int) (3 : Int) ([0] : List Int)) fun y15 =>
brr (!y15) (
cl (f16.ok ([(Vertex.mk 0 0), (Vertex.mk 1 0), (Vertex.mk 2 0), (Vertex.mk 3 0), (Vertex.mk 5 0)] : List Vertex) ([(Edge.mk 0 2 1 false 0 0), (Edge.mk 4 1 3 false 0 0), (Edge.mk 6 3 2 false 0 0), (Edge.mk 7 5 5 false 0 0)] : List Edge) (0 : Int) (5 : Int) ([0, 1] : List Int)) fun y16 =>
brr (!y16) (
cl (f16.ok ([(Vertex.mk 0 0), (Vertex.mk 1 0), (Vertex.mk 2 0), (Vertex.mk 3 0), (Vertex.mk 5 0)] : List Vertex) ([(Edge.mk 0 2 1 false 0 0), (Edge.mk 4 1 3 false 0 0), (Edge.mk 6 3 2 false 0 0), (Edge.mk 7 5 5 false 0 0)] : List Edge) (0 : Int) (5 : Int) ([0] : List Int)) fun y17 =>
retA' y17) (
retA' false)) (
retA' false)) (
retA' false)) (.cut .nat fun x18 => ([(1, R 101), (2, V y2.1), (4, V ([(Named.mk 0 ([0, 0, (-1)] : List Int)), (Named.mk 1 ([1, 0, (-1)] : List Int)), (Named.mk 2 ([1, 1, 0] : List Int)), (Named.mk 3 ([1, 1, 4] : List Int)), (Named.mk 5 ([5, 0, (-1)] : List Int))] : List Named)), (9, V y5.1), (13, V y7.1), (19, R 103), (20, R 105), (21, V x18)], [(101, .varp [.sl (([(Vertex.mk 0 0), (Vertex.mk 1 0), (Vertex.mk 2 0), (Vertex.mk 3 0), (Vertex.mk 5 0)] : List Vertex).map Cel.enc), .sl (([(Edge.mk 0 2 1 false 0 0), (Edge.mk 4 1 3 false 0 0), (Edge.mk 6 3 2 false 0 0), (Edge.mk 7 5 5 false 0 0)] : List Edge).map Cel.enc), .nilsl]), (103, B y10), (105, B y12)])) fun x18 =>
brr x18 (
cl (f9.ok y2.1 ([(Named.mk 0 ([0, 0, (-1)] : List Int)), (Named.mk 1 ([1, 0, (-1)] : List Int)), (Named.mk 2 ([1, 1, 0] : List Int)), (Named.mk 3 ([1, 1, 4] : List Int)), (Named.mk 5 ([5, 0, (-1)] : List Int))] : List Named)) fun y19 =>
brr y19 (
cl (f17.ok y5.1 ([0, 4] : List Int)) fun y20 =>
brr y20 (
cl (f17.ok y7.1 ([1, 2, 3] : List Int)) fun y21 =>
brr y21 (
cl (f18.ok y10) fun y22 =>
brr y22 (
cl (f18.ok y12) fun y23 =>
brr (!y23) (
cl (f19.ok y10) fun y24 =>
brr (y24 == 0) (
cl (f14.ok ([(Vertex.mk 0 0), (Vertex.mk 1 0), (Vertex.mk 2 0), (Vertex.mk 3 0), (Vertex.mk 5 0)] : List Vertex) ([(Edge.mk 0 2 1 false 0 0), (Edge.mk 4 1 3 false 0 0), (Edge.mk 6 3 2 false 0 0), (Edge.mk 7 5 5 false 0 0)] : List Edge) ([(Named.mk 0 ([0, 0, (-1)] : List Int)), (Named.mk 1 ([1, 0, (-1)] : List Int)), (Named.mk 2 ([1, 1, 0] : List Int)), (Named.mk 3 ([1, 1, 4] : List Int)), (Named.mk 5 ([5, 0, (-1)] : List Int))] : List Named) (1 : Int)) fun y25 =>
cl (f19.ok y25) fun y26 =>
.ret ((y26 == 1))) (
.ret (false))) (
.ret (false))) (
.ret (false))) (
.ret (false))) (
.ret (false))) (
.ret (false))) (
.ret (false)))

theorem f4.ok {x} (h : (f4).run = some x) : Spec Try.prog 4 [] [] (V x) [] :=
  Prg.ok Try.func4 (res := fun x => V x) (outs := fun x => []) (by kernel_rfl) (by kernel_rfl) rfl h

noncomputable def f20 (p1 p2 : Int) : Pg Int :=
brr (decide (p1 < 0)) (
nzD p2 <|
.ret (((IntKind.i64.wrap (0 - (IntKind.i64.wrap (p1 + 1)))).tmod p2))) (
nzD p2 <|
.ret ((p1.tmod p2)))

theorem f20.ok (p1 p2 : Int) {x} (h : (f20 p1 p2).run = some x) : Spec Try.prog 20 [V p1, V p2] [] (V x) [] :=
  Prg.ok Try.func20 (res := fun x => V x) (outs := fun x => []) (by kernel_rfl) (by kernel_rfl) rfl h

noncomputable def f5.l3 (p1 x5 : Int) (x30 : List Vertex) (v98 : Int) (l99 : List Int) : Pg (Nx (Int × (List Int)) (Ex (List Int) Empty Empty)) :=
cl (f20.ok (IntKind.i64.wrap (p1.tdiv 32)) (4 : Int)) fun y100 =>
brr ((decide (v98 < y100)) && (decide (v98 < x5))) (
ck v98 (L x30) <|
rd x30 (at0 v98) fun a101 =>
ap l99 ([a101.ID] : List Int) fun l102 =>
cont ((IntKind.i64.wrap (v98 + 1)), l102)) (
doneA l99)

noncomputable def f5.l2 (p1 : Int) (p2 : List A5_Int) (x5 : Int) (x30 : List Vertex) (v69 : Int) (l70 : List Edge) : Pg (Nx (Int × (List Edge)) (Ex (List Edge) Empty Empty)) :=
brr ((decide (v69 < (L p2 : Int))) && (decide (v69 < 20))) (
cl (f20.ok (IntKind.i64.wrap (p1.tdiv 4)) (20 : Int)) fun y71 =>
getR p2 v69 fun a72 =>
cl (f20.ok a72.x0 x5) fun y73 =>
ck y73 (L x30) <|
rd x30 (at0 y73) fun a74 =>
getR p2 v69 fun a75 =>
cl (f20.ok a75.x1 x5) fun y76 =>
ck y76 (L x30) <|
rd x30 (at0 y76) fun a77 =>
getR p2 v69 fun a78 =>
cl (f20.ok a78.x2 (2 : Int)) fun y79 =>
getR p2 v69 fun a80 =>
cl (f20.ok a80.x3 (12 : Int)) fun y81 =>
getR p2 v69 fun a82 =>
cl (f20.ok a82.x4 (6 : Int)) fun y83 =>
getR p2 v69 fun a84 =>
cl (f20.ok a84.x4 (11 : Int)) fun y85 =>
join1 (.cond 122) (
brr (y85 == 10) (
getR p2 v69 fun a86 =>
cl (f20.ok a86.x3 (2001 : Int)) fun y87 =>
retA' (Edge.mk (IntKind.i64.wrap (v69 + y71)) a74.ID a77.ID (y79 == 1) (IntKind.i64.wrap (y87 - 1000)) y83)) (
retA' (Edge.mk (IntKind.i64.wrap (v69 + y71)) a74.ID a77.ID (y79 == 1) (IntKind.i64.wrap (y81 - 3)) y83))) (.cut .nat fun x88 => ([(0, V p1), (1, V p2), (6, R 101), (7, R 103), (8, V x5), (11, V v69), (12, R 105)], [(101, .varp [.nilsl, .nilsl, .nilsl]), (103, .var [H Vertex 107, H Edge 109, .pv .nilsl]), (105, B x88), (107, O x30), (109, O l70)])) fun x88 =>
ap l70 ([x88] : List Edge) fun l89 =>
cont ((IntKind.i64.wrap (v69 + 1)), l89)) (
doneA l70)

noncomputable def f5.l1 (p1 : Int) (p2 : List A5_Int) (p3 : Bool) (x5 : Int) (v20 : Int) (l21 : List Vertex) : Pg (Nx (Int × (List Vertex)) (Ex (List Vertex) Empty Empty)) :=
brr (decide (v20 < x5)) (
join1 (.reg 9) (
brr (!p3) (
cl (f20.ok (IntKind.i64.wrap (p1.tdiv 8)) (2 : Int)) fun y22 =>
retA' (y22 == 1)) (
retA' false)) (.cut .nat fun x23 => ([(0, V p1), (1, V p2), (2, V p3), (6, R 101), (7, R 103), (8, V x5), (9, V v20), (10, V v20), (34, V x23)], [(101, .varp [.nilsl, .nilsl, .nilsl]), (103, .var [H Vertex 105, .pv .nilsl, .pv .nilsl]), (105, O l21)])) fun x23 =>
join1 (.cond 34) (
brr x23 (
retA' (IntKind.i64.wrap (v20 + (IntKind.i64.wrap (v20.tdiv 2))))) (
retA' v20)) (.cut .nat fun x24 => ([(0, V p1), (1, V p2), (2, V p3), (6, R 101), (7, R 103), (8, V x5), (9, V v20), (10, V x24)], [(101, .varp [.nilsl, .nilsl, .nilsl]), (103, .var [H Vertex 105, .pv .nilsl, .pv .nilsl]), (105, O l21)])) fun x24 =>
cl (f20.ok (IntKind.i64.wrap (p1.tdiv 64)) (3 : Int)) fun y25 =>
let e26 : Int := (IntKind.i64.wrap ((IntKind.i64.wrap (p1.tdiv 16)) + (IntKind.i64.wrap (v20 * (IntKind.i64.wrap (1 + y25))))))
cl (f20.ok e26 (4 : Int)) fun y27 =>
ap l21 ([(Vertex.mk x24 y27)] : List Vertex) fun l28 =>
cont ((IntKind.i64.wrap (v20 + 1)), l28)) (
doneA l21)

noncomputable def f5 (p1 : Int) (p2 : List A5_Int) (p3 : Bool) : Pg Graph :=
cl (f20.ok p1 (8 : Int)) fun y4 =>
join1 (.cond 18) (
brr p3 (
retA' (IntKind.i64.wrap ((IntKind.i64.wrap (1 + y4)) + 10))) (
retA' (IntKind.i64.wrap (1 + y4)))) (.cut .nat fun x5 => ([(0, V p1), (1, V p2), (2, V p3), (6, R 101), (7, R 103), (8, V x5)], [(101, .varp [.nilsl, .nilsl, .nilsl]), (103, .varp [.nilsl, .nilsl, .nilsl])])) fun x5 =>
loop1 ((0 : Int), ([] : List Vertex)) (fun s29 => f5.l1 p1 p2 p3 x5 s29.1 s29.2) (fun s29 => ([(0, V p1), (1, V p2), (2, V p3), (6, R 101), (7, R 103), (8, V x5), (9, V s29.1)], [(101, .varp [.nilsl, .nilsl, .nilsl]), (103, .var [H Vertex 501, .pv .nilsl, .pv .nilsl]), (501, O s29.2)])) (.cut (.ext 0) fun x30 => ([(0, V p1), (1, V p2), (6, R 101), (7, R 103), (8, V x5)], [(101, .varp [.nilsl, .nilsl, .nilsl]), (103, .var [H Vertex 105, .pv .nilsl, .pv .nilsl]), (105, O x30)])) fun x30 =>
loop1 ((0 : Int), ([] : List Edge)) (fun s90 => f5.l2 p1 p2 x5 x30 s90.1 s90.2) (fun s90 => ([(0, V p1), (1, V p2), (6, R 101), (7, R 103), (8, V x5), (11, V s90.1)], [(101, .varp [.nilsl, .nilsl, .nilsl]), (103, .var [H Vertex 105, H Edge 501, .pv .nilsl]), (105, O x30), (501, O s90.2)])) (.cut (.ext 2) fun x91 => ([(0, V p1), (6, R 101), (7, R 103), (8, V x5)], [(101, .varp [.nilsl, .nilsl, .nilsl]), (103, .var [H Vertex 105, H Edge 107, .pv .nilsl]), (105, O x30), (107, O x91)])) fun x91 =>
loop1 ((0 : Int), ([] : List Int)) (fun s103 => f5.l3 p1 x5 x30 s103.1 s103.2) (fun s103 => ([(0, V p1), (6, R 101), (7, R 103), (8, V x5), (13, V s103.1)], [(101, .varp [.nilsl, .nilsl, .nilsl]), (103, .var [H Vertex 105, H Edge 107, H Int 501]), (105, O x30), (107, O x91), (501, O s103.2)])) (.cut (.ext 4) fun x104 => ([(6, R 101), (7, R 103)], [(101, .varp [.nilsl, .nilsl, .nilsl]), (103, .var [H Vertex 105, H Edge 107, H Int 109]), (105, O x30), (107, O x91), (109, O x104)])) fun x104 =>
.ret ((Graph.mk x30 x91 x104))

theorem f5.ok (p1 : Int) (p2 : List A5_Int) (p3 : Bool) {x} (h : (f5 p1 p2 p3).run = some x) : Spec Try.prog 5 [V p1, V p2, V p3] [] (V x) [] :=
  Prg.ok Try.func5 (res := fun x => V x) (outs := fun x => []) (by kernel_rfl) (by kernel_rfl) rfl h

noncomputable def f61v2 (p1 : Int) (p2 : Graph_change) : Pg (Int × Bool) :=
cl (f72.ok p2.Graph.Vertices p1) fun y3 =>
.ret ((y3.1, y3.2))

theorem f61v2.ok (p1 : Int) (p2 : Graph_change) {x} (h : (f61v2 p1 p2).run = some x) : Spec Try.prog 61 [R 0, V p1] [B p2] (.tup [V x.1, V x.2]) [B p2] :=
  Prg.ok Try.func61 (res := fun x => .tup [V x.1, V x.2]) (outs := fun x => [B p2]) (by kernel_rfl) (by kernel_rfl) rfl h

noncomputable def f43v2 (p1 : Int) (p2 : Graph_change) : Pg Bool :=
cl (f61v2.ok p1 p2) fun y3 =>
.ret (y3.2)

theorem f43v2.ok (p1 : Int) (p2 : Graph_change) {x} (h : (f43v2 p1 p2).run = some x) : Spec Try.prog 43 [R 0, V p1] [B p2] (V x) [B p2] :=
  Prg.ok Try.func43 (res := fun x => V x) (outs := fun x => [B p2]) (by kernel_rfl) (by kernel_rfl) rfl h

noncomputable def f41v2 (p1 : Edge) (p2 : Graph_change) : Pg Bool :=
cl (f42.ok p1) fun y3 =>
brr (!y3) (
.ret (true)) (
cl (f43v2.ok p1.From p2) fun y4 =>
brr (!y4) (
.ret (true)) (
cl (f43v2.ok p1.To p2) fun y5 =>
.ret ((!y5))))

theorem f41v2.ok (p1 : Edge) (p2 : Graph_change) {x} (h : (f41v2 p1 p2).run = some x) : Spec Try.prog 41 [V p1, R 0] [mkVar (R 2), B p2] (V x) [mkVar (R 2), B p2] :=
  Prg.ok Try.func41 (res := fun x => V x) (outs := fun x => [mkVar (R 2), B p2]) (by kernel_rfl) (by kernel_rfl) rfl h

noncomputable def f57v4.l1 (p1 : List Edge) (p2 : Graph_change) (v5 : Int) : Pg (Nx Int (Ex (Int) Unit Empty)) :=
brr (decide (v5 < (L p1 : Int))) (
getR p1 v5 fun a6 =>
cl (f41v2.ok a6 p2) fun y7 =>
brr y7 (
doneA (v5)) (
cont (IntKind.i64.wrap (v5 + 1)))) (
doneB ())

noncomputable def f57v4 (p1 : List Edge) (p2 : Graph_change) : Pg Int :=
loop2 (0 : Int) (fun s8 => f57v4.l1 p1 p2 s8) (fun s8 => ([(0, V p1), (1, .clo 41 [R 0]), (7, V (L p1 : Int)), (8, V s8)], [(0, mkVar (R 2)), (2, B p2)])) .inl (fun r9 =>
.ret r9) (.cut (.ext 0) fun _ => ([], [(0, mkVar (R 2)), (2, B p2)])) fun _ =>
.ret (((-1) : Int))

theorem f57v4.ok (p1 : List Edge) (p2 : Graph_change) {x} (h : (f57v4 p1 p2).run = some x) : Spec Try.prog 57 [V p1, .clo 41 [R 0]] [mkVar (R 2), B p2] (V x) [mkVar (R 2), B p2] :=
  Prg.ok Try.func57 (res := fun x => V x) (outs := fun x => [mkVar (R 2), B p2]) (by kernel_rfl) (by kernel_rfl) rfl h

noncomputable def f33v4 (p1 : List Edge) (p2 : Graph_change) : Pg Bool :=
cl (f57v4.ok p1 p2) fun y3 =>
.ret ((decide (y3 ≥ 0)))

theorem f33v4.ok (p1 : List Edge) (p2 : Graph_change) {x} (h : (f33v4 p1 p2).run = some x) : Spec Try.prog 33 [V p1, .clo 41 [R 0]] [mkVar (R 2), B p2] (V x) [mkVar (R 2), B p2] :=
  Prg.ok Try.func33 (res := fun x => V x) (outs := fun x => [mkVar (R 2), B p2]) (by kernel_rfl) (by kernel_rfl) rfl h

noncomputable def f65v2 (p1 : Int) (p2 : Graph_change) : Pg Bool :=
cl (f43v2.ok p1 p2) fun y3 =>
.ret ((!y3))

theorem f65v2.ok (p1 : Int) (p2 : Graph_change) {x} (h : (f65v2 p1 p2).run = some x) : Spec Try.prog 65 [V p1, R 0] [mkVar (R 2), B p2] (V x) [mkVar (R 2), B p2] :=
  Prg.ok Try.func65 (res := fun x => V x) (outs := fun x => [mkVar (R 2), B p2]) (by kernel_rfl) (by kernel_rfl) rfl h

noncomputable def f71v3.l1 (p1 : List Int) (p2 : Graph_change) (v5 : Int) : Pg (Nx Int (Ex (Int) Unit Empty)) :=
brr (decide (v5 < (L p1 : Int))) (
getR p1 v5 fun a6 =>
cl (f65v2.ok a6 p2) fun y7 =>
brr y7 (
doneA (v5)) (
cont (IntKind.i64.wrap (v5 + 1)))) (
doneB ())

noncomputable def f71v3 (p1 : List Int) (p2 : Graph_change) : Pg Int :=
loop2 (0 : Int) (fun s8 => f71v3.l1 p1 p2 s8) (fun s8 => ([(0, V p1), (1, .clo 65 [R 0]), (7, V (L p1 : Int)), (8, V s8)], [(0, mkVar (R 2)), (2, B p2)])) .inl (fun r9 =>
.ret r9) (.cut (.ext 0) fun _ => ([], [(0, mkVar (R 2)), (2, B p2)])) fun _ =>
.ret (((-1) : Int))

theorem f71v3.ok (p1 : List Int) (p2 : Graph_change) {x} (h : (f71v3 p1 p2).run = some x) : Spec Try.prog 71 [V p1, .clo 65 [R 0]] [mkVar (R 2), B p2] (V x) [mkVar (R 2), B p2] :=
  Prg.ok Try.func71 (res := fun x => V x) (outs := fun x => [mkVar (R 2), B p2]) (by kernel_rfl) (by kernel_rfl) rfl h

noncomputable def f55v3 (p1 : List Int) (p2 : Graph_change) : Pg Bool :=
cl (f71v3.ok p1 p2) fun y3 =>
.ret ((decide (y3 ≥ 0)))

theorem f55v3.ok (p1 : List Int) (p2 : Graph_change) {x} (h : (f55v3 p1 p2).run = some x) : Spec Try.prog 55 [V p1, .clo 65 [R 0]] [mkVar (R 2), B p2] (V x) [mkVar (R 2), B p2] :=
  Prg.ok Try.func55 (res := fun x => V x) (outs := fun x => [mkVar (R 2), B p2]) (by kernel_rfl) (by kernel_rfl) rfl h

noncomputable def f47v2 (p1 : Graph_change) : Pg Bool :=
brr (decide ((L p1.Graph.Depots : Int) ≤ 3)) (
cl (f63.ok p1.Graph.Depots) fun y2 =>
brr y2 (
cl (f55v3.ok p1.Graph.Depots p1) fun y3 =>
.ret ((!y3))) (
.ret (false))) (
.ret (false))

theorem f47v2.ok (p1 : Graph_change) {x} (h : (f47v2 p1).run = some x) : Spec Try.prog 47 [R 0] [B p1] (V x) [B p1] :=
  Prg.ok Try.func47 (res := fun x => V x) (outs := fun x => [B p1]) (by kernel_rfl) (by kernel_rfl) rfl h

noncomputable def f21v2 (p1 : Graph) : Pg Bool :=
join1 (.reg 1) (
cl (f37.ok p1.Vertices) fun y3 =>
brr (!y3) (
retA' true) (
cl (f39.ok p1.Edges) fun y4 =>
retA' (!y4))) (.cut .nat fun x5 => ([(1, R 101), (14, V x5)], [(101, B p1)])) fun x5 =>
brr x5 (
.ret (false)) (
cl (f44.ok p1.Vertices) fun y6 =>
brr (!y6) (
cl (f33v4.ok p1.Edges (Graph_change.mk p1)) fun y7 =>
brr (!y7) (
cl (f47v2.ok (Graph_change.mk ((Graph_change.mk p1).Graph))) fun y8 =>
.ret (y8)) (
.ret (false))) (
.ret (false)))

theorem f21v2.ok (p1 : Graph) {x} (h : (f21v2 p1).run = some x) : Spec Try.prog 21 [V p1] [] (V x) [] :=
  Prg.ok Try.func21 (res := fun x => V x) (outs := fun x => []) (by kernel_rfl) (by kernel_rfl) rfl h

noncomputable def f48v1.l1 (p1 : Graph) (p2 : Int) (v9 : Int) (l10 : List Edge) : Pg (Nx (Int × (List Edge)) (Ex (List Edge) Empty Empty)) :=
brr (decide (v9 < (L p1.Edges : Int))) (
getR p1.Edges v9 fun a11 =>
join1 (.reg 4) (
brr (a11.From == p2) (
retA' true) (
retA' (a11.To == p2))) (.cut .nat fun x12 => ([(1, V p2), (4, H Edge 101), (6, R 103), (8, V p1.Edges), (9, V (L p1.Edges : Int)), (10, V v9), (23, V x12)], [(101, O l10), (103, B a11)])) fun x12 =>
brr x12 (
ap l10 ([a11] : List Edge) fun l13 =>
cont ((IntKind.i64.wrap (v9 + 1)), l13)) (
cont ((IntKind.i64.wrap (v9 + 1)), l10))) (
doneA l10)

noncomputable def f48v1 (p1 : Graph) (p2 : Int) : Pg (List Edge) :=
loop1 ((0 : Int), ([] : List Edge)) (fun s14 => f48v1.l1 p1 p2 s14.1 s14.2) (fun s14 => ([(1, V p2), (4, H Edge 501), (8, V p1.Edges), (9, V (L p1.Edges : Int)), (10, V s14.1)], [(501, O s14.2)])) (.cut (.ext 0) fun x15 => ([(4, H Edge 101)], [(101, O x15)])) fun x15 =>
.ret (x15)

theorem f48v1.ok (p1 : Graph) (p2 : Int) {x} (h : (f48v1 p1 p2).run = some x) : Spec Try.prog 48 [V p1, V p2] [] (V x) [] :=
  Prg.ok Try.func48 (res := fun x => V x) (outs := fun x => []) (by kernel_rfl) (by kernel_rfl) rfl h

noncomputable def f22v2.l1 [Fm] (a64 : Vertex) (a96 : Int) (y97 : List Edge) (v : Int) (M : List (List Int)) (m : List (Int × Ref)) (q : List Int) : Pg (Nx (Int × List (List Int) × List (Int × Ref) × List Int) (Ex (List (List Int) × List (Int × Ref) × List Int) Empty Empty)) :=
brr (decide (v < (L y97 : Int))) (
getR y97 v fun a110 =>
cl (f36.ok a110 a96) fun y111 =>
.ask (mapGet m y111).isSome (
lookR m y111 fun _ =>
brr (!true) .no (
cont ((IntKind.i64.wrap (v + 1)), M, m, q))) (
lookA m y111 <|
brr (!false) (
lookR m a96 fun r =>
ck (1 : Int) r.len <|
rdM M r.i (r.off + (1 : Int).toNat) fun a116 =>
bsM 81 M [a64.ID, (IntKind.i64.wrap (a116 + 1)), (-1)] <|
mset m y111 (Ref.mk (LM M) 0 3) fun m117 =>
ap q ([y111] : List Int) fun q118 =>
cont ((IntKind.i64.wrap (v + 1)), M ++ [[a64.ID, (IntKind.i64.wrap (a116 + 1)), (-1)]], m117, q118)) .no)) (
doneA (M, m, q))

noncomputable def f22v2.l2 [Fm] (p1 : Graph) (v62 : Int) (a64 : Vertex) (M : List (List Int)) (m : List (Int × Ref)) (q : List Int) : Pg (Nx (List (List Int) × List (Int × Ref) × List Int) (Ex (List (List Int) × List (Int × Ref)) Empty Empty)) :=
brr (decide ((L q : Int) > 0)) (
ck (0 : Int) (L q) <|
rd q (at0 (0 : Int)) fun a96 =>
cl (f48v1.ok p1 a96) fun y97 =>
loop1 ((0 : Int), M, m, q) (fun s => f22v2.l1 a64 a96 y97 s.1 s.2.1 s.2.2.1 s.2.2.2) (fun s => ([(1, R 101), (3, .mp 103), (5, R 105), (8, H Int 107), (9, V a96), (21, V p1.Vertices), (22, V (L p1.Vertices : Int)), (23, V v62), (54, V y97), (55, V (L y97 : Int)), (56, V s.1)], [(3, FM s.2.1), (101, B p1), (103, MR s.2.2.1), (105, B a64), (107, O s.2.2.2)])) (.cut (.ext 4) fun x => ([(1, R 101), (3, .mp 103), (5, R 105), (8, H Int 107), (21, V p1.Vertices), (22, V (L p1.Vertices : Int)), (23, V v62)], [(3, FM x.1), (101, B p1), (103, MR x.2.1), (105, B a64), (107, O x.2.2)])) fun x =>
cutLoO x.2.2 (1 : Int) fun q121 =>
cont (x.1, x.2.1, q121)) (
doneA (M, m))

noncomputable def f22v2.l3 [Fm] (p1 : Graph) (v62 : Int) (M : List (List Int)) (m : List (Int × Ref)) : Pg (Nx (Int × List (List Int) × List (Int × Ref)) (Ex (List (List Int) × List (Int × Ref)) Empty Empty)) :=
brr (decide (v62 < (L p1.Vertices : Int))) (
getR p1.Vertices v62 fun a64 =>
.ask (mapGet m a64.ID).isSome (
lookR m a64.ID fun _ =>
brr true (
cont ((IntKind.i64.wrap (v62 + 1)), M, m)) .no) (
lookA m a64.ID <|
brr false .no (
bsM 40 M [a64.ID, 0, (-1)] <|
mset m a64.ID (Ref.mk (LM M) 0 3) fun m67 =>
loop1 (M ++ [[a64.ID, 0, (-1)]], m67, ([a64.ID] : List Int)) (fun s => f22v2.l2 p1 v62 a64 s.1 s.2.1 s.2.2) (fun s => ([(1, R 101), (3, .mp 103), (5, R 105), (8, H Int 107), (21, V p1.Vertices), (22, V (L p1.Vertices : Int)), (23, V v62)], [(3, FM s.1), (101, B p1), (103, MR s.2.1), (105, B a64), (107, O s.2.2)])) (.cut (.ext 2) fun x => ([(1, R 101), (3, .mp 103), (21, V p1.Vertices), (22, V (L p1.Vertices : Int)), (23, V v62)], [(3, FM x.1), (101, B p1), (103, MR x.2)])) fun x =>
cont ((IntKind.i64.wrap (v62 + 1)), x.1, x.2)))) (
doneA (M, m))

noncomputable def f22v2.l4 [Fm] (m : List (Int × Ref)) (M : List (List Int)) (key : Int) (r : Ref) (y97 : List Edge) (v : Int) : Pg (Nx Int (Ex (List (List Int)) Unit Empty)) :=
brr (decide (v < (L y97 : Int))) (
getR y97 v fun a =>
cl (f36.ok a key) fun y106 =>
lookR m y106 fun r2 =>
ck (1 : Int) r2.len <|
rdM M r2.i (r2.off + (1 : Int).toNat) fun a109 =>
ck (1 : Int) r.len <|
rdM M r.i (r.off + (1 : Int).toNat) fun a112 =>
brr (a109 == (IntKind.i64.wrap (a112 - 1))) (
ck (2 : Int) r.len <|
stM M r.i (r.off + (2 : Int).toNat) a.ID fun M2 =>
doneA M2) (
cont (IntKind.i64.wrap (v + 1)))) (
doneB ())

noncomputable def f22v2.l5 [Fm] (p1 : Graph) (m : List (Int × Ref)) (seen : List Nat) (i : Nat) (M : List (List Int)) : Pg (Nx (List (List Int)) (Ex Empty Empty Empty)) :=
entM 103 m i fun key r =>
cl (f48v1.ok p1 key) fun y97 =>
loop2 (0 : Int) (fun s => f22v2.l4 m M key r y97 s) (fun s => ([(1, R 101), (3, .mp 103), (15, V key), (16, avR r), (89, R 105), (97, V y97), (98, V (L y97 : Int)), (99, V s)], [(3, FM M), (101, B p1), (103, MR m), (105, .it 103 (m.map mKey).length (i :: seen))])) (.cut (.ext 7) fun M2 => ([(1, R 101), (3, .mp 103), (89, R 105)], [(3, FM M2), (101, B p1), (103, MR m), (105, .it 103 (m.map mKey).length (i :: seen))])) (fun M2 =>
cont M2) (.cut (.ext 8) fun _ => ([(1, R 101), (3, .mp 103), (89, R 105)], [(3, FM M), (101, B p1), (103, MR m), (105, .it 103 (m.map mKey).length (i :: seen))])) fun _ =>
cont M

noncomputable def f22v2.fm [Fm] (p1 : Graph) : Pg (List (Int × List Int)) :=
loop1 ((0 : Int), ([] : List (List Int)), ([] : List (Int × Ref))) (fun s => f22v2.l3 p1 s.1 s.2.1 s.2.2) (fun s => ([(1, R 101), (3, .mp 103), (21, V p1.Vertices), (22, V (L p1.Vertices : Int)), (23, V s.1)], [(3, FM s.2.1), (101, B p1), (103, MR s.2.2)])) (.cut (.ext 0) fun x => ([(1, R 101), (3, .mp 103)], [(3, FM x.1), (101, B p1), (103, MR x.2)])) fun x =>
mloop0 (x.2.map mKey).length x.1 (fun seen i M => f22v2.l5 p1 x.2 seen i M) (fun M seen => ([(1, R 101), (3, .mp 103), (89, R 105)], [(3, FM M), (101, B p1), (103, MR x.2), (105, .it 103 (x.2.map mKey).length seen)])) fun M =>
tellG 103 M x.2 fun y =>
.ret y

theorem f22v2.l1.same (f g : Fm) (a64 a96 y97 v M m q) : (@f22v2.l1 f a64 a96 y97 v M m q).run = (@f22v2.l1 g a64 a96 y97 v M m q).run := by
  simp only [f22v2.l1, r_brr, r_getR, r_ask, r_lookR, r_lookA, r_ck, r_rdM, r_bsM, r_mset, r_ap, r_cl, r_ret, L_eq]
theorem f22v2.l2.same (f g : Fm) (p1 : Graph) (v62 a64 M m q) : (@f22v2.l2 f p1 v62 a64 M m q).run = (@f22v2.l2 g p1 v62 a64 M m q).run := by
  simp only [f22v2.l2, r_brr, r_ck, r_rd, r_cl, r_loop1, f22v2.l1.same f g, r_cutLoO, r_ret, L_eq]
theorem f22v2.l3.same (f g : Fm) (p1 : Graph) (v62 M m) : (@f22v2.l3 f p1 v62 M m).run = (@f22v2.l3 g p1 v62 M m).run := by
  simp only [f22v2.l3, r_brr, r_getR, r_ask, r_lookR, r_lookA, r_bsM, r_mset, r_loop1, f22v2.l2.same f g, r_ret, L_eq]
theorem f22v2.l4.same (f g : Fm) (m M key r y97 v) : (@f22v2.l4 f m M key r y97 v).run = (@f22v2.l4 g m M key r y97 v).run := by
  simp only [f22v2.l4, r_brr, r_getR, r_lookR, r_ck, r_rdM, r_stM, r_cl, r_ret, L_eq]
theorem f22v2.l5.same (f g : Fm) (p1 : Graph) (m seen seen2 i M) : (@f22v2.l5 f p1 m seen i M).run = (@f22v2.l5 g p1 m seen2 i M).run := by
  simp only [f22v2.l5, r_entM, r_cl, r_loop2, f22v2.l4.same f g, r_ret]
theorem f22v2.same (f g : Fm) (p1 : Graph) : (@f22v2.fm f p1).run = (@f22v2.fm g p1).run := by
  simp only [f22v2.fm, r_loop1, f22v2.l3.same f g, r_mloop0, r_tellG, r_ret]
  refine congrArg (bd _) (funext fun e => ?_)
  cases e with
  | a x =>
    simp only [ex3]
    have : (fun (i : Nat) (s : List (List Int)) => runAll fun seen => (@f22v2.l5 f p1 x.2 seen i s).run) = fun i s => runAll fun seen => (@f22v2.l5 g p1 x.2 seen i s).run := by
      funext i s
      rw [runAll_const (c := (@f22v2.l5 g p1 x.2 [] i s).run) (fun seen => f22v2.l5.same f g p1 x.2 seen [] i s), runAll_const (c := (@f22v2.l5 g p1 x.2 [] i s).run) (fun seen => f22v2.l5.same g g p1 x.2 seen [] i s)]
    rw [this]
  | b x => cases x
  | c x => cases x
noncomputable abbrev f22v2  (p1 : Graph) : Pg (List (Int × List Int)) := @f22v2.fm ⟨0⟩ p1
theorem f22v2.ok  (p1 : Graph) {x} (h : (f22v2 p1).run = some x) : Spec Try.prog 22 [V p1] [] (.mp 0) [MO false x] :=
  Prg.okF (p := fun f => @f22v2.fm ⟨f⟩ p1) Try.func22 1 (res := fun _ => .mp 0) (outs := fun x => [MO false x]) (by kernel_rfl) (by kernel_rfl) rfl (fun f => (f22v2.same ⟨f⟩ ⟨0⟩ p1).trans h)

noncomputable def f6v2.l1 (p1 : Graph) (y3 : List (Int × (List Int))) (v12 : Int) (l13 : List Named) : Pg (Nx (Int × (List Named)) (Ex (List Named) Empty Empty)) :=
brr (decide (v12 < (L p1.Vertices : Int))) (
getR p1.Vertices v12 fun a14 =>
look y3 a14.ID ([] : List Int) fun a15 b16 =>
ap l13 ([(Named.mk a14.ID a15)] : List Named) fun l17 =>
cont ((IntKind.i64.wrap (v12 + 1)), l17)) (
doneA l13)

noncomputable def f6v2 (p1 : Graph) : Pg ((List Named) × Int) :=
cl (f21v2.ok p1) fun y2 =>
brr (!y2) (
.ret ((([] : List Named), (70 : Int)))) (
cl (f22v2.ok p1) fun y3 =>
loop1 ((0 : Int), ([] : List Named)) (fun s18 => f6v2.l1 p1 y3 s18.1 s18.2) (fun s18 => ([(4, .mp 101), (5, H Named 501), (14, V p1.Vertices), (15, V (L p1.Vertices : Int)), (16, V s18.1)], [(101, MO false y3), (501, O s18.2)])) (.cut (.ext 0) fun x19 => ([(5, H Named 101)], [(101, O x19)])) fun x19 =>
.ret ((x19, (0 : Int))))

theorem f6v2.ok (p1 : Graph) {x} (h : (f6v2 p1).run = some x) : Spec Try.prog 6 [V p1] [] (.tup [V x.1, V x.2]) [] :=
  Prg.ok Try.func6 (res := fun x => .tup [V x.1, V x.2]) (outs := fun x => []) (by kernel_rfl) (by kernel_rfl) rfl h

noncomputable def f66 (p1 : Vertex) (p2 : Int) : Pg Unit :=
.ret (())

theorem f66.ok (p1 : Vertex) (p2 : Int) {x} (h : (f66 p1 p2).run = some x) : Spec Try.prog 66 [V p1, R 0] [B p2] (V (p1.ID == p2)) [B p2] :=
  Prg.ok Try.func66 (res := fun x => V (p1.ID == p2)) (outs := fun x => [B p2]) (by kernel_rfl) (by kernel_rfl) rfl h

noncomputable def f62v2.l1 (p1 : List Vertex) (p2 : Int) (v5 : Int) : Pg (Nx Int (Ex (Int) Unit Empty)) :=
brr (decide (v5 < (L p1 : Int))) (
getR p1 v5 fun a6 =>
cl (f66.ok a6 p2) fun _ =>
brr (a6.ID == p2) (
doneA (v5)) (
cont (IntKind.i64.wrap (v5 + 1)))) (
doneB ())

noncomputable def f62v2 (p1 : List Vertex) (p2 : Int) : Pg Int :=
loop2 (0 : Int) (fun s8 => f62v2.l1 p1 p2 s8) (fun s8 => ([(0, V p1), (1, .clo 66 [R 0]), (7, V (L p1 : Int)), (8, V s8)], [(0, B p2)])) .inl (fun r9 =>
.ret r9) (.cut (.ext 0) fun _ => ([], [(0, B p2)])) fun _ =>
.ret (((-1) : Int))

theorem f62v2.ok (p1 : List Vertex) (p2 : Int) {x} (h : (f62v2 p1 p2).run = some x) : Spec Try.prog 62 [V p1, .clo 66 [R 0]] [B p2] (V x) [B p2] :=
  Prg.ok Try.func62 (res := fun x => V x) (outs := fun x => [B p2]) (by kernel_rfl) (by kernel_rfl) rfl h

noncomputable def f49 (p1 : Graph) (p2 : Int) : Pg (Vertex × Bool) :=
cl (f62v2.ok p1.Vertices p2) fun y3 =>
join1 (.reg 2) (
brr (decide (y3 < 0)) (
retA' true) (
cl (f21v2.ok p1) fun y4 =>
retA' (!y4))) (.cut .nat fun x5 => ([(2, R 101), (4, R 103), (6, V y3), (17, V x5)], [(101, B p1), (103, B (Vertex.mk 0 0))])) fun x5 =>
brr x5 (
.ret (((Vertex.mk 0 0), false))) (
getR p1.Vertices y3 fun a6 =>
.ret ((a6, true)))

theorem f49.ok (p1 : Graph) (p2 : Int) {x} (h : (f49 p1 p2).run = some x) : Spec Try.prog 49 [V p1, V p2] [] (.tup [V x.1, V x.2]) [] :=
  Prg.ok Try.func49 (res := fun x => .tup [V x.1, V x.2]) (outs := fun x => []) (by kernel_rfl) (by kernel_rfl) rfl h

noncomputable def f50.l1 (p1 : List Named) (v3 v4 : Int) : Pg (Nx (Int × Int) (Ex (Bool) Unit Empty)) :=
brr (decide (v4 < (L p1 : Int))) (
getR p1 v4 fun a5 =>
brr (decide (a5.ID ≤ v3)) (
doneA (false)) (
brr (decide (a5.ID ≥ 24)) (
doneA (false)) (
brr (decide ((L a5.Label : Int) > 64)) (
doneA (false)) (
cont (a5.ID, (IntKind.i64.wrap (v4 + 1))))))) (
doneB ())

noncomputable def f50 (p1 : List Named) : Pg Bool :=
loop2 (((-1) : Int), (0 : Int)) (fun s6 => f50.l1 p1 s6.1 s6.2) (fun s6 => ([(3, V s6.1), (6, V p1), (7, V (L p1 : Int)), (8, V s6.2)], [])) .inl (fun r7 =>
.ret r7) (.cut (.ext 0) fun _ => ([], [])) fun _ =>
.ret (true)

theorem f50.ok (p1 : List Named) {x} (h : (f50 p1).run = some x) : Spec Try.prog 50 [V p1] [] (V x) [] :=
  Prg.ok Try.func50 (res := fun x => V x) (outs := fun x => []) (by kernel_rfl) (by kernel_rfl) rfl h

noncomputable def f51 (p1 : List Int) : Pg (List Int) :=
bothN p1 <|
ap ([] : List Int) p1 fun l2 =>
.ret (l2)

theorem f51.ok (p1 : List Int) {x} (h : (f51 p1).run = some x) : Spec Try.prog 51 [V p1] [] (V x) [] :=
  Prg.ok Try.func51 (res := fun x => V x) (outs := fun x => []) (by kernel_rfl) (by kernel_rfl) rfl h

noncomputable def f48v2.l1 (p1 : Graph) (p2 : Int) (v9 : Int) (l10 : List Edge) : Pg (Nx (Int × (List Edge)) (Ex (List Edge) Empty Empty)) :=
brr (decide (v9 < (L p1.Edges : Int))) (
getR p1.Edges v9 fun a11 =>
join1 (.reg 4) (
brr (a11.From == p2) (
retA' true) (
retA' (a11.To == p2))) (.cut .nat fun x12 => ([(1, V p2), (4, H Edge 101), (6, R 103), (8, V p1.Edges), (9, V (L p1.Edges : Int)), (10, V v9), (23, V x12)], [(101, O l10), (103, B a11)])) fun x12 =>
brr x12 (
ap l10 ([a11] : List Edge) fun l13 =>
cont ((IntKind.i64.wrap (v9 + 1)), l13)) (
cont ((IntKind.i64.wrap (v9 + 1)), l10))) (
doneA l10)

noncomputable def f48v2 (p1 : Graph) (p2 : Int) : Pg (List Edge) :=
loop1 ((0 : Int), ([] : List Edge)) (fun s14 => f48v2.l1 p1 p2 s14.1 s14.2) (fun s14 => ([(1, V p2), (4, H Edge 501), (8, V p1.Edges), (9, V (L p1.Edges : Int)), (10, V s14.1)], [(501, O s14.2)])) (.cut (.ext 0) fun x15 => ([(4, H Edge 101)], [(101, O x15)])) fun x15 =>
.ret (x15)

theorem f48v2.ok (p1 : Graph) (p2 : Int) {x} (h : (f48v2 p1 p2).run = some x) : Spec Try.prog 48 [V p1, V p2] [] (V x) [] :=
  Prg.ok Try.func48 (res := fun x => V x) (outs := fun x => []) (by kernel_rfl) (by kernel_rfl) rfl h

noncomputable def f88 (p1 : Int) : Pg Int :=
join1 (.cond 4) (
brr (decide (p1 ≥ 4294967296)) (
retA' ((p1.fdiv (2 ^ (min (32 : Int).toNat IntKind.u64.bits))), (32 : Int))) (
retA' (p1, (0 : Int)))) (.cut .nat fun x2 => ([(0, .pv (.int .u64 x2.1)), (2, V x2.2)], [])) fun x2 =>
join1 (.cond 8) (
brr (decide (x2.1 ≥ 65536)) (
retA' ((x2.1.fdiv (2 ^ (min (16 : Int).toNat IntKind.u64.bits))), (IntKind.i64.wrap (x2.2 + 16)))) (
retA' (x2.1, x2.2))) (.cut .nat fun x3 => ([(0, .pv (.int .u64 x3.1)), (2, V x3.2)], [])) fun x3 =>
brr (decide (x3.1 ≥ 256)) (
sget str1 (IntKind.u8.wrap (x3.1.fdiv (2 ^ (min (8 : Int).toNat IntKind.u64.bits)))) fun n4 =>
.ret ((IntKind.i64.wrap ((IntKind.i64.wrap (x3.2 + 8)) + (IntKind.i64.wrap n4))))) (
sget str1 (IntKind.u8.wrap x3.1) fun n5 =>
.ret ((IntKind.i64.wrap (x3.2 + (IntKind.i64.wrap n5)))))

theorem f88.ok (p1 : Int) {x} (h : (f88 p1).run = some x) : Spec Try.prog 88 [.pv (.int .u64 p1)] [] (V x) [] :=
  Prg.ok Try.func88 (res := fun x => V x) (outs := fun x => []) (by kernel_rfl) (by kernel_rfl) rfl h

noncomputable def f76 (p1 : Int) : Pg Int :=
cl (f88.ok p1) fun y2 =>
.ret (y2)

theorem f76.ok (p1 : Int) {x} (h : (f76 p1).run = some x) : Spec Try.prog 76 [.pv (.int .u64 p1)] [] (V x) [] :=
  Prg.ok Try.func76 (res := fun x => V x) (outs := fun x => []) (by kernel_rfl) (by kernel_rfl) rfl h

noncomputable def f84 (p1 p2 : Int) : Pg Bool :=
cl (f77.ok p1) fun _ =>
brr (p1 != p1) (
cl (f77.ok p2) fun _ =>
.ret (((!(p2 != p2)) || (decide (p1 < p2))))) (
.ret ((decide (p1 < p2))))

theorem f84.ok (p1 p2 : Int) {x} (h : (f84 p1 p2).run = some x) : Spec Try.prog 84 [V p1, V p2] [] (V x) [] :=
  Prg.ok Try.func84 (res := fun x => V x) (outs := fun x => []) (by kernel_rfl) (by kernel_rfl) rfl h

noncomputable def f78v1.l1 (p1 p2 v28 : Int) (v40 : Int) (l41 : List Int) : Pg (Nx (Int × (List Int)) (Ex (List Int) Empty Empty)) :=
join1 (.reg 4) (
brr (decide (v40 > p1)) (
ck v40 (L l41) <|
rd l41 (at0 v40) fun a42 =>
ck (IntKind.i64.wrap (v40 - 1)) (L l41) <|
rd l41 (at0 (IntKind.i64.wrap (v40 - 1))) fun a43 =>
cl (f84.ok a42 a43) fun y44 =>
retA' y44) (
retA' false)) (.cut .nat fun x45 => ([(0, H Int 0), (1, V p1), (2, V p2), (6, V v28), (7, V v40), (30, V x45)], [(0, O l41)])) fun x45 =>
brr x45 (
ck (IntKind.i64.wrap (v40 - 1)) (L l41) <|
rd l41 (at0 (IntKind.i64.wrap (v40 - 1))) fun a46 =>
ck v40 (L l41) <|
rd l41 (at0 v40) fun a47 =>
ck v40 (L l41) <|
st l41 (at0 v40) (fun x48 => a46) fun l49 =>
ck (IntKind.i64.wrap (v40 - 1)) (L l49) <|
st l49 (at0 (IntKind.i64.wrap (v40 - 1))) (fun x50 => a47) fun l51 =>
cont ((IntKind.i64.wrap (v40 - 1)), l51)) (
doneA l41)

noncomputable def f78v1.l2 (p1 p2 : Int) (v28 : Int) (l29 : List Int) : Pg (Nx (Int × (List Int)) (Ex (List Int) Empty Empty)) :=
brr (decide (v28 < p2)) (
loop1 (v28, l29) (fun s52 => f78v1.l1 p1 p2 v28 s52.1 s52.2) (fun s52 => ([(0, H Int 0), (1, V p1), (2, V p2), (6, V v28), (7, V s52.1)], [(0, O s52.2)])) (.cut (.ext 2) fun x53 => ([(0, H Int 0), (1, V p1), (2, V p2), (6, V v28)], [(0, O x53)])) fun x53 =>
cont ((IntKind.i64.wrap (v28 + 1)), x53)) (
doneA (l29))

noncomputable def f78v1 (p1 p2 : Int) (p3 : List Int) : Pg (List Int) :=
loop1 ((IntKind.i64.wrap (p1 + 1)), p3) (fun s54 => f78v1.l2 p1 p2 s54.1 s54.2) (fun s54 => ([(0, H Int 0), (1, V p1), (2, V p2), (6, V s54.1)], [(0, O s54.2)])) .inl fun r55 =>
.ret r55

theorem f78v1.ok (p1 p2 : Int) (p3 : List Int) {x} (h : (f78v1 p1 p2 p3).run = some x) : Spec Try.prog 78 [H Int 0, V p1, V p2] [O p3] (.tup []) [O x] :=
  Prg.ok Try.func78 (res := fun x => .tup []) (outs := fun x => [O x]) (by kernel_rfl) (by kernel_rfl) rfl h

noncomputable def f89.l1 (p2 p3 : Int) (v20 : Int) (l21 : List Int) : Pg (Nx (Int × (List Int)) (Ex (List Int) Empty Empty)) :=
brr (decide ((IntKind.i64.wrap ((IntKind.i64.wrap (2 * v20)) + 1)) ≥ p2)) (
doneA (l21)) (
join1 (.reg 3) (
brr (decide ((IntKind.i64.wrap ((IntKind.i64.wrap ((IntKind.i64.wrap (2 * v20)) + 1)) + 1)) < p2)) (
ck (IntKind.i64.wrap (p3 + (IntKind.i64.wrap ((IntKind.i64.wrap (2 * v20)) + 1)))) (L l21) <|
rd l21 (at0 (IntKind.i64.wrap (p3 + (IntKind.i64.wrap ((IntKind.i64.wrap (2 * v20)) + 1))))) fun a22 =>
let e23 : Int := (IntKind.i64.wrap ((IntKind.i64.wrap (p3 + (IntKind.i64.wrap ((IntKind.i64.wrap (2 * v20)) + 1)))) + 1))
ck e23 (L l21) <|
rd l21 (at0 e23) fun a24 =>
cl (f84.ok a22 a24) fun y25 =>
retA' y25) (
retA' false)) (.cut .nat fun x26 => ([(0, H Int 0), (2, V p2), (3, V p3), (8, V v20), (9, V (IntKind.i64.wrap ((IntKind.i64.wrap (2 * v20)) + 1))), (36, V x26)], [(0, O l21)])) fun x26 =>
join1 (.cond 36) (
brr x26 (
retA' (IntKind.i64.wrap ((IntKind.i64.wrap ((IntKind.i64.wrap (2 * v20)) + 1)) + 1))) (
retA' (IntKind.i64.wrap ((IntKind.i64.wrap (2 * v20)) + 1)))) (.cut .nat fun x27 => ([(0, H Int 0), (2, V p2), (3, V p3), (8, V v20), (9, V x27)], [(0, O l21)])) fun x27 =>
ck (IntKind.i64.wrap (p3 + v20)) (L l21) <|
rd l21 (at0 (IntKind.i64.wrap (p3 + v20))) fun a28 =>
ck (IntKind.i64.wrap (p3 + x27)) (L l21) <|
rd l21 (at0 (IntKind.i64.wrap (p3 + x27))) fun a29 =>
cl (f84.ok a28 a29) fun y30 =>
brr (!y30) (
doneA (l21)) (
ck (IntKind.i64.wrap (p3 + x27)) (L l21) <|
rd l21 (at0 (IntKind.i64.wrap (p3 + x27))) fun a31 =>
ck (IntKind.i64.wrap (p3 + v20)) (L l21) <|
rd l21 (at0 (IntKind.i64.wrap (p3 + v20))) fun a32 =>
ck (IntKind.i64.wrap (p3 + v20)) (L l21) <|
st l21 (at0 (IntKind.i64.wrap (p3 + v20))) (fun x33 => a31) fun l34 =>
ck (IntKind.i64.wrap (p3 + x27)) (L l34) <|
st l34 (at0 (IntKind.i64.wrap (p3 + x27))) (fun x35 => a32) fun l36 =>
cont (x27, l36)))

noncomputable def f89 (p1 p2 p3 : Int) (p4 : List Int) : Pg (List Int) :=
loop1 (p1, p4) (fun s37 => f89.l1 p2 p3 s37.1 s37.2) (fun s37 => ([(0, H Int 0), (2, V p2), (3, V p3), (8, V s37.1)], [(0, O s37.2)])) .inl fun r38 =>
.ret r38

theorem f89.ok (p1 p2 p3 : Int) (p4 : List Int) {x} (h : (f89 p1 p2 p3 p4).run = some x) : Spec Try.prog 89 [H Int 0, V p1, V p2, V p3] [O p4] (.tup []) [O x] :=
  Prg.ok Try.func89 (res := fun x => .tup []) (outs := fun x => [O x]) (by kernel_rfl) (by kernel_rfl) rfl h

noncomputable def f79.l2 (p1 : Int) (v18 : Int) (l19 : List Int) : Pg (Nx (Int × (List Int)) (Ex (List Int) Empty Empty)) :=
brr (decide (v18 ≥ 0)) (
ck (IntKind.i64.wrap (p1 + v18)) (L l19) <|
rd l19 (at0 (IntKind.i64.wrap (p1 + v18))) fun a20 =>
ck p1 (L l19) <|
rd l19 (at0 p1) fun a21 =>
ck p1 (L l19) <|
st l19 (at0 p1) (fun x22 => a20) fun l23 =>
ck (IntKind.i64.wrap (p1 + v18)) (L l23) <|
st l23 (at0 (IntKind.i64.wrap (p1 + v18))) (fun x24 => a21) fun l25 =>
cl (f89.ok (0 : Int) v18 p1 l25) fun y26 =>
cont ((IntKind.i64.wrap (v18 - 1)), y26)) (
doneA (l19))

noncomputable def f79.l1 (p1 p2 : Int) (v6 : Int) (l7 : List Int) : Pg (Nx (Int × (List Int)) (Ex (List Int) Empty Empty)) :=
brr (decide (v6 ≥ 0)) (
cl (f89.ok v6 (IntKind.i64.wrap (p2 - p1)) p1 l7) fun y8 =>
cont ((IntKind.i64.wrap (v6 - 1)), y8)) (
doneA l7)

noncomputable def f79 (p1 p2 : Int) (p3 : List Int) : Pg (List Int) :=
loop1 ((IntKind.i64.wrap ((IntKind.i64.wrap ((IntKind.i64.wrap (p2 - p1)) - 1)).tdiv 2)), p3) (fun s9 => f79.l1 p1 p2 s9.1 s9.2) (fun s9 => ([(0, H Int 0), (6, V p1), (7, V (0 : Int)), (8, V (IntKind.i64.wrap (p2 - p1))), (9, V s9.1)], [(0, O s9.2)])) (.cut (.ext 0) fun x10 => ([(0, H Int 0), (6, V p1), (7, V (0 : Int)), (8, V (IntKind.i64.wrap (p2 - p1)))], [(0, O x10)])) fun x10 =>
loop1 ((IntKind.i64.wrap ((IntKind.i64.wrap (p2 - p1)) - 1)), x10) (fun s27 => f79.l2 p1 s27.1 s27.2) (fun s27 => ([(0, H Int 0), (6, V p1), (7, V (0 : Int)), (10, V s27.1)], [(0, O s27.2)])) .inl fun r28 =>
.ret r28

theorem f79.ok (p1 p2 : Int) (p3 : List Int) {x} (h : (f79 p1 p2 p3).run = some x) : Spec Try.prog 79 [H Int 0, V p1, V p2] [O p3] (.tup []) [O x] :=
  Prg.ok Try.func79 (res := fun x => .tup []) (outs := fun x => [O x]) (by kernel_rfl) (by kernel_rfl) rfl h

noncomputable def f90 (p1 : Int) : Pg Int :=
cl (f76.ok (IntKind.u64.wrap p1)) fun y2 =>
nnS y2 <|
.ret ((IntKind.u64.wrap (1 * (2 ^ (min (y2 : Int).toNat IntKind.u64.bits)))))

theorem f90.ok (p1 : Int) {x} (h : (f90 p1).run = some x) : Spec Try.prog 90 [V p1] [] (.pv (.int .u64 x)) [] :=
  Prg.ok Try.func90 (res := fun x => .pv (.int .u64 x)) (outs := fun x => []) (by kernel_rfl) (by kernel_rfl) rfl h

noncomputable def f91 (p1 : Int) : Pg (Int × Int) :=
let e2 : Int := ((xorI .u64 p1 (IntKind.u64.wrap (p1 * (2 ^ (min (13 : Int).toNat IntKind.u64.bits))))).fdiv (2 ^ (min (7 : Int).toNat IntKind.u64.bits)))
let e3 : Int := (xorI .u64 (xorI .u64 p1 (IntKind.u64.wrap (p1 * (2 ^ (min (13 : Int).toNat IntKind.u64.bits))))) e2)
.ret (((xorI .u64 e3 (IntKind.u64.wrap (e3 * (2 ^ (min (17 : Int).toNat IntKind.u64.bits))))), (xorI .u64 e3 (IntKind.u64.wrap (e3 * (2 ^ (min (17 : Int).toNat IntKind.u64.bits)))))))

theorem f91.ok (p1 : Int) {x} (h : (f91 p1).run = some x) : Spec Try.prog 91 [R 0] [mkVar (.pv (.int .u64 p1))] (.pv (.int .u64 x.1)) [mkVar (.pv (.int .u64 x.2))] :=
  Prg.ok Try.func91 (res := fun x => .pv (.int .u64 x.1)) (outs := fun x => [mkVar (.pv (.int .u64 x.2))]) (by kernel_rfl) (by kernel_rfl) rfl h

noncomputable def f80.l1 (p1 p2 y4 : Int) (v17 : Int) (l18 : List Int) (l19 : Int) : Pg (Nx (Int × (List Int) × Int) (Ex (List Int) Empty Empty)) :=
let e20 : Int := (IntKind.i64.wrap (p1 + (IntKind.i64.wrap ((IntKind.i64.wrap ((IntKind.i64.wrap (p2 - p1)).tdiv 4)) * 2))))
brr (decide (v17 ≤ (IntKind.i64.wrap (e20 + 1)))) (
cl (f91.ok l19) fun y21 =>
let e22 : Bool := (decide ((IntKind.i64.wrap (andI .u64 y21.1 (IntKind.u64.wrap (y4 - 1)))) ≥ (IntKind.i64.wrap (p2 - p1))))
join1 (.cond 43) (
brr e22 (
let e23 : Int := (IntKind.i64.wrap ((IntKind.i64.wrap (andI .u64 y21.1 (IntKind.u64.wrap (y4 - 1)))) - (IntKind.i64.wrap (p2 - p1))))
retA' e23) (
retA' (IntKind.i64.wrap (andI .u64 y21.1 (IntKind.u64.wrap (y4 - 1)))))) (.cut .nat fun x24 => ([(0, H Int 0), (1, V p1), (6, V (IntKind.i64.wrap (p2 - p1))), (7, R 101), (8, .pv (.int .u64 y4)), (9, V v17), (10, V x24)], [(0, O l18), (101, mkVar (.pv (.int .u64 y21.2)))])) fun x24 =>
ck (IntKind.i64.wrap (p1 + x24)) (L l18) <|
rd l18 (at0 (IntKind.i64.wrap (p1 + x24))) fun a25 =>
ck v17 (L l18) <|
rd l18 (at0 v17) fun a26 =>
ck v17 (L l18) <|
st l18 (at0 v17) (fun x27 => a25) fun l28 =>
ck (IntKind.i64.wrap (p1 + x24)) (L l28) <|
st l28 (at0 (IntKind.i64.wrap (p1 + x24))) (fun x29 => a26) fun l30 =>
cont ((IntKind.i64.wrap (v17 + 1)), l30, y21.2)) (
doneA (l18))

noncomputable def f80 (p1 p2 : Int) (p3 : List Int) : Pg (List Int) :=
brr (decide ((IntKind.i64.wrap (p2 - p1)) ≥ 8)) (
cl (f90.ok (IntKind.i64.wrap (p2 - p1))) fun y4 =>
let e5 : Int := (IntKind.i64.wrap (p1 + (IntKind.i64.wrap ((IntKind.i64.wrap ((IntKind.i64.wrap (p2 - p1)).tdiv 4)) * 2))))
loop1 ((IntKind.i64.wrap (e5 - 1)), p3, (IntKind.u64.wrap (IntKind.i64.wrap (p2 - p1)))) (fun s31 => f80.l1 p1 p2 y4 s31.1 s31.2.1 s31.2.2) (fun s31 => ([(0, H Int 0), (1, V p1), (6, V (IntKind.i64.wrap (p2 - p1))), (7, R 101), (8, .pv (.int .u64 y4)), (9, V s31.1)], [(0, O s31.2.1), (101, mkVar (.pv (.int .u64 s31.2.2)))])) .inl fun r32 =>
.ret r32) (
.ret (p3))

theorem f80.ok (p1 p2 : Int) (p3 : List Int) {x} (h : (f80 p1 p2 p3).run = some x) : Spec Try.prog 80 [H Int 0, V p1, V p2] [O p3] (.tup []) [O x] :=
  Prg.ok Try.func80 (res := fun x => .tup []) (outs := fun x => [O x]) (by kernel_rfl) (by kernel_rfl) rfl h

noncomputable def f94 (p1 p2 : Int) (p3 : List Int) (p4 : Int) : Pg (Int × Int × Int) :=
ck p2 (L p3) <|
rd p3 (at0 p2) fun a5 =>
ck p1 (L p3) <|
rd p3 (at0 p1) fun a6 =>
cl (f84.ok a5 a6) fun y7 =>
brr y7 (
.ret ((p2, p1, (IntKind.i64.wrap (p4 + 1))))) (
.ret ((p1, p2, p4)))

theorem f94.ok (p1 p2 : Int) (p3 : List Int) (p4 : Int) {x} (h : (f94 p1 p2 p3 p4).run = some x) : Spec Try.prog 94 [H Int 0, V p1, V p2, R 2] [O p3, B p4] (.tup [V x.1, V x.2.1]) [O p3, B x.2.2] :=
  Prg.ok Try.func94 (res := fun x => .tup [V x.1, V x.2.1]) (outs := fun x => [O p3, B x.2.2]) (by kernel_rfl) (by kernel_rfl) rfl h

noncomputable def f93 (p1 p2 p3 : Int) (p4 : List Int) (p5 : Int) : Pg (Int × Int) :=
cl (f94.ok p1 p2 p4 p5) fun y6 =>
cl (f94.ok y6.2.1 p3 p4 y6.2.2) fun y7 =>
cl (f94.ok y6.1 y7.1 p4 y7.2.2) fun y8 =>
.ret ((y8.2.1, y8.2.2))

theorem f93.ok (p1 p2 p3 : Int) (p4 : List Int) (p5 : Int) {x} (h : (f93 p1 p2 p3 p4 p5).run = some x) : Spec Try.prog 93 [H Int 0, V p1, V p2, V p3, R 2] [O p4, B p5] (V x.1) [O p4, B x.2] :=
  Prg.ok Try.func93 (res := fun x => V x.1) (outs := fun x => [O p4, B x.2]) (by kernel_rfl) (by kernel_rfl) rfl h

noncomputable def f92 (p1 : Int) (p2 : List Int) (p3 : Int) : Pg (Int × Int) :=
cl (f93.ok (IntKind.i64.wrap (p1 - 1)) p1 (IntKind.i64.wrap (p1 + 1)) p2 p3) fun y4 =>
.ret ((y4.1, y4.2))

theorem f92.ok (p1 : Int) (p2 : List Int) (p3 : Int) {x} (h : (f92 p1 p2 p3).run = some x) : Spec Try.prog 92 [H Int 0, V p1, R 2] [O p2, B p3] (V x.1) [O p2, B x.2] :=
  Prg.ok Try.func92 (res := fun x => V x.1) (outs := fun x => [O p2, B x.2]) (by kernel_rfl) (by kernel_rfl) rfl h

noncomputable def f81 (p1 p2 : Int) (p3 : List Int) : Pg (Int × Int) :=
let e4 : Int := (IntKind.i64.wrap (p1 + (IntKind.i64.wrap ((IntKind.i64.wrap ((IntKind.i64.wrap (p2 - p1)).tdiv 4)) * 1))))
let e5 : Int := (IntKind.i64.wrap (p1 + (IntKind.i64.wrap ((IntKind.i64.wrap ((IntKind.i64.wrap (p2 - p1)).tdiv 4)) * 2))))
let e6 : Int := (IntKind.i64.wrap (p1 + (IntKind.i64.wrap ((IntKind.i64.wrap ((IntKind.i64.wrap (p2 - p1)).tdiv 4)) * 3))))
join1 (.cond 32) (
brr (decide ((IntKind.i64.wrap (p2 - p1)) ≥ 8)) (
join1 (.cond 34) (
brr (decide ((IntKind.i64.wrap (p2 - p1)) ≥ 50)) (
cl (f92.ok e4 p3 (0 : Int)) fun y7 =>
cl (f92.ok e5 p3 y7.2) fun y8 =>
cl (f92.ok e6 p3 y8.2) fun y9 =>
retA' (y7.1, y8.1, y9.1, y9.2)) (
retA' (e4, e5, e6, (0 : Int)))) (.cut .nat fun x10 => ([(0, H Int 0), (9, R 101), (10, V x10.1), (11, V x10.2.1), (12, V x10.2.2.1)], [(0, O p3), (101, B x10.2.2.2)])) fun x10 =>
cl (f93.ok x10.1 x10.2.1 x10.2.2.1 p3 x10.2.2.2) fun y11 =>
retA' (y11.1, y11.2)) (
retA' (e5, (0 : Int)))) (.cut .nat fun x12 => ([(9, R 101), (11, V x12.1)], [(0, O p3), (101, B x12.2)])) fun x12 =>
brr (x12.2 == 0) (
.ret ((x12.1, (1 : Int)))) (
brr (x12.2 == 12) (
.ret ((x12.1, (2 : Int)))) (
.ret ((x12.1, (0 : Int)))))

theorem f81.ok (p1 p2 : Int) (p3 : List Int) {x} (h : (f81 p1 p2 p3).run = some x) : Spec Try.prog 81 [H Int 0, V p1, V p2] [O p3] (.tup [V x.1, V x.2]) [O p3] :=
  Prg.ok Try.func81 (res := fun x => .tup [V x.1, V x.2]) (outs := fun x => [O p3]) (by kernel_rfl) (by kernel_rfl) rfl h

noncomputable def f82.l1 (v10 v11 : Int) (l12 : List Int) : Pg (Nx (Int × Int × (List Int)) (Ex (List Int) Empty Empty)) :=
brr (decide (v10 < v11)) (
ck v11 (L l12) <|
rd l12 (at0 v11) fun a13 =>
ck v10 (L l12) <|
rd l12 (at0 v10) fun a14 =>
ck v10 (L l12) <|
st l12 (at0 v10) (fun x15 => a13) fun l16 =>
ck v11 (L l16) <|
st l16 (at0 v11) (fun x17 => a14) fun l18 =>
cont ((IntKind.i64.wrap (v10 + 1)), (IntKind.i64.wrap (v11 - 1)), l18)) (
doneA (l12))

noncomputable def f82 (p1 p2 : Int) (p3 : List Int) : Pg (List Int) :=
loop1 (p1, (IntKind.i64.wrap (p2 - 1)), p3) (fun s19 => f82.l1 s19.1 s19.2.1 s19.2.2) (fun s19 => ([(0, H Int 0), (6, V s19.1), (7, V s19.2.1)], [(0, O s19.2.2)])) .inl fun r20 =>
.ret r20

theorem f82.ok (p1 p2 : Int) (p3 : List Int) {x} (h : (f82 p1 p2 p3).run = some x) : Spec Try.prog 82 [H Int 0, V p1, V p2] [O p3] (.tup []) [O x] :=
  Prg.ok Try.func82 (res := fun x => .tup []) (outs := fun x => [O x]) (by kernel_rfl) (by kernel_rfl) rfl h

noncomputable def f83.l2 (v91 : Int) (l92 : List Int) : Pg (Nx (Int × (List Int)) (Ex (List Int) Empty Empty)) :=
brr (decide (v91 ≥ 1)) (
ck v91 (L l92) <|
rd l92 (at0 v91) fun a93 =>
ck (IntKind.i64.wrap (v91 - 1)) (L l92) <|
rd l92 (at0 (IntKind.i64.wrap (v91 - 1))) fun a94 =>
cl (f84.ok a93 a94) fun y95 =>
brr (!y95) (
doneA l92) (
ck (IntKind.i64.wrap (v91 - 1)) (L l92) <|
rd l92 (at0 (IntKind.i64.wrap (v91 - 1))) fun a96 =>
ck v91 (L l92) <|
rd l92 (at0 v91) fun a97 =>
ck v91 (L l92) <|
st l92 (at0 v91) (fun x98 => a96) fun l99 =>
ck (IntKind.i64.wrap (v91 - 1)) (L l99) <|
st l99 (at0 (IntKind.i64.wrap (v91 - 1))) (fun x100 => a97) fun l101 =>
cont ((IntKind.i64.wrap (v91 - 1)), l101))) (
doneA l92)

noncomputable def f83.l3 (p2 : Int) (v114 : Int) (l115 : List Int) : Pg (Nx (Int × (List Int)) (Ex (List Int) Empty Empty)) :=
brr (decide (v114 < p2)) (
ck v114 (L l115) <|
rd l115 (at0 v114) fun a116 =>
ck (IntKind.i64.wrap (v114 - 1)) (L l115) <|
rd l115 (at0 (IntKind.i64.wrap (v114 - 1))) fun a117 =>
cl (f84.ok a116 a117) fun y118 =>
brr (!y118) (
doneA l115) (
ck (IntKind.i64.wrap (v114 - 1)) (L l115) <|
rd l115 (at0 (IntKind.i64.wrap (v114 - 1))) fun a119 =>
ck v114 (L l115) <|
rd l115 (at0 v114) fun a120 =>
ck v114 (L l115) <|
st l115 (at0 v114) (fun x121 => a119) fun l122 =>
ck (IntKind.i64.wrap (v114 - 1)) (L l122) <|
st l122 (at0 (IntKind.i64.wrap (v114 - 1))) (fun x123 => a120) fun l124 =>
cont ((IntKind.i64.wrap (v114 + 1)), l124))) (
doneA l115)

noncomputable def f83.l1 (p2 : Int) (l66 : List Int) (v70 : Int) : Pg (Nx Int (Ex Int Empty Empty)) :=
brr (decide (v70 < p2)) (
ck v70 (L l66) <|
rd l66 (at0 v70) fun a71 =>
ck (IntKind.i64.wrap (v70 - 1)) (L l66) <|
rd l66 (at0 (IntKind.i64.wrap (v70 - 1))) fun a72 =>
cl (f84.ok a71 a72) fun y73 =>
brr (!y73) (
cont (IntKind.i64.wrap (v70 + 1))) (
doneA v70)) (
doneA v70)

noncomputable def f83.l4 (p1 p2 : Int) (v64 v65 : Int) (l66 : List Int) : Pg (Nx (Int × Int × (List Int)) (Ex (Bool × (List Int)) (List Int) Empty)) :=
brr (decide (v65 < 5)) (
loop1 v64 (fun s74 => f83.l1 p2 l66 s74) (fun s74 => ([(0, H Int 0), (1, V p1), (2, V p2), (7, V s74), (8, V v65)], [(0, O l66)])) (.cut (.ext 2) fun x75 => ([(0, H Int 0), (1, V p1), (2, V p2), (7, V x75), (8, V v65)], [(0, O l66)])) fun x75 =>
brr (x75 == p2) (
doneA ((true, l66))) (
brr (decide ((IntKind.i64.wrap (p2 - p1)) < 50)) (
doneA ((false, l66))) (
ck (IntKind.i64.wrap (x75 - 1)) (L l66) <|
rd l66 (at0 (IntKind.i64.wrap (x75 - 1))) fun a76 =>
ck x75 (L l66) <|
rd l66 (at0 x75) fun a77 =>
ck x75 (L l66) <|
st l66 (at0 x75) (fun x78 => a76) fun l79 =>
ck (IntKind.i64.wrap (x75 - 1)) (L l79) <|
st l79 (at0 (IntKind.i64.wrap (x75 - 1))) (fun x80 => a77) fun l81 =>
join1 (.cond 61) (
brr (decide ((IntKind.i64.wrap (x75 - p1)) ≥ 2)) (
loop1 ((IntKind.i64.wrap (x75 - 1)), l81) (fun s102 => f83.l2 s102.1 s102.2) (fun s102 => ([(0, H Int 0), (1, V p1), (2, V p2), (7, V x75), (8, V v65), (9, V s102.1)], [(0, O s102.2)])) (.cut (.ext 4) fun x103 => ([(0, H Int 0), (1, V p1), (2, V p2), (7, V x75), (8, V v65)], [(0, O x103)])) fun x103 =>
retA' x103) (
retA' l81)) (.cut .nat fun x104 => ([(0, H Int 0), (1, V p1), (2, V p2), (7, V x75), (8, V v65)], [(0, O x104)])) fun x104 =>
brr (decide ((IntKind.i64.wrap (p2 - x75)) ≥ 2)) (
loop1 ((IntKind.i64.wrap (x75 + 1)), x104) (fun s125 => f83.l3 p2 s125.1 s125.2) (fun s125 => ([(0, H Int 0), (1, V p1), (2, V p2), (7, V x75), (8, V v65), (10, V s125.1)], [(0, O s125.2)])) (.cut (.ext 6) fun x126 => ([(0, H Int 0), (1, V p1), (2, V p2), (7, V x75), (8, V v65)], [(0, O x126)])) fun x126 =>
cont (x75, (IntKind.i64.wrap (v65 + 1)), x126)) (
cont (x75, (IntKind.i64.wrap (v65 + 1)), x104))))) (
doneB l66)

noncomputable def f83 (p1 p2 : Int) (p3 : List Int) : Pg (Bool × (List Int)) :=
loop2 ((IntKind.i64.wrap (p1 + 1)), (0 : Int), p3) (fun s127 => f83.l4 p1 p2 s127.1 s127.2.1 s127.2.2) (fun s127 => ([(0, H Int 0), (1, V p1), (2, V p2), (7, V s127.1), (8, V s127.2.1)], [(0, O s127.2.2)])) .inl (fun r128 =>
.ret r128) (.cut (.ext 0) fun x129 => ([], [(0, O x129)])) fun x129 =>
.ret ((false, x129))

theorem f83.ok (p1 p2 : Int) (p3 : List Int) {x} (h : (f83 p1 p2 p3).run = some x) : Spec Try.prog 83 [H Int 0, V p1, V p2] [O p3] (V x.1) [O x.2] :=
  Prg.ok Try.func83 (res := fun x => V x.1) (outs := fun x => [O x.2]) (by kernel_rfl) (by kernel_rfl) rfl h

noncomputable def f85.l2 (p1 : Int) (l37 : List Int) (x46 : Int) (v50 : Int) : Pg (Nx Int (Ex Int Empty Empty)) :=
brr (decide (x46 ≤ v50)) (
ck p1 (L l37) <|
rd l37 (at0 p1) fun a51 =>
ck v50 (L l37) <|
rd l37 (at0 v50) fun a52 =>
cl (f84.ok a51 a52) fun y53 =>
brr y53 (
cont (IntKind.i64.wrap (v50 - 1))) (
doneA v50)) (
doneA v50)

noncomputable def f85.l1 (p1 v36 : Int) (l37 : List Int) (v41 : Int) : Pg (Nx Int (Ex Int Empty Empty)) :=
brr (decide (v41 ≤ v36)) (
ck p1 (L l37) <|
rd l37 (at0 p1) fun a42 =>
ck v41 (L l37) <|
rd l37 (at0 v41) fun a43 =>
cl (f84.ok a42 a43) fun y44 =>
brr (!y44) (
cont (IntKind.i64.wrap (v41 + 1))) (
doneA v41)) (
doneA v41)

noncomputable def f85.l3 (p1 : Int) (v35 v36 : Int) (l37 : List Int) : Pg (Nx (Int × Int × (List Int)) (Ex (Int × (List Int)) Empty Empty)) :=
loop1 v35 (fun s45 => f85.l1 p1 v36 l37 s45) (fun s45 => ([(0, H Int 0), (1, V p1), (9, V s45), (10, V v36)], [(0, O l37)])) (.cut (.ext 2) fun x46 => ([(0, H Int 0), (1, V p1), (9, V x46), (10, V v36)], [(0, O l37)])) fun x46 =>
loop1 v36 (fun s54 => f85.l2 p1 l37 x46 s54) (fun s54 => ([(0, H Int 0), (1, V p1), (9, V x46), (10, V s54)], [(0, O l37)])) (.cut (.ext 4) fun x55 => ([(0, H Int 0), (1, V p1), (9, V x46), (10, V x55)], [(0, O l37)])) fun x55 =>
brr (decide (x46 > x55)) (
doneA (x46, l37)) (
ck x55 (L l37) <|
rd l37 (at0 x55) fun a56 =>
ck x46 (L l37) <|
rd l37 (at0 x46) fun a57 =>
ck x46 (L l37) <|
st l37 (at0 x46) (fun x58 => a56) fun l59 =>
ck x55 (L l59) <|
st l59 (at0 x55) (fun x60 => a57) fun l61 =>
cont ((IntKind.i64.wrap (x46 + 1)), (IntKind.i64.wrap (x55 - 1)), l61))

noncomputable def f85 (p1 p2 p3 : Int) (p4 : List Int) : Pg (Int × (List Int)) :=
ck p3 (L p4) <|
rd p4 (at0 p3) fun a5 =>
ck p1 (L p4) <|
rd p4 (at0 p1) fun a6 =>
ck p1 (L p4) <|
st p4 (at0 p1) (fun x7 => a5) fun l8 =>
ck p3 (L l8) <|
st l8 (at0 p3) (fun x9 => a6) fun l10 =>
loop1 ((IntKind.i64.wrap (p1 + 1)), (IntKind.i64.wrap (p2 - 1)), l10) (fun s62 => f85.l3 p1 s62.1 s62.2.1 s62.2.2) (fun s62 => ([(0, H Int 0), (1, V p1), (9, V s62.1), (10, V s62.2.1)], [(0, O s62.2.2)])) (.cut (.ext 0) fun x63 => ([(9, V x63.1)], [(0, O x63.2)])) fun x63 =>
.ret ((x63.1, x63.2))

theorem f85.ok (p1 p2 p3 : Int) (p4 : List Int) {x} (h : (f85 p1 p2 p3 p4).run = some x) : Spec Try.prog 85 [H Int 0, V p1, V p2, V p3] [O p4] (V x.1) [O x.2] :=
  Prg.ok Try.func85 (res := fun x => V x.1) (outs := fun x => [O x.2]) (by kernel_rfl) (by kernel_rfl) rfl h

noncomputable def f86.l4 (p1 : Int) (l67 : List Int) (x76 : Int) (v80 : Int) : Pg (Nx Int (Ex Int Empty Empty)) :=
brr (decide (x76 ≤ v80)) (
ck v80 (L l67) <|
rd l67 (at0 v80) fun a81 =>
ck p1 (L l67) <|
rd l67 (at0 p1) fun a82 =>
cl (f84.ok a81 a82) fun y83 =>
brr (!y83) (
cont (IntKind.i64.wrap (v80 - 1))) (
doneA v80)) (
doneA v80)

noncomputable def f86.l3 (p1 v66 : Int) (l67 : List Int) (v71 : Int) : Pg (Nx Int (Ex Int Empty Empty)) :=
brr (decide (v71 ≤ v66)) (
ck v71 (L l67) <|
rd l67 (at0 v71) fun a72 =>
ck p1 (L l67) <|
rd l67 (at0 p1) fun a73 =>
cl (f84.ok a72 a73) fun y74 =>
brr y74 (
cont (IntKind.i64.wrap (v71 + 1))) (
doneA v71)) (
doneA v71)

noncomputable def f86.l5 (p1 : Int) (v65 v66 : Int) (l67 : List Int) : Pg (Nx (Int × Int × (List Int)) (Ex (Int × (List Int)) Empty Empty)) :=
loop1 v65 (fun s75 => f86.l3 p1 v66 l67 s75) (fun s75 => ([(0, H Int 0), (1, V p1), (10, V s75), (11, V v66)], [(0, O l67)])) (.cut (.ext 6) fun x76 => ([(0, H Int 0), (1, V p1), (10, V x76), (11, V v66)], [(0, O l67)])) fun x76 =>
loop1 v66 (fun s84 => f86.l4 p1 l67 x76 s84) (fun s84 => ([(0, H Int 0), (1, V p1), (10, V x76), (11, V s84)], [(0, O l67)])) (.cut (.ext 8) fun x85 => ([(0, H Int 0), (1, V p1), (10, V x76), (11, V x85)], [(0, O l67)])) fun x85 =>
brr (decide (x76 > x85)) (
doneA (x85, l67)) (
ck x85 (L l67) <|
rd l67 (at0 x85) fun a86 =>
ck x76 (L l67) <|
rd l67 (at0 x76) fun a87 =>
ck x76 (L l67) <|
st l67 (at0 x76) (fun x88 => a86) fun l89 =>
ck x85 (L l89) <|
st l89 (at0 x85) (fun x90 => a87) fun l91 =>
cont ((IntKind.i64.wrap (x76 + 1)), (IntKind.i64.wrap (x85 - 1)), l91))

noncomputable def f86.l2 (p1 : Int) (l10 : List Int) (x19 : Int) (v23 : Int) : Pg (Nx Int (Ex Int Empty Empty)) :=
brr (decide (x19 ≤ v23)) (
ck v23 (L l10) <|
rd l10 (at0 v23) fun a24 =>
ck p1 (L l10) <|
rd l10 (at0 p1) fun a25 =>
cl (f84.ok a24 a25) fun y26 =>
brr (!y26) (
cont (IntKind.i64.wrap (v23 - 1))) (
doneA v23)) (
doneA v23)

noncomputable def f86.l1 (p1 p2 : Int) (l10 : List Int) (v14 : Int) : Pg (Nx Int (Ex Int Empty Empty)) :=
brr (decide (v14 ≤ (IntKind.i64.wrap (p2 - 1)))) (
ck v14 (L l10) <|
rd l10 (at0 v14) fun a15 =>
ck p1 (L l10) <|
rd l10 (at0 p1) fun a16 =>
cl (f84.ok a15 a16) fun y17 =>
brr y17 (
cont (IntKind.i64.wrap (v14 + 1))) (
doneA v14)) (
doneA v14)

noncomputable def f86 (p1 p2 p3 : Int) (p4 : List Int) : Pg (Int × Bool × (List Int)) :=
ck p3 (L p4) <|
rd p4 (at0 p3) fun a5 =>
ck p1 (L p4) <|
rd p4 (at0 p1) fun a6 =>
ck p1 (L p4) <|
st p4 (at0 p1) (fun x7 => a5) fun l8 =>
ck p3 (L l8) <|
st l8 (at0 p3) (fun x9 => a6) fun l10 =>
loop1 (IntKind.i64.wrap (p1 + 1)) (fun s18 => f86.l1 p1 p2 l10 s18) (fun s18 => ([(0, H Int 0), (1, V p1), (10, V s18), (11, V (IntKind.i64.wrap (p2 - 1)))], [(0, O l10)])) (.cut (.ext 0) fun x19 => ([(0, H Int 0), (1, V p1), (10, V x19), (11, V (IntKind.i64.wrap (p2 - 1)))], [(0, O l10)])) fun x19 =>
loop1 (IntKind.i64.wrap (p2 - 1)) (fun s27 => f86.l2 p1 l10 x19 s27) (fun s27 => ([(0, H Int 0), (1, V p1), (10, V x19), (11, V s27)], [(0, O l10)])) (.cut (.ext 2) fun x28 => ([(0, H Int 0), (1, V p1), (10, V x19), (11, V x28)], [(0, O l10)])) fun x28 =>
brr (decide (x19 > x28)) (
ck p1 (L l10) <|
rd l10 (at0 p1) fun a29 =>
ck x28 (L l10) <|
rd l10 (at0 x28) fun a30 =>
ck x28 (L l10) <|
st l10 (at0 x28) (fun x31 => a29) fun l32 =>
ck p1 (L l32) <|
st l32 (at0 p1) (fun x33 => a30) fun l34 =>
.ret ((x28, true, l34))) (
ck x28 (L l10) <|
rd l10 (at0 x28) fun a35 =>
ck x19 (L l10) <|
rd l10 (at0 x19) fun a36 =>
ck x19 (L l10) <|
st l10 (at0 x19) (fun x37 => a35) fun l38 =>
ck x28 (L l38) <|
st l38 (at0 x28) (fun x39 => a36) fun l40 =>
loop1 ((IntKind.i64.wrap (x19 + 1)), (IntKind.i64.wrap (x28 - 1)), l40) (fun s92 => f86.l5 p1 s92.1 s92.2.1 s92.2.2) (fun s92 => ([(0, H Int 0), (1, V p1), (10, V s92.1), (11, V s92.2.1)], [(0, O s92.2.2)])) (.cut (.ext 4) fun x93 => ([(0, H Int 0), (1, V p1), (11, V x93.1)], [(0, O x93.2)])) fun x93 =>
ck p1 (L x93.2) <|
rd x93.2 (at0 p1) fun a94 =>
ck x93.1 (L x93.2) <|
rd x93.2 (at0 x93.1) fun a95 =>
ck x93.1 (L x93.2) <|
st x93.2 (at0 x93.1) (fun x96 => a94) fun l97 =>
ck p1 (L l97) <|
st l97 (at0 p1) (fun x98 => a95) fun l99 =>
.ret ((x93.1, false, l99)))

theorem f86.ok (p1 p2 p3 : Int) (p4 : List Int) {x} (h : (f86 p1 p2 p3 p4).run = some x) : Spec Try.prog 86 [H Int 0, V p1, V p2, V p3] [O p4] (.tup [V x.1, V x.2.1]) [O x.2.2] :=
  Prg.ok Try.func86 (res := fun x => .tup [V x.1, V x.2.1]) (outs := fun x => [O x.2.2]) (by kernel_rfl) (by kernel_rfl) rfl h

noncomputable def f75v1.l1 (self : Int → Int → Int → (List Int) → Option (List Int)) (hself : ∀ (p1 p2 p3 : Int) (p4 : List Int) {x : List Int}, self p1 p2 p3 p4 = some x → Spec Try.prog 75 [H Int 0, V p1, V p2, V p3] [O p4] (.tup []) [O x]) (v25 v26 v27 : Int) (v28 v29 : Bool) (l30 : List Int) : Pg (Nx (Int × Int × Int × Bool × Bool × (List Int)) (Ex (List Int) Empty Empty)) :=
brr (decide ((IntKind.i64.wrap (v26 - v25)) ≤ 12)) (
cl (f78v1.ok v25 v26 l30) fun y31 =>
doneA (y31)) (
brr (v27 == 0) (
cl (f79.ok v25 v26 l30) fun y32 =>
doneA (y32)) (
join1 (.cond 35) (
brr (!v28) (
cl (f80.ok v25 v26 l30) fun y33 =>
retA' ((IntKind.i64.wrap (v27 - 1)), y33)) (
retA' (v27, l30))) (.cut .nat fun x34 => ([(0, H Int 0), (1, V v25), (2, V v26), (3, V x34.1), (8, V v28), (9, V v29), (10, V (IntKind.i64.wrap (v26 - v25)))], [(0, O x34.2)])) fun x34 =>
cl (f81.ok v25 v26 x34.2) fun y35 =>
join1 (.cond 50) (
brr (y35.2 == 2) (
cl (f82.ok v25 v26 x34.2) fun y36 =>
retA' ((IntKind.i64.wrap ((IntKind.i64.wrap (v26 - 1)) - (IntKind.i64.wrap (y35.1 - v25)))), (1 : Int), y36)) (
retA' (y35.1, y35.2, x34.2))) (.cut .nat fun x37 => ([(0, H Int 0), (1, V v25), (2, V v26), (3, V x34.1), (8, V v28), (9, V v29), (10, V (IntKind.i64.wrap (v26 - v25))), (11, V x37.1), (12, V x37.2.1)], [(0, O x37.2.2)])) fun x37 =>
join2 (.cond 68) (
brr ((v28 && v29) && (x37.2.1 == 1)) (
cl (f83.ok v25 v26 x37.2.2) fun y38 =>
brr y38.1 (
retA' (y38.2)) (
retB' y38.2)) (
retB' x37.2.2)) .inl (fun r39 =>
doneA r39) (.cut .nat fun x40 => ([(0, H Int 0), (1, V v25), (2, V v26), (3, V x34.1), (8, V v28), (9, V v29), (10, V (IntKind.i64.wrap (v26 - v25))), (11, V x37.1)], [(0, O x40)])) fun x40 =>
join1 (.reg 17) (
brr (decide (v25 > 0)) (
ck (IntKind.i64.wrap (v25 - 1)) (L x40) <|
rd x40 (at0 (IntKind.i64.wrap (v25 - 1))) fun a41 =>
ck x37.1 (L x40) <|
rd x40 (at0 x37.1) fun a42 =>
cl (f84.ok a41 a42) fun y43 =>
retA' (!y43)) (
retA' false)) (.cut .nat fun x44 => ([(0, H Int 0), (1, V v25), (2, V v26), (3, V x34.1), (8, V v28), (9, V v29), (10, V (IntKind.i64.wrap (v26 - v25))), (11, V x37.1), (87, V x44)], [(0, O x40)])) fun x44 =>
brr x44 (
cl (f85.ok v25 v26 x37.1 x40) fun y45 =>
cont (y45.1, v26, x34.1, v28, v29, y45.2)) (
cl (f86.ok v25 v26 x37.1 x40) fun y46 =>
brr (decide ((IntKind.i64.wrap (y46.1 - v25)) < (IntKind.i64.wrap (v26 - y46.1)))) (
let e47 : Bool := (decide ((IntKind.i64.wrap (y46.1 - v25)) ≥ (IntKind.i64.wrap ((IntKind.i64.wrap (v26 - v25)).tdiv 8))))
cls (hself v25 y46.1 x34.1 y46.2.2) fun y48 =>
cont ((IntKind.i64.wrap (y46.1 + 1)), v26, x34.1, e47, y46.2.1, y48)) (
let e49 : Bool := (decide ((IntKind.i64.wrap (v26 - y46.1)) ≥ (IntKind.i64.wrap ((IntKind.i64.wrap (v26 - v25)).tdiv 8))))
cls (hself (IntKind.i64.wrap (y46.1 + 1)) v26 x34.1 y46.2.2) fun y50 =>
cont (v25, y46.1, x34.1, e49, y46.2.1, y50)))))

noncomputable def f75v1.body (self : Int → Int → Int → (List Int) → Option (List Int)) (hself : ∀ (p1 p2 p3 : Int) (p4 : List Int) {x : List Int}, self p1 p2 p3 p4 = some x → Spec Try.prog 75 [H Int 0, V p1, V p2, V p3] [O p4] (.tup []) [O x]) (p1 p2 p3 : Int) (p4 : List Int) : Pg (List Int) :=
loop1 (p1, p2, p3, true, true, p4) (fun s51 => f75v1.l1 self hself s51.1 s51.2.1 s51.2.2.1 s51.2.2.2.1 s51.2.2.2.2.1 s51.2.2.2.2.2) (fun s51 => ([(0, H Int 0), (1, V s51.1), (2, V s51.2.1), (3, V s51.2.2.1), (8, V s51.2.2.2.1), (9, V s51.2.2.2.2.1)], [(0, O s51.2.2.2.2.2)])) .inl fun r52 =>
.ret r52

theorem f75v1.body.ok (self : Int → Int → Int → (List Int) → Option (List Int)) (hself : ∀ (p1 p2 p3 : Int) (p4 : List Int) {x : List Int}, self p1 p2 p3 p4 = some x → Spec Try.prog 75 [H Int 0, V p1, V p2, V p3] [O p4] (.tup []) [O x]) (p1 p2 p3 : Int) (p4 : List Int) {x} (h : (f75v1.body self hself p1 p2 p3 p4).run = some x) : Spec Try.prog 75 [H Int 0, V p1, V p2, V p3] [O p4] (.tup []) [O x] :=
  Prg.ok Try.func75 (res := fun x => .tup []) (outs := fun x => [O x]) (by kernel_rfl) (by kernel_rfl) rfl h

noncomputable def f75v1.fuel : Nat → {self : Int → Int → Int → (List Int) → Option (List Int) // ∀ (p1 p2 p3 : Int) (p4 : List Int) {x : List Int}, self p1 p2 p3 p4 = some x → Spec Try.prog 75 [H Int 0, V p1, V p2, V p3] [O p4] (.tup []) [O x]}
  | 0 => ⟨fun _ _ _ _ => none, fun _ _ _ _ {_} h => nomatch h⟩
  | n + 1 => ⟨fun p1 p2 p3 p4 => (f75v1.body (f75v1.fuel n).1 (f75v1.fuel n).2 p1 p2 p3 p4).run, fun p1 p2 p3 p4 {_} h => f75v1.body.ok (f75v1.fuel n).1 (f75v1.fuel n).2 p1 p2 p3 p4 h⟩

noncomputable def f75v1 (p1 p2 p3 : Int) (p4 : List Int) : Option (List Int) := (f75v1.fuel Go.Fx.fuel).1 p1 p2 p3 p4
theorem f75v1.ok (p1 p2 p3 : Int) (p4 : List Int) {x} (h : f75v1 p1 p2 p3 p4 = some x) : Spec Try.prog 75 [H Int 0, V p1, V p2, V p3] [O p4] (.tup []) [O x] := (f75v1.fuel Go.Fx.fuel).2 p1 p2 p3 p4 h

noncomputable def f67v1 (p1 : List Int) : Pg (List Int) :=
cl (f76.ok (IntKind.u64.wrap (L p1 : Int))) fun y2 =>
cls (f75v1.ok (0 : Int) (L p1 : Int) y2 p1) fun y3 =>
.ret (y3)

theorem f67v1.ok (p1 : List Int) {x} (h : (f67v1 p1).run = some x) : Spec Try.prog 67 [H Int 0] [O p1] (.tup []) [O x] :=
  Prg.ok Try.func67 (res := fun x => .tup []) (outs := fun x => [O x]) (by kernel_rfl) (by kernel_rfl) rfl h

noncomputable def f69v1.l1 (p1 : List Int) (v21 : Int) (v29 v30 : Int) (l31 : List Int) : Pg (Nx (Int × Int × (List Int)) (Ex (Int × (List Int)) Empty Empty)) :=
brr (decide (v30 < ((((L p1) - (v21).toNat) : Nat) : Int))) (
ck v30 ((L p1) - (v21).toNat) <|
rd l31 ((0 + (v21).toNat) + (v30 : Int).toNat) fun a32 =>
ck (IntKind.i64.wrap (v30 - 1)) ((L p1) - (v21).toNat) <|
rd l31 ((0 + (v21).toNat) + ((IntKind.i64.wrap (v30 - 1)) : Int).toNat) fun a33 =>
brr (a32 != a33) (
ck v30 ((L p1) - (v21).toNat) <|
rd l31 ((0 + (v21).toNat) + (v30 : Int).toNat) fun a34 =>
ck v29 (L l31) <|
st l31 (at0 v29) (fun x35 => a34) fun l36 =>
cont ((IntKind.i64.wrap (v29 + 1)), (IntKind.i64.wrap (v30 + 1)), l36)) (
cont (v29, (IntKind.i64.wrap (v30 + 1)), l31))) (
doneA (v29, l31))

noncomputable def f69v1.l2 (p1 : List Int) (v21 : Int) : Pg (Nx Int (Ex (List Int) Unit Empty)) :=
brr (decide (v21 < (L p1 : Int))) (
ck v21 (L p1) <|
rd p1 (at0 v21) fun a22 =>
ck (IntKind.i64.wrap (v21 - 1)) (L p1) <|
rd p1 (at0 (IntKind.i64.wrap (v21 - 1))) fun a23 =>
brr (a22 == a23) (
bLo v21 (L p1) <|
loop1 (v21, (1 : Int), p1) (fun s37 => f69v1.l1 p1 v21 s37.1 s37.2.1 s37.2.2) (fun s37 => ([(0, H Int 0), (3, V s37.1), (4, .hd 0 (0 + (v21).toNat) ((L p1) - (v21).toNat) 1), (5, V s37.2.1)], [(0, O s37.2.2)])) (.cut (.ext 2) fun x38 => ([(0, H Int 0), (3, V x38.1)], [(0, O x38.2)])) fun x38 =>
bLo x38.1 (L x38.2) <|
clrN x38.2 0 (0 + (x38.1).toNat) ((L x38.2) - (x38.1).toNat) fun l39 =>
cutHiO l39 x38.1 fun l40 =>
doneA (l40)) (
cont (IntKind.i64.wrap (v21 + 1)))) (
doneB ())

noncomputable def f69v1 (p1 : List Int) : Pg (List Int) :=
brr (decide ((L p1 : Int) < 2)) (
.ret (p1)) (
loop2 (1 : Int) (fun s41 => f69v1.l2 p1 s41) (fun s41 => ([(0, H Int 0), (3, V s41)], [(0, O p1)])) .inl (fun r42 =>
.ret r42) (.cut (.ext 0) fun _ => ([(0, H Int 0)], [(0, O p1)])) fun _ =>
.ret (p1))

theorem f69v1.ok (p1 : List Int) {x} (h : (f69v1 p1).run = some x) : Spec Try.prog 69 [H Int 0] [O p1] (H Int 2) [.dead, O x] :=
  Prg.ok Try.func69 (res := fun x => H Int 2) (outs := fun x => [.dead, O x]) (by kernel_rfl) (by kernel_rfl) rfl h

noncomputable def f70 (p1 p2 : Int) : Pg Unit :=
.ret (())

theorem f70.ok (p1 p2 : Int) {x} (h : (f70 p1 p2).run = some x) : Spec Try.prog 70 [V p1, R 0] [B p2] (V (p1 == p2)) [B p2] :=
  Prg.ok Try.func70 (res := fun x => V (p1 == p2)) (outs := fun x => [B p2]) (by kernel_rfl) (by kernel_rfl) rfl h

noncomputable def f71v4.l1 (p1 : List Int) (p2 : Int) (v5 : Int) : Pg (Nx Int (Ex (Int) Unit Empty)) :=
brr (decide (v5 < (L p1 : Int))) (
getR p1 v5 fun a6 =>
cl (f70.ok a6 p2) fun _ =>
brr (a6 == p2) (
doneA (v5)) (
cont (IntKind.i64.wrap (v5 + 1)))) (
doneB ())

noncomputable def f71v4 (p1 : List Int) (p2 : Int) : Pg Int :=
loop2 (0 : Int) (fun s8 => f71v4.l1 p1 p2 s8) (fun s8 => ([(0, V p1), (1, .clo 70 [R 0]), (7, V (L p1 : Int)), (8, V s8)], [(0, B p2)])) .inl (fun r9 =>
.ret r9) (.cut (.ext 0) fun _ => ([], [(0, B p2)])) fun _ =>
.ret (((-1) : Int))

theorem f71v4.ok (p1 : List Int) (p2 : Int) {x} (h : (f71v4 p1 p2).run = some x) : Spec Try.prog 71 [V p1, .clo 70 [R 0]] [B p2] (V x) [B p2] :=
  Prg.ok Try.func71 (res := fun x => V x) (outs := fun x => [B p2]) (by kernel_rfl) (by kernel_rfl) rfl h

noncomputable def f71v5.l1 (p1 : List Int) (p2 : Int) (v5 : Int) : Pg (Nx Int (Ex (Int) Unit Empty)) :=
brr (decide (v5 < (L p1 : Int))) (
ck v5 (L p1) <|
rd p1 (at0 v5) fun a6 =>
cl (f70.ok a6 p2) fun _ =>
brr (a6 == p2) (
doneA (v5)) (
cont (IntKind.i64.wrap (v5 + 1)))) (
doneB ())

noncomputable def f71v5 (p1 : List Int) (p2 : Int) : Pg Int :=
loop2 (0 : Int) (fun s8 => f71v5.l1 p1 p2 s8) (fun s8 => ([(0, H Int 0), (1, .clo 70 [R 2]), (7, V (L p1 : Int)), (8, V s8)], [(0, O p1), (2, B p2)])) .inl (fun r9 =>
.ret r9) (.cut (.ext 0) fun _ => ([], [(0, O p1), (2, B p2)])) fun _ =>
.ret (((-1) : Int))

theorem f71v5.ok (p1 : List Int) (p2 : Int) {x} (h : (f71v5 p1 p2).run = some x) : Spec Try.prog 71 [H Int 0, .clo 70 [R 2]] [O p1, B p2] (V x) [O p1, B p2] :=
  Prg.ok Try.func71 (res := fun x => V x) (outs := fun x => [O p1, B p2]) (by kernel_rfl) (by kernel_rfl) rfl h

noncomputable def f68v1.l1 (p2 : Int) (v8 v9 : Int) (l10 : List Int) : Pg (Nx (Int × Int × (List Int)) (Ex (Int × (List Int)) Empty Empty)) :=
brr (decide (v9 < (L l10 : Int))) (
ck v9 (L l10) <|
rd l10 (at0 v9) fun a11 =>
cl (f70.ok a11 p2) fun _ =>
brr (!(a11 == p2)) (
ck v8 (L l10) <|
st l10 (at0 v8) (fun x13 => a11) fun l14 =>
cont ((IntKind.i64.wrap (v8 + 1)), (IntKind.i64.wrap (v9 + 1)), l14)) (
cont (v8, (IntKind.i64.wrap (v9 + 1)), l10))) (
doneA (v8, l10))

noncomputable def f68v1 (p1 : List Int) (p2 : Int) : Pg (List Int) :=
cl (f71v5.ok p1 p2) fun y3 =>
brr (y3 == (-1)) (
.ret (p1)) (
loop1 (y3, (IntKind.i64.wrap (y3 + 1)), p1) (fun s15 => f68v1.l1 p2 s15.1 s15.2.1 s15.2.2) (fun s15 => ([(0, H Int 0), (1, .clo 70 [R 2]), (5, V s15.1), (6, V s15.2.1)], [(0, O s15.2.2), (2, B p2)])) (.cut (.ext 0) fun x16 => ([(0, H Int 0), (5, V x16.1)], [(0, O x16.2), (2, B p2)])) fun x16 =>
bLo x16.1 (L x16.2) <|
clrN x16.2 0 (0 + (x16.1).toNat) ((L x16.2) - (x16.1).toNat) fun l17 =>
cutHiO l17 x16.1 fun l18 =>
.ret (l18))

theorem f68v1.ok (p1 : List Int) (p2 : Int) {x} (h : (f68v1 p1 p2).run = some x) : Spec Try.prog 68 [H Int 0, .clo 70 [R 2]] [O p1, B p2] (H Int 4) [.dead, B p2, O x] :=
  Prg.ok Try.func68 (res := fun x => H Int 4) (outs := fun x => [.dead, B p2, O x]) (by kernel_rfl) (by kernel_rfl) rfl h

noncomputable def f52.l1 (p1 : Int) (p2 : List Edge) (v11 : Int) (l12 : List Int) : Pg (Nx (Int × (List Int)) (Ex (List Int) Empty Empty)) :=
brr (decide (v11 < (L p2 : Int))) (
getR p2 v11 fun a13 =>
join1 (.reg 4) (
brr (a13.From == p1) (
retA' true) (
retA' (a13.To == p1))) (.cut .nat fun x14 => ([(2, R 101), (4, H Int 103), (6, R 105), (7, V p2), (8, V (L p2 : Int)), (9, V v11), (22, V x14)], [(101, B p1), (103, O l12), (105, B a13)])) fun x14 =>
brr x14 (
cl (f36.ok a13 p1) fun y15 =>
ap l12 ([y15] : List Int) fun l16 =>
cont ((IntKind.i64.wrap (v11 + 1)), l16)) (
cont ((IntKind.i64.wrap (v11 + 1)), l12))) (
doneA l12)

noncomputable def f52 (p1 : Int) (p2 : List Edge) : Pg (List Int) :=
loop1 ((0 : Int), ([] : List Int)) (fun s17 => f52.l1 p1 p2 s17.1 s17.2) (fun s17 => ([(2, R 101), (4, H Int 501), (7, V p2), (8, V (L p2 : Int)), (9, V s17.1)], [(101, B p1), (501, O s17.2)])) (.cut (.ext 0) fun x18 => ([(2, R 101), (4, H Int 103)], [(101, B p1), (103, O x18)])) fun x18 =>
cl (f67v1.ok x18) fun y19 =>
cl (f69v1.ok y19) fun y20 =>
cl (f68v1.ok y20 p1) fun y21 =>
.ret (y21)

theorem f52.ok (p1 : Int) (p2 : List Edge) {x} (h : (f52 p1 p2).run = some x) : Spec Try.prog 52 [V p1, V p2] [] (V x) [] :=
  Prg.ok Try.func52 (res := fun x => V x) (outs := fun x => []) (by kernel_rfl) (by kernel_rfl) rfl h

noncomputable def f52v1.l1 (p1 : Int) (p2 : List Edge) (v11 : Int) (l12 : List Int) : Pg (Nx (Int × (List Int)) (Ex (List Int) Empty Empty)) :=
brr (decide (v11 < (L p2 : Int))) (
getR p2 v11 fun a13 =>
join1 (.reg 4) (
brr (a13.From == p1) (
retA' true) (
retA' (a13.To == p1))) (.cut .nat fun x14 => ([(2, R 101), (4, H Int 103), (6, R 105), (7, V p2), (8, V (L p2 : Int)), (9, V v11), (22, V x14)], [(101, B p1), (103, O l12), (105, B a13)])) fun x14 =>
brr x14 (
cl (f36.ok a13 p1) fun y15 =>
ap l12 ([y15] : List Int) fun l16 =>
cont ((IntKind.i64.wrap (v11 + 1)), l16)) (
cont ((IntKind.i64.wrap (v11 + 1)), l12))) (
doneA l12)

noncomputable def f52v1 (p1 : Int) (p2 : List Edge) : Pg (List Int) :=
loop1 ((0 : Int), ([] : List Int)) (fun s17 => f52v1.l1 p1 p2 s17.1 s17.2) (fun s17 => ([(2, R 101), (4, H Int 501), (7, V p2), (8, V (L p2 : Int)), (9, V s17.1)], [(101, B p1), (501, O s17.2)])) (.cut (.ext 0) fun x18 => ([(2, R 101), (4, H Int 103)], [(101, B p1), (103, O x18)])) fun x18 =>
cl (f67v1.ok x18) fun y19 =>
cl (f69v1.ok y19) fun y20 =>
cl (f68v1.ok y20 p1) fun y21 =>
.ret (y21)

theorem f52v1.ok (p1 : Int) (p2 : List Edge) {x} (h : (f52v1 p1 p2).run = some x) : Spec Try.prog 52 [V p1, V p2] [] (H Int 0) [O x] :=
  Prg.ok Try.func52 (res := fun x => H Int 0) (outs := fun x => [O x]) (by kernel_rfl) (by kernel_rfl) rfl h

noncomputable def f23.l1 (p2 : List Named) (l10 : List Int) (v19 : Int) (l20 : List Named) : Pg (Nx (Int × (List Named)) (Ex (List Named) Empty Empty)) :=
brr (decide (v19 < (L p2 : Int))) (
getR p2 v19 fun a21 =>
cl (f31v1.ok l10 a21.ID) fun y22 =>
brr y22 (
cl (f51.ok a21.Label) fun y23 =>
ap l20 ([(Named.mk a21.ID y23)] : List Named) fun l24 =>
cont ((IntKind.i64.wrap (v19 + 1)), l24)) (
cont ((IntKind.i64.wrap (v19 + 1)), l20))) (
doneA l20)

noncomputable def f23 (p1 : Graph) (p2 : List Named) (p3 : Int) : Pg (View × Int) :=
cl (f49.ok p1 p3) fun y4 =>
join1 (.reg 2) (
brr (!y4.2) (
retA' true) (
cl (f50.ok p2) fun y5 =>
retA' (!y5))) (.cut .nat fun x6 => ([(1, V p2), (2, V p3), (3, R 101), (6, R 103), (8, R 105), (26, V x6)], [(101, B p1), (103, .varp [.int .i64 0, .int .i64 0, .nilsl, .nilsl, .nilsl]), (105, B y4.1)])) fun x6 =>
brr x6 (
.ret (((View.mk (Vertex.mk 0 0) [] [] []), (60 : Int)))) (
cl (f51.ok p1.Depots) fun y7 =>
cl (f48v2.ok p1 p3) fun y8 =>
cl (f52v1.ok p3 y8) fun y9 =>
ap y9 ([p3] : List Int) fun l10 =>
loop1 ((0 : Int), ([] : List Named)) (fun s25 => f23.l1 p2 l10 s25.1 s25.2) (fun s25 => ([(6, R 101), (10, R 103), (11, V l10), (43, V p2), (44, V (L p2 : Int)), (45, V s25.1)], [(101, .varp [.int .i64 0, .int .i64 0, .nilsl, .nilsl, .nilsl]), (103, .var [V y4.1.ID, V y4.1.Side, V y7, V y8, H Named 501]), (501, O s25.2)])) (.cut (.ext 0) fun x26 => ([(6, R 101), (10, R 103)], [(101, .varp [.int .i64 0, .int .i64 0, .nilsl, .nilsl, .nilsl]), (103, .var [V y4.1.ID, V y4.1.Side, V y7, V y8, H Named 105]), (105, O x26)])) fun x26 =>
.ret (((View.mk y4.1 y7 y8 x26), (0 : Int))))

theorem f23.ok (p1 : Graph) (p2 : List Named) (p3 : Int) {x} (h : (f23 p1 p2 p3).run = some x) : Spec Try.prog 23 [V p1, V p2, V p3] [] (.tup [V x.1, V x.2]) [] :=
  Prg.ok Try.func23 (res := fun x => .tup [V x.1, V x.2]) (outs := fun x => []) (by kernel_rfl) (by kernel_rfl) rfl h

noncomputable def f7.l1 (p1 : Graph) (p2 : List Named) (v6 : Int) : Pg (Nx Int (Ex (Bool) Unit Empty)) :=
brr (decide (v6 < (L p1.Vertices : Int))) (
getR p1.Vertices v6 fun a7 =>
cl (f23.ok p1 p2 a7.ID) fun y8 =>
brr (y8.2 != 0) (
doneA (false)) (
cl (f18.ok y8.1) fun y9 =>
brr (!y9) (
doneA (false)) (
cont (IntKind.i64.wrap (v6 + 1))))) (
doneB ())

noncomputable def f7 (p1 : Graph) (p2 : List Named) : Pg Bool :=
loop2 (0 : Int) (fun s10 => f7.l1 p1 p2 s10) (fun s10 => ([(1, V p2), (2, R 101), (5, V s10)], [(101, B p1)])) .inl (fun r11 =>
.ret r11) (.cut (.ext 0) fun _ => ([], [])) fun _ =>
.ret (true)

theorem f7.ok (p1 : Graph) (p2 : List Named) {x} (h : (f7 p1 p2).run = some x) : Spec Try.prog 7 [V p1, V p2] [] (V x) [] :=
  Prg.ok Try.func7 (res := fun x => V x) (outs := fun x => []) (by kernel_rfl) (by kernel_rfl) rfl h

noncomputable def f3.l1 (y7 : Graph) (y8 y10 : (List Named) × Int) (y13 y14 : List Named) (v18 : Int) : Pg (Nx Int (Ex (Bool) Unit Empty)) :=
brr (decide (v18 < (L ([y13, y10.1, y14] : List (List Named)) : Int))) (
ck v18 (L ([y13, y10.1, y14] : List (List Named))) <|
rd ([y13, y10.1, y14] : List (List Named)) (at0 v18) fun a19 =>
cl (f7.ok y7 a19) fun y20 =>
cl (f9.ok a19 y8.1) fun y21 =>
brr (!(y20 == y21)) (
doneA (false)) (
cont (IntKind.i64.wrap (v18 + 1)))) (
doneB ())

noncomputable def f3 (p1 : Int) (p2 : List A5_Int) (p3 : Bool) (p4 : List A5_Int) (p5 : List A3_Int) : Pg Bool :=
cl (f4.ok) fun y6 =>
brr (!y6) (
.ret (false)) (
cl (f5.ok p1 p2 p3) fun y7 =>
cl (f6v2.ok y7) fun y8 =>
cl (f5.ok p1 p4 p3) fun y9 =>
cl (f6v2.ok y9) fun y10 =>
join1 (.reg 6) (
brr ((y8.2 != 0) || (y10.2 != 0)) (
retA' true) (
cl (f7.ok y7 y8.1) fun y11 =>
retA' (!y11))) (.cut .nat fun x12 => ([(4, V p5), (11, R 101), (12, V y8.1), (14, V y10.1), (48, V x12)], [(101, B y7)])) fun x12 =>
brr x12 (
.ret (false)) (
cl (f8.ok y8.1 p5) fun y13 =>
cl (f8.ok y10.1 p5) fun y14 =>
loop2 (0 : Int) (fun s22 => f3.l1 y7 y8 y10 y13 y14 s22) (fun s22 => ([(11, R 101), (12, V y8.1), (56, H (List Named) 103), (57, V (L ([y13, y10.1, y14] : List (List Named)) : Int)), (58, V s22)], [(101, B y7), (103, O ([y13, y10.1, y14] : List (List Named)))])) .inl (fun r23 =>
.ret r23) (.cut (.ext 0) fun _ => ([], [])) fun _ =>
.ret (true)))

theorem f3.ok (p1 : Int) (p2 : List A5_Int) (p3 : Bool) (p4 : List A5_Int) (p5 : List A3_Int) {x} (h : (f3 p1 p2 p3 p4 p5).run = some x) : Spec Try.prog 3 [V p1, V p2, V p3, V p4, V p5] [] (V x) [] :=
  Prg.ok Try.func3 (res := fun x => V x) (outs := fun x => []) (by kernel_rfl) (by kernel_rfl) rfl h

end Go.Fx.Gen
