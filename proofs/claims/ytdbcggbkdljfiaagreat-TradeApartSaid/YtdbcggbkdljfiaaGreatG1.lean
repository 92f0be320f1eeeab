/- Plain programs, and the proofs that the code computes them; printed by a program of our own. -/
import Derived.Test.YtdbcggbkdljfiaaGreatFxZ
import Derived.Test.YtdbcggbkdljfiaaGreatFxY
import Derived.Test.YtdbcggbkdljfiaaGreatProg
set_option linter.unusedVariables false
set_option maxRecDepth 100000
namespace Go.Fx.Gen
open Go.Proofs Go.Fx
abbrev Pg := Prg Tryz.prog

structure Vertex where
  ID : Int
  Side : Int

instance : Cel Vertex := ⟨fun v => [.int .i64 v.ID, .int .i64 v.Side], 2, fun _ => rfl⟩
instance : Val Vertex := ⟨fun v => .aggp (Cel.enc v)⟩

structure Edge where
  ID : Int
  From : Int
  To : Int
  Directed : Bool
  Weight : Int
  Cap : Int

instance : Cel Edge := ⟨fun v => [.int .i64 v.ID, .int .i64 v.From, .int .i64 v.To, .bool v.Directed, .int .i64 v.Weight, .int .i64 v.Cap], 6, fun _ => rfl⟩
instance : Val Edge := ⟨fun v => .aggp (Cel.enc v)⟩

structure Named where
  ID : Int
  Label : List Int

instance : Cel Named := ⟨fun v => [.int .i64 v.ID, .sl (v.Label.map Cel.enc)], 2, fun _ => rfl⟩
instance : Val Named := ⟨fun v => .aggp (Cel.enc v)⟩

structure View where
  Vertex : Vertex
  Depots : List Int
  Edges : List Edge
  Labels : List Named

instance : Cel View := ⟨fun v => [.int .i64 v.Vertex.ID, .int .i64 v.Vertex.Side, .sl (v.Depots.map Cel.enc), .sl (v.Edges.map Cel.enc), .sl (v.Labels.map Cel.enc)], 5, fun _ => rfl⟩
instance : Val View := ⟨fun v => .aggp (Cel.enc v)⟩

structure A5_Int where
  x0 : Int
  x1 : Int
  x2 : Int
  x3 : Int
  x4 : Int

instance : Cel A5_Int := ⟨fun v => [.int .i64 v.x0, .int .i64 v.x1, .int .i64 v.x2, .int .i64 v.x3, .int .i64 v.x4], 5, fun _ => rfl⟩
instance : Val A5_Int := ⟨fun v => .aggp (Cel.enc v)⟩

structure A2_Int where
  x0 : Int
  x1 : Int

instance : Cel A2_Int := ⟨fun v => [.int .i64 v.x0, .int .i64 v.x1], 2, fun _ => rfl⟩
instance : Val A2_Int := ⟨fun v => .aggp (Cel.enc v)⟩

structure A3_Int where
  x0 : Int
  x1 : Int
  x2 : Int

instance : Cel A3_Int := ⟨fun v => [.int .i64 v.x0, .int .i64 v.x1, .int .i64 v.x2], 3, fun _ => rfl⟩
instance : Val A3_Int := ⟨fun v => .aggp (Cel.enc v)⟩

abbrev str1 : ByteArray := ⟨#[0, 1, 2, 2, 3, 3, 3, 3, 4, 4, 4, 4, 4, 4, 4, 4, 5, 5, 5, 5, 5, 5, 5, 5, 5, 5, 5, 5, 5, 5, 5, 5, 6, 6, 6, 6, 6, 6, 6, 6, 6, 6, 6, 6, 6, 6, 6, 6, 6, 6, 6, 6, 6, 6, 6, 6, 6, 6, 6, 6, 6, 6, 6, 6, 7, 7, 7, 7, 7, 7, 7, 7, 7, 7, 7, 7, 7, 7, 7, 7, 7, 7, 7, 7, 7, 7, 7, 7, 7, 7, 7, 7, 7, 7, 7, 7, 7, 7, 7, 7, 7, 7, 7, 7, 7, 7, 7, 7, 7, 7, 7, 7, 7, 7, 7, 7, 7, 7, 7, 7, 7, 7, 7, 7, 7, 7, 7, 7, 8, 8, 8, 8, 8, 8, 8, 8, 8, 8, 8, 8, 8, 8, 8, 8, 8, 8, 8, 8, 8, 8, 8, 8, 8, 8, 8, 8, 8, 8, 8, 8, 8, 8, 8, 8, 8, 8, 8, 8, 8, 8, 8, 8, 8, 8, 8, 8, 8, 8, 8, 8, 8, 8, 8, 8, 8, 8, 8, 8, 8, 8, 8, 8, 8, 8, 8, 8, 8, 8, 8, 8, 8, 8, 8, 8, 8, 8, 8, 8, 8, 8, 8, 8, 8, 8, 8, 8, 8, 8, 8, 8, 8, 8, 8, 8, 8, 8, 8, 8, 8, 8, 8, 8, 8, 8, 8, 8, 8, 8, 8, 8, 8, 8, 8, 8, 8, 8, 8, 8, 8, 8, 8, 8, 8, 8, 8, 8]⟩

def A3_Int.of : List Int → Option A3_Int
  | a0 :: a1 :: a2 :: _ => some ⟨a0, a1, a2⟩
  | _ => none
theorem A3_Int.of_ok (l : List Int) (a : A3_Int) (h : A3_Int.of l = some a) : 3 ≤ (l.map Cel.enc).length ∧ ((l.map Cel.enc).take 3).flatten = Cel.enc a := by
  unfold A3_Int.of at h
  split at h
  · cases h; exact ⟨by simp, rfl⟩
  · cases h

structure Graph where
  Vertices : List Vertex
  Edges : List Edge
  Depots : List Int

instance : Cel Graph := ⟨fun v => [.sl (v.Vertices.map Cel.enc), .sl (v.Edges.map Cel.enc), .sl (v.Depots.map Cel.enc)], 3, fun _ => rfl⟩
instance : Val Graph := ⟨fun v => .aggp (Cel.enc v)⟩

structure NamedR where
  ID : Int
  Label : Ref
instance [Fm] : Cel NamedR := ⟨fun v => [.int .i64 v.ID, .fh Fm.f v.Label.i v.Label.off v.Label.len 1], 2, fun _ => rfl⟩

/-- The labels, with the members that they lead to. -/
def named1 (M : List (List Int)) (x : NamedR) : Option Named := (M[x.Label.i]?).bind fun l => if x.Label.off + x.Label.len ≤ l.length then some ⟨x.ID, (l.drop x.Label.off).take x.Label.len⟩ else none
def named (M : List (List Int)) (o : List NamedR) : Option (List Named) := o.mapM (named1 M)

theorem mapM_get' {α β : Type} {f : α → Option β} : ∀ {l : List α} {r : List β}, l.mapM f = some r → r.length = l.length ∧ ∀ (i : Nat) (x : α) (y : β), l[i]? = some x → r[i]? = some y → f x = some y
  | [], r, h => by rw [List.mapM_nil] at h; cases h; simp
  | a :: l, r, h => by
    rw [List.mapM_cons] at h
    simp only [bind, Option.bind_eq_some_iff, pure, Option.some.injEq] at h
    obtain ⟨b, h1, c, h2, rfl⟩ := h
    obtain ⟨g1, g2⟩ := mapM_get' h2
    refine ⟨by simp [g1], fun i x y hx hy => ?_⟩
    cases i with
    | zero => simp at hx hy; subst hx; subst hy; exact h1
    | succ i => exact g2 i x y (by simpa using hx) (by simpa using hy)

theorem named_tell [Fm] {M : List (List Int)} {o : List NamedR} {y : List Named} (h : named M o = some y) : TellO Fm.f 1 (M.map (List.map Cel.enc)) (O o) (O y) := by
  obtain ⟨g1, g2⟩ := mapM_get' h
  have key : ∀ (i : Nat) (x : NamedR) (z : Named), o[i]? = some x → y[i]? = some z → ∃ l, M[x.Label.i]? = some l ∧ x.Label.off + x.Label.len ≤ l.length ∧ z = ⟨x.ID, (l.drop x.Label.off).take x.Label.len⟩ := by
    intro i x z hx hz
    have := g2 i x z hx hz
    unfold named1 at this
    rw [Option.bind_eq_some_iff] at this
    obtain ⟨l, h1, h2⟩ := this
    split at h2
    · cases h2; exact ⟨l, h1, by assumption, rfl⟩
    · cases h2
  refine .sl false 2 _ _ ⟨by simp [g1], fun i r r' h1 h2 => ?_, fun i r r' j p p' h1 h2 h3 h4 => ?_⟩
  · rw [List.getElem?_map, Option.map_eq_some_iff] at h1 h2
    obtain ⟨x, _, rfl⟩ := h1
    obtain ⟨z, _, rfl⟩ := h2
    rfl
  · rw [List.getElem?_map, Option.map_eq_some_iff] at h1 h2
    obtain ⟨x, hx, rfl⟩ := h1
    obtain ⟨z, hz, rfl⟩ := h2
    obtain ⟨l, k1, k2, rfl⟩ := key i x z hx hz
    match j with
    | 0 => simp [Cel.enc] at h3 h4; subst h3; subst h4; exact .same _
    | 1 =>
      simp only [Cel.enc, List.getElem?_cons_succ, List.getElem?_cons_zero, Option.some.injEq] at h3 h4
      subst h3; subst h4
      have := Tell.fh (f := Fm.f) (sz := 1) (mem := M.map (List.map Cel.enc)) x.Label.i x.Label.off x.Label.len (l.map Cel.enc) (mem_ok k1) (by rw [List.length_map]; exact k2)
      rw [cut_map] at this
      exact this
    | j + 2 => simp [Cel.enc] at h3

/-- The end: the labels are told as data. -/
def tellN [Fm] {β : Type} (m : Nat) (M : List (List Int)) (o : List NamedR) (k : List Named → Pg β) : Pg β :=
  .tell (named M o) m Fm.f 1 (M.map (List.map Cel.enc)) (O o) (fun y => O y) (fun _ h => named_tell h) k
theorem r_tellN [Fm] {β : Type} {m : Nat} {M : List (List Int)} {o : List NamedR} {k : List Named → Pg β} : (tellN m M o k).run = bd (named M o) fun y => (k y).run := rfl
theorem tellN_s [Fm] {β : Type} {m : Nat} {M : List (List Int)} {o : List NamedR} {y : List Named} (h : named M o = some y) {k : List Named → Pg β} : (tellN m M o k).run = (k y).run := by
  show bd (named M o) _ = _
  rw [h]; rfl


structure Graph_change where
  Graph : Graph

instance : Cel Graph_change := ⟨fun v => [.sl (v.Graph.Vertices.map Cel.enc), .sl (v.Graph.Edges.map Cel.enc), .sl (v.Graph.Depots.map Cel.enc)], 3, fun _ => rfl⟩
instance : Val Graph_change := ⟨fun v => .aggp (Cel.enc v)⟩

def f64 (p1 p2 p3 p4 : Int) : Pg Unit :=
.ret (())

theorem f64.ok (p1 p2 p3 p4 : Int) {x} (h : (f64 p1 p2 p3 p4).run = some x) : Spec Tryz.prog 64 [V p1, V p2, V p3, V p4] [] (V (Edge.mk p1 p2 p3 true p4 0)) [] :=
  Prg.ok Tryz.func64 (res := fun x => V (Edge.mk p1 p2 p3 true p4 0)) (outs := fun x => []) (by kernel_rfl) (by kernel_rfl) rfl h

def f28.l1 (v9 : Int) (l10 : List Vertex) : Pg (Nx (Int × (List Vertex)) (Ex (List Vertex) Empty Empty)) :=
brr (decide (v9 < 4)) (
ap l10 ([(Vertex.mk v9 3)] : List Vertex) fun l11 =>
cont ((IntKind.i64.wrap (v9 + 1)), l11)) (
doneA l10)

def f28 : Pg (List Vertex) :=
cl (f64.ok (0 : Int) (0 : Int) (1 : Int) (9 : Int)) fun _ =>
cl (f64.ok (1 : Int) (1 : Int) (0 : Int) (1 : Int)) fun _ =>
cl (f64.ok (2 : Int) (1 : Int) (2 : Int) (5 : Int)) fun _ =>
cl (f64.ok (3 : Int) (2 : Int) (0 : Int) (3 : Int)) fun _ =>
cl (f64.ok (4 : Int) (3 : Int) (0 : Int) (8 : Int)) fun _ =>
cl (f64.ok (5 : Int) (3 : Int) (3 : Int) (0 : Int)) fun _ =>
loop1 ((0 : Int), ([] : List Vertex)) (fun s12 => f28.l1 s12.1 s12.2) (fun s12 => ([(0, R 101), (1, R 103), (2, V s12.1)], [(101, .varp [.nilsl, .nilsl, .nilsl]), (103, .var [H Vertex 505, H Edge 105, .pv .nilsl]), (105, O ([(Edge.mk (0 : Int) (0 : Int) (1 : Int) true (9 : Int) 0), (Edge.mk (1 : Int) (1 : Int) (0 : Int) true (1 : Int) 0), (Edge.mk (2 : Int) (1 : Int) (2 : Int) true (5 : Int) 0), (Edge.mk (3 : Int) (2 : Int) (0 : Int) true (3 : Int) 0), (Edge.mk (4 : Int) (3 : Int) (0 : Int) true (8 : Int) 0), (Edge.mk (5 : Int) (3 : Int) (3 : Int) true (0 : Int) 0)] : List Edge)), (505, O s12.2)])) (.cut (.ext 0) fun x13 => ([(0, R 101), (1, R 103)], [(101, .varp [.nilsl, .nilsl, .nilsl]), (103, .var [H Vertex 105, H Edge 107, .pv .nilsl]), (105, O x13), (107, O ([(Edge.mk (0 : Int) (0 : Int) (1 : Int) true (9 : Int) 0), (Edge.mk (1 : Int) (1 : Int) (0 : Int) true (1 : Int) 0), (Edge.mk (2 : Int) (1 : Int) (2 : Int) true (5 : Int) 0), (Edge.mk (3 : Int) (2 : Int) (0 : Int) true (3 : Int) 0), (Edge.mk (4 : Int) (3 : Int) (0 : Int) true (8 : Int) 0), (Edge.mk (5 : Int) (3 : Int) (3 : Int) true (0 : Int) 0)] : List Edge))])) fun x13 =>
.ret (x13)

theorem f28.ok {x} (h : (f28).run = some x) : Spec Tryz.prog 28 [] [] (.aggp [.sl (x.map Cel.enc), .sl (([(Edge.mk (0 : Int) (0 : Int) (1 : Int) true (9 : Int) 0), (Edge.mk (1 : Int) (1 : Int) (0 : Int) true (1 : Int) 0), (Edge.mk (2 : Int) (1 : Int) (2 : Int) true (5 : Int) 0), (Edge.mk (3 : Int) (2 : Int) (0 : Int) true (3 : Int) 0), (Edge.mk (4 : Int) (3 : Int) (0 : Int) true (8 : Int) 0), (Edge.mk (5 : Int) (3 : Int) (3 : Int) true (0 : Int) 0)] : List Edge).map Cel.enc), .nilsl]) [] :=
  Prg.ok Tryz.func28 (res := fun x => .aggp [.sl (x.map Cel.enc), .sl (([(Edge.mk (0 : Int) (0 : Int) (1 : Int) true (9 : Int) 0), (Edge.mk (1 : Int) (1 : Int) (0 : Int) true (1 : Int) 0), (Edge.mk (2 : Int) (1 : Int) (2 : Int) true (5 : Int) 0), (Edge.mk (3 : Int) (2 : Int) (0 : Int) true (3 : Int) 0), (Edge.mk (4 : Int) (3 : Int) (0 : Int) true (8 : Int) 0), (Edge.mk (5 : Int) (3 : Int) (3 : Int) true (0 : Int) 0)] : List Edge).map Cel.enc), .nilsl]) (outs := fun x => []) (by kernel_rfl) (by kernel_rfl) rfl h

def f76 (p1 : Vertex) : Pg Unit :=
.ret (())

theorem f76.ok (p1 : Vertex) {x} (h : (f76 p1).run = some x) : Spec Tryz.prog 76 [V p1] [] (V p1.ID) [] :=
  Prg.ok Tryz.func76 (res := fun x => V p1.ID) (outs := fun x => []) (by kernel_rfl) (by kernel_rfl) rfl h

def f75.l1 (p1 : List Vertex) (v6 : Int) : Pg (Nx Int (Ex (Bool) Unit Empty)) :=
brr (decide (v6 < (L p1 : Int))) (
getR p1 (IntKind.i64.wrap (v6 - 1)) fun a7 =>
cl (f76.ok a7) fun _ =>
getR p1 v6 fun a9 =>
cl (f76.ok a9) fun _ =>
brr (decide (a7.ID ≥ a9.ID)) (
doneA (false)) (
cont (IntKind.i64.wrap (v6 + 1)))) (
doneB ())

def f75 (p1 : List Vertex) : Pg Bool :=
loop2 (1 : Int) (fun s11 => f75.l1 p1 s11) (fun s11 => ([(0, V p1), (1, .clo 76 []), (5, V s11)], [])) .inl (fun r12 =>
.ret r12) (.cut (.ext 0) fun _ => ([], [])) fun _ =>
.ret (true)

theorem f75.ok (p1 : List Vertex) {x} (h : (f75 p1).run = some x) : Spec Tryz.prog 75 [V p1, .clo 76 []] [] (V x) [] :=
  Prg.ok Tryz.func75 (res := fun x => V x) (outs := fun x => []) (by kernel_rfl) (by kernel_rfl) rfl h

def f78 (p1 : Edge) : Pg Unit :=
.ret (())

theorem f78.ok (p1 : Edge) {x} (h : (f78 p1).run = some x) : Spec Tryz.prog 78 [V p1] [] (V p1.ID) [] :=
  Prg.ok Tryz.func78 (res := fun x => V p1.ID) (outs := fun x => []) (by kernel_rfl) (by kernel_rfl) rfl h

def f77.l1 (p1 : List Edge) (v6 : Int) : Pg (Nx Int (Ex (Bool) Unit Empty)) :=
brr (decide (v6 < (L p1 : Int))) (
getR p1 (IntKind.i64.wrap (v6 - 1)) fun a7 =>
cl (f78.ok a7) fun _ =>
getR p1 v6 fun a9 =>
cl (f78.ok a9) fun _ =>
brr (decide (a7.ID ≥ a9.ID)) (
doneA (false)) (
cont (IntKind.i64.wrap (v6 + 1)))) (
doneB ())

def f77 (p1 : List Edge) : Pg Bool :=
loop2 (1 : Int) (fun s11 => f77.l1 p1 s11) (fun s11 => ([(0, V p1), (1, .clo 78 []), (5, V s11)], [])) .inl (fun r12 =>
.ret r12) (.cut (.ext 0) fun _ => ([], [])) fun _ =>
.ret (true)

theorem f77.ok (p1 : List Edge) {x} (h : (f77 p1).run = some x) : Spec Tryz.prog 77 [V p1, .clo 78 []] [] (V x) [] :=
  Prg.ok Tryz.func77 (res := fun x => V x) (outs := fun x => []) (by kernel_rfl) (by kernel_rfl) rfl h

def f104 (p1 p2 p3 : Int) : Pg Unit :=
.ret (())

theorem f104.ok (p1 p2 p3 : Int) {x} (h : (f104 p1 p2 p3).run = some x) : Spec Tryz.prog 104 [V p1, V p2, V p3] [] (V ((decide (p2 ≤ p1)) && (decide (p1 ≤ p3)))) [] :=
  Prg.ok Tryz.func104 (res := fun x => V ((decide (p2 ≤ p1)) && (decide (p1 ≤ p3)))) (outs := fun x => []) (by kernel_rfl) (by kernel_rfl) rfl h

def f84 (p1 : Vertex) : Pg Bool :=
cl (f104.ok p1.ID (0 : Int) (23 : Int)) fun _ =>
brr ((decide ((0 : Int) ≤ p1.ID)) && (decide (p1.ID ≤ (23 : Int)))) (
cl (f104.ok p1.Side (0 : Int) (3 : Int)) fun _ =>
.ret (((decide ((0 : Int) ≤ p1.Side)) && (decide (p1.Side ≤ (3 : Int)))))) (
.ret (false))

theorem f84.ok (p1 : Vertex) {x} (h : (f84 p1).run = some x) : Spec Tryz.prog 84 [V p1] [] (V x) [] :=
  Prg.ok Tryz.func84 (res := fun x => V x) (outs := fun x => []) (by kernel_rfl) (by kernel_rfl) rfl h

def f83 (p1 : Vertex) : Pg Bool :=
cl (f84.ok p1) fun y2 =>
.ret ((!y2))

theorem f83.ok (p1 : Vertex) {x} (h : (f83 p1).run = some x) : Spec Tryz.prog 83 [V p1] [] (V x) [] :=
  Prg.ok Tryz.func83 (res := fun x => V x) (outs := fun x => []) (by kernel_rfl) (by kernel_rfl) rfl h

def f119.l1 (p1 : List Vertex) (v4 : Int) : Pg (Nx Int (Ex (Int) Unit Empty)) :=
brr (decide (v4 < (L p1 : Int))) (
getR p1 v4 fun a5 =>
cl (f83.ok a5) fun y6 =>
brr y6 (
doneA (v4)) (
cont (IntKind.i64.wrap (v4 + 1)))) (
doneB ())

def f119 (p1 : List Vertex) : Pg Int :=
loop2 (0 : Int) (fun s7 => f119.l1 p1 s7) (fun s7 => ([(0, V p1), (1, .clo 83 []), (7, V (L p1 : Int)), (8, V s7)], [])) .inl (fun r8 =>
.ret r8) (.cut (.ext 0) fun _ => ([], [])) fun _ =>
.ret (((-1) : Int))

theorem f119.ok (p1 : List Vertex) {x} (h : (f119 p1).run = some x) : Spec Tryz.prog 119 [V p1, .clo 83 []] [] (V x) [] :=
  Prg.ok Tryz.func119 (res := fun x => V x) (outs := fun x => []) (by kernel_rfl) (by kernel_rfl) rfl h

def f82 (p1 : List Vertex) : Pg Bool :=
cl (f119.ok p1) fun y2 =>
.ret ((decide (y2 ≥ 0)))

theorem f82.ok (p1 : List Vertex) {x} (h : (f82 p1).run = some x) : Spec Tryz.prog 82 [V p1, .clo 83 []] [] (V x) [] :=
  Prg.ok Tryz.func82 (res := fun x => V x) (outs := fun x => []) (by kernel_rfl) (by kernel_rfl) rfl h

def f80 (p1 : Edge) : Pg Bool :=
cl (f104.ok p1.ID (0 : Int) (39 : Int)) fun _ =>
brr ((decide ((0 : Int) ≤ p1.ID)) && (decide (p1.ID ≤ (39 : Int)))) (
cl (f104.ok p1.From (0 : Int) (23 : Int)) fun _ =>
brr ((decide ((0 : Int) ≤ p1.From)) && (decide (p1.From ≤ (23 : Int)))) (
cl (f104.ok p1.To (0 : Int) (23 : Int)) fun _ =>
brr ((decide ((0 : Int) ≤ p1.To)) && (decide (p1.To ≤ (23 : Int)))) (
cl (f104.ok p1.Weight ((-1000) : Int) (1000 : Int)) fun _ =>
brr ((decide (((-1000) : Int) ≤ p1.Weight)) && (decide (p1.Weight ≤ (1000 : Int)))) (
cl (f104.ok p1.Cap (0 : Int) (1000 : Int)) fun _ =>
.ret (((decide ((0 : Int) ≤ p1.Cap)) && (decide (p1.Cap ≤ (1000 : Int)))))) (
.ret (false))) (
.ret (false))) (
.ret (false))) (
.ret (false))

theorem f80.ok (p1 : Edge) {x} (h : (f80 p1).run = some x) : Spec Tryz.prog 80 [V p1] [] (V x) [] :=
  Prg.ok Tryz.func80 (res := fun x => V x) (outs := fun x => []) (by kernel_rfl) (by kernel_rfl) rfl h

def f147 (p1 : Int) : Pg Unit :=
.ret (())

theorem f147.ok (p1 : Int) {x} (h : (f147 p1).run = some x) : Spec Tryz.prog 147 [V p1] [] (V (p1 != p1)) [] :=
  Prg.ok Tryz.func147 (res := fun x => V (p1 != p1)) (outs := fun x => []) (by kernel_rfl) (by kernel_rfl) rfl h

def f128 (p1 p2 : Int) : Pg Int :=
cl (f147.ok p1) fun _ =>
cl (f147.ok p2) fun _ =>
brr (p1 != p1) (
brr (p2 != p2) (
.ret ((0 : Int))) (
.ret (((-1) : Int)))) (
brr (p2 != p2) (
.ret ((1 : Int))) (
brr (decide (p1 < p2)) (
.ret (((-1) : Int))) (
brr (decide (p1 > p2)) (
.ret ((1 : Int))) (
.ret ((0 : Int))))))

theorem f128.ok (p1 p2 : Int) {x} (h : (f128 p1 p2).run = some x) : Spec Tryz.prog 128 [V p1, V p2] [] (V x) [] :=
  Prg.ok Tryz.func128 (res := fun x => V x) (outs := fun x => []) (by kernel_rfl) (by kernel_rfl) rfl h

def f132 (p1 : Vertex) (p2 : Int) : Pg Int :=
cl (f128.ok p1.ID p2) fun y3 =>
.ret (y3)

theorem f132.ok (p1 : Vertex) (p2 : Int) {x} (h : (f132 p1 p2).run = some x) : Spec Tryz.prog 132 [V p1, V p2] [] (V x) [] :=
  Prg.ok Tryz.func132 (res := fun x => V x) (outs := fun x => []) (by kernel_rfl) (by kernel_rfl) rfl h

def f131.l1 (p1 : List Vertex) (p2 : Int) (v6 v7 : Int) : Pg (Nx (Int × Int) (Ex Int Empty Empty)) :=
brr (decide (v6 < v7)) (
let e8 : Int := (IntKind.i64.wrap ((IntKind.u64.wrap (IntKind.i64.wrap (v6 + v7))).fdiv (2 ^ (min (1 : Int).toNat IntKind.u64.bits))))
getR p1 e8 fun a9 =>
cl (f132.ok a9 p2) fun y10 =>
brr (decide (y10 < 0)) (
cont ((IntKind.i64.wrap (e8 + 1)), v7)) (
cont (v6, e8))) (
doneA v6)

def f131 (p1 : List Vertex) (p2 : Int) : Pg (Int × Bool) :=
loop1 ((0 : Int), (L p1 : Int)) (fun s11 => f131.l1 p1 p2 s11.1 s11.2) (fun s11 => ([(0, V p1), (1, V p2), (2, .clo 132 []), (8, V (L p1 : Int)), (9, V s11.1), (10, V s11.2)], [])) (.cut (.ext 0) fun x12 => ([(0, V p1), (1, V p2), (2, .clo 132 []), (8, V (L p1 : Int)), (9, V x12)], [])) fun x12 =>
brr (decide (x12 < (L p1 : Int))) (
getR p1 x12 fun a13 =>
cl (f132.ok a13 p2) fun y14 =>
.ret ((x12, (y14 == 0)))) (
.ret ((x12, false)))

theorem f131.ok (p1 : List Vertex) (p2 : Int) {x} (h : (f131 p1 p2).run = some x) : Spec Tryz.prog 131 [V p1, V p2, .clo 132 []] [] (.tup [V x.1, V x.2]) [] :=
  Prg.ok Tryz.func131 (res := fun x => .tup [V x.1, V x.2]) (outs := fun x => []) (by kernel_rfl) (by kernel_rfl) rfl h

def f113 (p1 : Int) (p2 : List Vertex) (p3 : List Edge) : Pg (Int × Bool) :=
cl (f131.ok p2 p1) fun y4 =>
.ret ((y4.1, y4.2))

theorem f113.ok (p1 : Int) (p2 : List Vertex) (p3 : List Edge) {x} (h : (f113 p1 p2 p3).run = some x) : Spec Tryz.prog 113 [R 0, V p1] [.varp [.sl (p2.map Cel.enc), .sl (p3.map Cel.enc), .nilsl]] (.tup [V x.1, V x.2]) [.varp [.sl (p2.map Cel.enc), .sl (p3.map Cel.enc), .nilsl]] :=
  Prg.ok Tryz.func113 (res := fun x => .tup [V x.1, V x.2]) (outs := fun x => [.varp [.sl (p2.map Cel.enc), .sl (p3.map Cel.enc), .nilsl]]) (by kernel_rfl) (by kernel_rfl) rfl h

def f81 (p1 : Int) (p2 : List Vertex) (p3 : List Edge) : Pg Bool :=
cl (f113.ok p1 p2 p3) fun y4 =>
.ret (y4.2)

theorem f81.ok (p1 : Int) (p2 : List Vertex) (p3 : List Edge) {x} (h : (f81 p1 p2 p3).run = some x) : Spec Tryz.prog 81 [R 0, V p1] [.varp [.sl (p2.map Cel.enc), .sl (p3.map Cel.enc), .nilsl]] (V x) [.varp [.sl (p2.map Cel.enc), .sl (p3.map Cel.enc), .nilsl]] :=
  Prg.ok Tryz.func81 (res := fun x => V x) (outs := fun x => [.varp [.sl (p2.map Cel.enc), .sl (p3.map Cel.enc), .nilsl]]) (by kernel_rfl) (by kernel_rfl) rfl h

def f79 (p1 : Edge) (p2 : List Vertex) (p3 : List Edge) : Pg Bool :=
cl (f80.ok p1) fun y4 =>
brr (!y4) (
.ret (true)) (
cl (f81.ok p1.From p2 p3) fun y5 =>
brr (!y5) (
.ret (true)) (
cl (f81.ok p1.To p2 p3) fun y6 =>
.ret ((!y6))))

theorem f79.ok (p1 : Edge) (p2 : List Vertex) (p3 : List Edge) {x} (h : (f79 p1 p2 p3).run = some x) : Spec Tryz.prog 79 [V p1, R 0] [mkVar (R 2), .varp [.sl (p2.map Cel.enc), .sl (p3.map Cel.enc), .nilsl]] (V x) [mkVar (R 2), .varp [.sl (p2.map Cel.enc), .sl (p3.map Cel.enc), .nilsl]] :=
  Prg.ok Tryz.func79 (res := fun x => V x) (outs := fun x => [mkVar (R 2), .varp [.sl (p2.map Cel.enc), .sl (p3.map Cel.enc), .nilsl]]) (by kernel_rfl) (by kernel_rfl) rfl h

def f62.l1 (p1 : List Edge) (p2 : List Vertex) (p3 : List Edge) (v6 : Int) : Pg (Nx Int (Ex (Int) Unit Empty)) :=
brr (decide (v6 < (L p1 : Int))) (
getR p1 v6 fun a7 =>
cl (f79.ok a7 p2 p3) fun y8 =>
brr y8 (
doneA (v6)) (
cont (IntKind.i64.wrap (v6 + 1)))) (
doneB ())

def f62 (p1 : List Edge) (p2 : List Vertex) (p3 : List Edge) : Pg Int :=
loop2 (0 : Int) (fun s9 => f62.l1 p1 p2 p3 s9) (fun s9 => ([(0, V p1), (1, .clo 79 [R 0]), (7, V (L p1 : Int)), (8, V s9)], [(0, mkVar (R 2)), (2, .varp [.sl (p2.map Cel.enc), .sl (p3.map Cel.enc), .nilsl])])) .inl (fun r10 =>
.ret r10) (.cut (.ext 0) fun _ => ([], [(0, mkVar (R 2)), (2, .varp [.sl (p2.map Cel.enc), .sl (p3.map Cel.enc), .nilsl])])) fun _ =>
.ret (((-1) : Int))

theorem f62.ok (p1 : List Edge) (p2 : List Vertex) (p3 : List Edge) {x} (h : (f62 p1 p2 p3).run = some x) : Spec Tryz.prog 62 [V p1, .clo 79 [R 0]] [mkVar (R 2), .varp [.sl (p2.map Cel.enc), .sl (p3.map Cel.enc), .nilsl]] (V x) [mkVar (R 2), .varp [.sl (p2.map Cel.enc), .sl (p3.map Cel.enc), .nilsl]] :=
  Prg.ok Tryz.func62 (res := fun x => V x) (outs := fun x => [mkVar (R 2), .varp [.sl (p2.map Cel.enc), .sl (p3.map Cel.enc), .nilsl]]) (by kernel_rfl) (by kernel_rfl) rfl h

def f70 (p1 : List Edge) (p2 : List Vertex) (p3 : List Edge) : Pg Bool :=
cl (f62.ok p1 p2 p3) fun y4 =>
.ret ((decide (y4 ≥ 0)))

theorem f70.ok (p1 : List Edge) (p2 : List Vertex) (p3 : List Edge) {x} (h : (f70 p1 p2 p3).run = some x) : Spec Tryz.prog 70 [V p1, .clo 79 [R 0]] [mkVar (R 2), .varp [.sl (p2.map Cel.enc), .sl (p3.map Cel.enc), .nilsl]] (V x) [mkVar (R 2), .varp [.sl (p2.map Cel.enc), .sl (p3.map Cel.enc), .nilsl]] :=
  Prg.ok Tryz.func70 (res := fun x => V x) (outs := fun x => [mkVar (R 2), .varp [.sl (p2.map Cel.enc), .sl (p3.map Cel.enc), .nilsl]]) (by kernel_rfl) (by kernel_rfl) rfl h

def f111 (p1 : Int) : Pg Unit :=
.ret (())

theorem f111.ok (p1 : Int) {x} (h : (f111 p1).run = some x) : Spec Tryz.prog 111 [V p1] [] (V p1) [] :=
  Prg.ok Tryz.func111 (res := fun x => V p1) (outs := fun x => []) (by kernel_rfl) (by kernel_rfl) rfl h

def f110.l1 (p1 : List Int) (v6 : Int) : Pg (Nx Int (Ex (Bool) Unit Empty)) :=
brr (decide (v6 < (L p1 : Int))) (
getR p1 (IntKind.i64.wrap (v6 - 1)) fun a7 =>
cl (f111.ok a7) fun _ =>
getR p1 v6 fun a9 =>
cl (f111.ok a9) fun _ =>
brr (decide (a7 ≥ a9)) (
doneA (false)) (
cont (IntKind.i64.wrap (v6 + 1)))) (
doneB ())

def f110 (p1 : List Int) : Pg Bool :=
loop2 (1 : Int) (fun s11 => f110.l1 p1 s11) (fun s11 => ([(0, V p1), (1, .clo 111 []), (5, V s11)], [])) .inl (fun r12 =>
.ret r12) (.cut (.ext 0) fun _ => ([], [])) fun _ =>
.ret (true)

theorem f110.ok (p1 : List Int) {x} (h : (f110 p1).run = some x) : Spec Tryz.prog 110 [V p1, .clo 111 []] [] (V x) [] :=
  Prg.ok Tryz.func110 (res := fun x => V x) (outs := fun x => []) (by kernel_rfl) (by kernel_rfl) rfl h

def f121 (p1 : Int) (p2 : List Vertex) (p3 : List Edge) : Pg Bool :=
cl (f81.ok p1 p2 p3) fun y4 =>
.ret ((!y4))

theorem f121.ok (p1 : Int) (p2 : List Vertex) (p3 : List Edge) {x} (h : (f121 p1 p2 p3).run = some x) : Spec Tryz.prog 121 [V p1, R 0] [mkVar (R 2), .varp [.sl (p2.map Cel.enc), .sl (p3.map Cel.enc), .nilsl]] (V x) [mkVar (R 2), .varp [.sl (p2.map Cel.enc), .sl (p3.map Cel.enc), .nilsl]] :=
  Prg.ok Tryz.func121 (res := fun x => V x) (outs := fun x => [mkVar (R 2), .varp [.sl (p2.map Cel.enc), .sl (p3.map Cel.enc), .nilsl]]) (by kernel_rfl) (by kernel_rfl) rfl h

def f143.l1 (p1 : List Int) (p2 : List Vertex) (p3 : List Edge) (v6 : Int) : Pg (Nx Int (Ex (Int) Unit Empty)) :=
brr (decide (v6 < (L p1 : Int))) (
getR p1 v6 fun a7 =>
cl (f121.ok a7 p2 p3) fun y8 =>
brr y8 (
doneA (v6)) (
cont (IntKind.i64.wrap (v6 + 1)))) (
doneB ())

def f143 (p1 : List Int) (p2 : List Vertex) (p3 : List Edge) : Pg Int :=
loop2 (0 : Int) (fun s9 => f143.l1 p1 p2 p3 s9) (fun s9 => ([(0, V p1), (1, .clo 121 [R 0]), (7, V (L p1 : Int)), (8, V s9)], [(0, mkVar (R 2)), (2, .varp [.sl (p2.map Cel.enc), .sl (p3.map Cel.enc), .nilsl])])) .inl (fun r10 =>
.ret r10) (.cut (.ext 0) fun _ => ([], [(0, mkVar (R 2)), (2, .varp [.sl (p2.map Cel.enc), .sl (p3.map Cel.enc), .nilsl])])) fun _ =>
.ret (((-1) : Int))

theorem f143.ok (p1 : List Int) (p2 : List Vertex) (p3 : List Edge) {x} (h : (f143 p1 p2 p3).run = some x) : Spec Tryz.prog 143 [V p1, .clo 121 [R 0]] [mkVar (R 2), .varp [.sl (p2.map Cel.enc), .sl (p3.map Cel.enc), .nilsl]] (V x) [mkVar (R 2), .varp [.sl (p2.map Cel.enc), .sl (p3.map Cel.enc), .nilsl]] :=
  Prg.ok Tryz.func143 (res := fun x => V x) (outs := fun x => [mkVar (R 2), .varp [.sl (p2.map Cel.enc), .sl (p3.map Cel.enc), .nilsl]]) (by kernel_rfl) (by kernel_rfl) rfl h

def f120 (p1 : List Int) (p2 : List Vertex) (p3 : List Edge) : Pg Bool :=
cl (f143.ok p1 p2 p3) fun y4 =>
.ret ((decide (y4 ≥ 0)))

theorem f120.ok (p1 : List Int) (p2 : List Vertex) (p3 : List Edge) {x} (h : (f120 p1 p2 p3).run = some x) : Spec Tryz.prog 120 [V p1, .clo 121 [R 0]] [mkVar (R 2), .varp [.sl (p2.map Cel.enc), .sl (p3.map Cel.enc), .nilsl]] (V x) [mkVar (R 2), .varp [.sl (p2.map Cel.enc), .sl (p3.map Cel.enc), .nilsl]] :=
  Prg.ok Tryz.func120 (res := fun x => V x) (outs := fun x => [mkVar (R 2), .varp [.sl (p2.map Cel.enc), .sl (p3.map Cel.enc), .nilsl]]) (by kernel_rfl) (by kernel_rfl) rfl h

def f85 (p1 : List Vertex) (p2 : List Edge) : Pg Bool :=
brr (decide ((0 : Int) ≤ 3)) (
cl (f110.ok ([] : List Int)) fun y3 =>
brr y3 (
cl (f120.ok ([] : List Int) p1 p2) fun y4 =>
.ret ((!y4))) (
.ret (false))) (
.ret (false))

theorem f85.ok (p1 : List Vertex) (p2 : List Edge) {x} (h : (f85 p1 p2).run = some x) : Spec Tryz.prog 85 [R 0] [.varp [.sl (p1.map Cel.enc), .sl (p2.map Cel.enc), .nilsl]] (V x) [.varp [.sl (p1.map Cel.enc), .sl (p2.map Cel.enc), .nilsl]] :=
  Prg.ok Tryz.func85 (res := fun x => V x) (outs := fun x => [.varp [.sl (p1.map Cel.enc), .sl (p2.map Cel.enc), .nilsl]]) (by kernel_rfl) (by kernel_rfl) rfl h

def f46 (p1 : List Vertex) (p2 : List Edge) : Pg Bool :=
join1 (.reg 1) (
cl (f75.ok p1) fun y4 =>
brr (!y4) (
retA' true) (
cl (f77.ok p2) fun y5 =>
retA' (!y5))) (.cut .nat fun x6 => ([(1, R 101), (14, V x6)], [(101, .varp [.sl (p1.map Cel.enc), .sl (p2.map Cel.enc), .nilsl])])) fun x6 =>
brr x6 (
.ret (false)) (
cl (f82.ok p1) fun y7 =>
brr (!y7) (
cl (f70.ok p2 p1 p2) fun y8 =>
brr (!y8) (
cl (f85.ok p1 p2) fun y9 =>
.ret (y9)) (
.ret (false))) (
.ret (false)))

theorem f46.ok (p1 : List Vertex) (p2 : List Edge) {x} (h : (f46 p1 p2).run = some x) : Spec Tryz.prog 46 [.aggp [.sl (p1.map Cel.enc), .sl (p2.map Cel.enc), .nilsl]] [] (V x) [] :=
  Prg.ok Tryz.func46 (res := fun x => V x) (outs := fun x => []) (by kernel_rfl) (by kernel_rfl) rfl h

def f86 (p1 : Int) (p2 : List (List Edge)) (p3 : List A3_Int) (p4 : List (Int × Bool)) : Pg Bool :=
look p4 p1 (false : Bool) fun a5 b6 =>
.ret (a5)

theorem f86.ok (p1 : Int) (p2 : List (List Edge)) (p3 : List A3_Int) (p4 : List (Int × Bool)) {x} (h : (f86 p1 p2 p3 p4).run = some x) : Spec Tryz.prog 86 [R 0, V p1] [.svar [Ar 24 p2, .mp 2, Ar 24 p3], MO false p4] (V x) [.svar [Ar 24 p2, .mp 2, Ar 24 p3], MO false p4] :=
  Prg.ok Tryz.func86 (res := fun x => V x) (outs := fun x => [.svar [Ar 24 p2, .mp 2, Ar 24 p3], MO false p4]) (by kernel_rfl) (by kernel_rfl) rfl h

def f142 (p1 : Int) : Pg Int :=
join1 (.cond 4) (
brr (decide (p1 ≥ 4294967296)) (
retA' ((p1.fdiv (2 ^ (min (32 : Int).toNat IntKind.u64.bits))), (32 : Int))) (
retA' (p1, (0 : Int)))) (.cut .nat fun x2 => ([(0, .pv (.int .u64 x2.1)), (2, V x2.2)], [])) fun x2 =>
join1 (.cond 8) (
brr (decide (x2.1 ≥ 65536)) (
retA' ((x2.1.fdiv (2 ^ (min (16 : Int).toNat IntKind.u64.bits))), (IntKind.i64.wrap (x2.2 + 16)))) (
retA' (x2.1, x2.2))) (.cut .nat fun x3 => ([(0, .pv (.int .u64 x3.1)), (2, V x3.2)], [])) fun x3 =>
brr (decide (x3.1 ≥ 256)) (
sget str1 (IntKind.u8.wrap (x3.1.fdiv (2 ^ (min (8 : Int).toNat IntKind.u64.bits)))) fun n4 =>
.ret ((IntKind.i64.wrap ((IntKind.i64.wrap (x3.2 + 8)) + (IntKind.i64.wrap n4))))) (
sget str1 (IntKind.u8.wrap x3.1) fun n5 =>
.ret ((IntKind.i64.wrap (x3.2 + (IntKind.i64.wrap n5)))))

theorem f142.ok (p1 : Int) {x} (h : (f142 p1).run = some x) : Spec Tryz.prog 142 [.pv (.int .u64 p1)] [] (V x) [] :=
  Prg.ok Tryz.func142 (res := fun x => V x) (outs := fun x => []) (by kernel_rfl) (by kernel_rfl) rfl h

def f118 (p1 : Int) : Pg Int :=
cl (f142.ok p1) fun y2 =>
.ret (y2)

theorem f118.ok (p1 : Int) {x} (h : (f118 p1).run = some x) : Spec Tryz.prog 118 [.pv (.int .u64 p1)] [] (V x) [] :=
  Prg.ok Tryz.func118 (res := fun x => V x) (outs := fun x => []) (by kernel_rfl) (by kernel_rfl) rfl h

def f74 (p1 p2 : Edge) : Pg Int :=
brr (p1.Weight != p2.Weight) (
.ret ((IntKind.i64.wrap (p2.Weight - p1.Weight)))) (
.ret ((IntKind.i64.wrap (p1.ID - p2.ID))))

theorem f74.ok (p1 p2 : Edge) {x} (h : (f74 p1 p2).run = some x) : Spec Tryz.prog 74 [V p1, V p2] [] (V x) [] :=
  Prg.ok Tryz.func74 (res := fun x => V x) (outs := fun x => []) (by kernel_rfl) (by kernel_rfl) rfl h

def f133v1.l1 (p1 p2 v28 : Int) (v40 : Int) (l41 : List Edge) : Pg (Nx (Int × (List Edge)) (Ex (List Edge) Empty Empty)) :=
join1 (.reg 4) (
brr (decide (v40 > p1)) (
ck v40 (L l41) <|
rd l41 (at0 v40) fun a42 =>
ck (IntKind.i64.wrap (v40 - 1)) (L l41) <|
rd l41 (at0 (IntKind.i64.wrap (v40 - 1))) fun a43 =>
cl (f74.ok a42 a43) fun y44 =>
retA' (decide (y44 < 0))) (
retA' false)) (.cut .nat fun x45 => ([(0, H Edge 0), (1, V p1), (2, V p2), (3, .clo 74 []), (8, V v28), (9, V v40), (34, V x45)], [(0, O l41)])) fun x45 =>
brr x45 (
ck (IntKind.i64.wrap (v40 - 1)) (L l41) <|
rd l41 (at0 (IntKind.i64.wrap (v40 - 1))) fun a46 =>
ck v40 (L l41) <|
rd l41 (at0 v40) fun a47 =>
ck v40 (L l41) <|
st l41 (at0 v40) (fun x48 => a46) fun l49 =>
ck (IntKind.i64.wrap (v40 - 1)) (L l49) <|
st l49 (at0 (IntKind.i64.wrap (v40 - 1))) (fun x50 => a47) fun l51 =>
cont ((IntKind.i64.wrap (v40 - 1)), l51)) (
doneA l41)

def f133v1.l2 (p1 p2 : Int) (v28 : Int) (l29 : List Edge) : Pg (Nx (Int × (List Edge)) (Ex (List Edge) Empty Empty)) :=
brr (decide (v28 < p2)) (
loop1 (v28, l29) (fun s52 => f133v1.l1 p1 p2 v28 s52.1 s52.2) (fun s52 => ([(0, H Edge 0), (1, V p1), (2, V p2), (3, .clo 74 []), (8, V v28), (9, V s52.1)], [(0, O s52.2)])) (.cut (.ext 2) fun x53 => ([(0, H Edge 0), (1, V p1), (2, V p2), (3, .clo 74 []), (8, V v28)], [(0, O x53)])) fun x53 =>
cont ((IntKind.i64.wrap (v28 + 1)), x53)) (
doneA (l29))

def f133v1 (p1 p2 : Int) (p3 : List Edge) : Pg (List Edge) :=
loop1 ((IntKind.i64.wrap (p1 + 1)), p3) (fun s54 => f133v1.l2 p1 p2 s54.1 s54.2) (fun s54 => ([(0, H Edge 0), (1, V p1), (2, V p2), (3, .clo 74 []), (8, V s54.1)], [(0, O s54.2)])) .inl fun r55 =>
.ret r55

theorem f133v1.ok (p1 p2 : Int) (p3 : List Edge) {x} (h : (f133v1 p1 p2 p3).run = some x) : Spec Tryz.prog 133 [H Edge 0, V p1, V p2, .clo 74 []] [O p3] (.tup []) [O x] :=
  Prg.ok Tryz.func133 (res := fun x => .tup []) (outs := fun x => [O x]) (by kernel_rfl) (by kernel_rfl) rfl h

def f149.l1 (p2 p3 : Int) (v20 : Int) (l21 : List Edge) : Pg (Nx (Int × (List Edge)) (Ex (List Edge) Empty Empty)) :=
brr (decide ((IntKind.i64.wrap ((IntKind.i64.wrap (2 * v20)) + 1)) ≥ p2)) (
doneA (l21)) (
join1 (.reg 3) (
brr (decide ((IntKind.i64.wrap ((IntKind.i64.wrap ((IntKind.i64.wrap (2 * v20)) + 1)) + 1)) < p2)) (
ck (IntKind.i64.wrap (p3 + (IntKind.i64.wrap ((IntKind.i64.wrap (2 * v20)) + 1)))) (L l21) <|
rd l21 (at0 (IntKind.i64.wrap (p3 + (IntKind.i64.wrap ((IntKind.i64.wrap (2 * v20)) + 1))))) fun a22 =>
let e23 : Int := (IntKind.i64.wrap ((IntKind.i64.wrap (p3 + (IntKind.i64.wrap ((IntKind.i64.wrap (2 * v20)) + 1)))) + 1))
ck e23 (L l21) <|
rd l21 (at0 e23) fun a24 =>
cl (f74.ok a22 a24) fun y25 =>
retA' (decide (y25 < 0))) (
retA' false)) (.cut .nat fun x26 => ([(0, H Edge 0), (2, V p2), (3, V p3), (4, .clo 74 []), (10, V v20), (11, V (IntKind.i64.wrap ((IntKind.i64.wrap (2 * v20)) + 1))), (40, V x26)], [(0, O l21)])) fun x26 =>
join1 (.cond 40) (
brr x26 (
retA' (IntKind.i64.wrap ((IntKind.i64.wrap ((IntKind.i64.wrap (2 * v20)) + 1)) + 1))) (
retA' (IntKind.i64.wrap ((IntKind.i64.wrap (2 * v20)) + 1)))) (.cut .nat fun x27 => ([(0, H Edge 0), (2, V p2), (3, V p3), (4, .clo 74 []), (10, V v20), (11, V x27)], [(0, O l21)])) fun x27 =>
ck (IntKind.i64.wrap (p3 + v20)) (L l21) <|
rd l21 (at0 (IntKind.i64.wrap (p3 + v20))) fun a28 =>
ck (IntKind.i64.wrap (p3 + x27)) (L l21) <|
rd l21 (at0 (IntKind.i64.wrap (p3 + x27))) fun a29 =>
cl (f74.ok a28 a29) fun y30 =>
brr (!(decide (y30 < 0))) (
doneA (l21)) (
ck (IntKind.i64.wrap (p3 + x27)) (L l21) <|
rd l21 (at0 (IntKind.i64.wrap (p3 + x27))) fun a31 =>
ck (IntKind.i64.wrap (p3 + v20)) (L l21) <|
rd l21 (at0 (IntKind.i64.wrap (p3 + v20))) fun a32 =>
ck (IntKind.i64.wrap (p3 + v20)) (L l21) <|
st l21 (at0 (IntKind.i64.wrap (p3 + v20))) (fun x33 => a31) fun l34 =>
ck (IntKind.i64.wrap (p3 + x27)) (L l34) <|
st l34 (at0 (IntKind.i64.wrap (p3 + x27))) (fun x35 => a32) fun l36 =>
cont (x27, l36)))

def f149 (p1 p2 p3 : Int) (p4 : List Edge) : Pg (List Edge) :=
loop1 (p1, p4) (fun s37 => f149.l1 p2 p3 s37.1 s37.2) (fun s37 => ([(0, H Edge 0), (2, V p2), (3, V p3), (4, .clo 74 []), (10, V s37.1)], [(0, O s37.2)])) .inl fun r38 =>
.ret r38

theorem f149.ok (p1 p2 p3 : Int) (p4 : List Edge) {x} (h : (f149 p1 p2 p3 p4).run = some x) : Spec Tryz.prog 149 [H Edge 0, V p1, V p2, V p3, .clo 74 []] [O p4] (.tup []) [O x] :=
  Prg.ok Tryz.func149 (res := fun x => .tup []) (outs := fun x => [O x]) (by kernel_rfl) (by kernel_rfl) rfl h

def f134.l2 (p1 : Int) (v18 : Int) (l19 : List Edge) : Pg (Nx (Int × (List Edge)) (Ex (List Edge) Empty Empty)) :=
brr (decide (v18 ≥ 0)) (
ck (IntKind.i64.wrap (p1 + v18)) (L l19) <|
rd l19 (at0 (IntKind.i64.wrap (p1 + v18))) fun a20 =>
ck p1 (L l19) <|
rd l19 (at0 p1) fun a21 =>
ck p1 (L l19) <|
st l19 (at0 p1) (fun x22 => a20) fun l23 =>
ck (IntKind.i64.wrap (p1 + v18)) (L l23) <|
st l23 (at0 (IntKind.i64.wrap (p1 + v18))) (fun x24 => a21) fun l25 =>
cl (f149.ok (0 : Int) v18 p1 l25) fun y26 =>
cont ((IntKind.i64.wrap (v18 - 1)), y26)) (
doneA (l19))

def f134.l1 (p1 p2 : Int) (v6 : Int) (l7 : List Edge) : Pg (Nx (Int × (List Edge)) (Ex (List Edge) Empty Empty)) :=
brr (decide (v6 ≥ 0)) (
cl (f149.ok v6 (IntKind.i64.wrap (p2 - p1)) p1 l7) fun y8 =>
cont ((IntKind.i64.wrap (v6 - 1)), y8)) (
doneA l7)

def f134 (p1 p2 : Int) (p3 : List Edge) : Pg (List Edge) :=
loop1 ((IntKind.i64.wrap ((IntKind.i64.wrap ((IntKind.i64.wrap (p2 - p1)) - 1)).tdiv 2)), p3) (fun s9 => f134.l1 p1 p2 s9.1 s9.2) (fun s9 => ([(0, H Edge 0), (3, .clo 74 []), (8, V p1), (9, V (0 : Int)), (10, V (IntKind.i64.wrap (p2 - p1))), (11, V s9.1)], [(0, O s9.2)])) (.cut (.ext 0) fun x10 => ([(0, H Edge 0), (3, .clo 74 []), (8, V p1), (9, V (0 : Int)), (10, V (IntKind.i64.wrap (p2 - p1)))], [(0, O x10)])) fun x10 =>
loop1 ((IntKind.i64.wrap ((IntKind.i64.wrap (p2 - p1)) - 1)), x10) (fun s27 => f134.l2 p1 s27.1 s27.2) (fun s27 => ([(0, H Edge 0), (3, .clo 74 []), (8, V p1), (9, V (0 : Int)), (12, V s27.1)], [(0, O s27.2)])) .inl fun r28 =>
.ret r28

theorem f134.ok (p1 p2 : Int) (p3 : List Edge) {x} (h : (f134 p1 p2 p3).run = some x) : Spec Tryz.prog 134 [H Edge 0, V p1, V p2, .clo 74 []] [O p3] (.tup []) [O x] :=
  Prg.ok Tryz.func134 (res := fun x => .tup []) (outs := fun x => [O x]) (by kernel_rfl) (by kernel_rfl) rfl h

def f150 (p1 : Int) : Pg Int :=
cl (f118.ok (IntKind.u64.wrap p1)) fun y2 =>
nnS y2 <|
.ret ((IntKind.u64.wrap (1 * (2 ^ (min (y2 : Int).toNat IntKind.u64.bits)))))

theorem f150.ok (p1 : Int) {x} (h : (f150 p1).run = some x) : Spec Tryz.prog 150 [V p1] [] (.pv (.int .u64 x)) [] :=
  Prg.ok Tryz.func150 (res := fun x => .pv (.int .u64 x)) (outs := fun x => []) (by kernel_rfl) (by kernel_rfl) rfl h

def f151 (p1 : Int) : Pg (Int × Int) :=
let e2 : Int := ((xorI .u64 p1 (IntKind.u64.wrap (p1 * (2 ^ (min (13 : Int).toNat IntKind.u64.bits))))).fdiv (2 ^ (min (7 : Int).toNat IntKind.u64.bits)))
let e3 : Int := (xorI .u64 (xorI .u64 p1 (IntKind.u64.wrap (p1 * (2 ^ (min (13 : Int).toNat IntKind.u64.bits))))) e2)
.ret (((xorI .u64 e3 (IntKind.u64.wrap (e3 * (2 ^ (min (17 : Int).toNat IntKind.u64.bits))))), (xorI .u64 e3 (IntKind.u64.wrap (e3 * (2 ^ (min (17 : Int).toNat IntKind.u64.bits)))))))

theorem f151.ok (p1 : Int) {x} (h : (f151 p1).run = some x) : Spec Tryz.prog 151 [R 0] [mkVar (.pv (.int .u64 p1))] (.pv (.int .u64 x.1)) [mkVar (.pv (.int .u64 x.2))] :=
  Prg.ok Tryz.func151 (res := fun x => .pv (.int .u64 x.1)) (outs := fun x => [mkVar (.pv (.int .u64 x.2))]) (by kernel_rfl) (by kernel_rfl) rfl h

def f135.l1 (p1 p2 y4 : Int) (v17 : Int) (l18 : List Edge) (l19 : Int) : Pg (Nx (Int × (List Edge) × Int) (Ex (List Edge) Empty Empty)) :=
let e20 : Int := (IntKind.i64.wrap (p1 + (IntKind.i64.wrap ((IntKind.i64.wrap ((IntKind.i64.wrap (p2 - p1)).tdiv 4)) * 2))))
brr (decide (v17 ≤ (IntKind.i64.wrap (e20 + 1)))) (
cl (f151.ok l19) fun y21 =>
let e22 : Bool := (decide ((IntKind.i64.wrap (andI .u64 y21.1 (IntKind.u64.wrap (y4 - 1)))) ≥ (IntKind.i64.wrap (p2 - p1))))
join1 (.cond 45) (
brr e22 (
let e23 : Int := (IntKind.i64.wrap ((IntKind.i64.wrap (andI .u64 y21.1 (IntKind.u64.wrap (y4 - 1)))) - (IntKind.i64.wrap (p2 - p1))))
retA' e23) (
retA' (IntKind.i64.wrap (andI .u64 y21.1 (IntKind.u64.wrap (y4 - 1)))))) (.cut .nat fun x24 => ([(0, H Edge 0), (1, V p1), (8, V (IntKind.i64.wrap (p2 - p1))), (9, R 101), (10, .pv (.int .u64 y4)), (11, V v17), (12, V x24)], [(0, O l18), (101, mkVar (.pv (.int .u64 y21.2)))])) fun x24 =>
ck (IntKind.i64.wrap (p1 + x24)) (L l18) <|
rd l18 (at0 (IntKind.i64.wrap (p1 + x24))) fun a25 =>
ck v17 (L l18) <|
rd l18 (at0 v17) fun a26 =>
ck v17 (L l18) <|
st l18 (at0 v17) (fun x27 => a25) fun l28 =>
ck (IntKind.i64.wrap (p1 + x24)) (L l28) <|
st l28 (at0 (IntKind.i64.wrap (p1 + x24))) (fun x29 => a26) fun l30 =>
cont ((IntKind.i64.wrap (v17 + 1)), l30, y21.2)) (
doneA (l18))

def f135 (p1 p2 : Int) (p3 : List Edge) : Pg (List Edge) :=
brr (decide ((IntKind.i64.wrap (p2 - p1)) ≥ 8)) (
cl (f150.ok (IntKind.i64.wrap (p2 - p1))) fun y4 =>
let e5 : Int := (IntKind.i64.wrap (p1 + (IntKind.i64.wrap ((IntKind.i64.wrap ((IntKind.i64.wrap (p2 - p1)).tdiv 4)) * 2))))
loop1 ((IntKind.i64.wrap (e5 - 1)), p3, (IntKind.u64.wrap (IntKind.i64.wrap (p2 - p1)))) (fun s31 => f135.l1 p1 p2 y4 s31.1 s31.2.1 s31.2.2) (fun s31 => ([(0, H Edge 0), (1, V p1), (8, V (IntKind.i64.wrap (p2 - p1))), (9, R 101), (10, .pv (.int .u64 y4)), (11, V s31.1)], [(0, O s31.2.1), (101, mkVar (.pv (.int .u64 s31.2.2)))])) .inl fun r32 =>
.ret r32) (
.ret (p3))

theorem f135.ok (p1 p2 : Int) (p3 : List Edge) {x} (h : (f135 p1 p2 p3).run = some x) : Spec Tryz.prog 135 [H Edge 0, V p1, V p2, .clo 74 []] [O p3] (.tup []) [O x] :=
  Prg.ok Tryz.func135 (res := fun x => .tup []) (outs := fun x => [O x]) (by kernel_rfl) (by kernel_rfl) rfl h

def f156 (p1 p2 : Int) (p3 : List Edge) (p4 : Int) : Pg (Int × Int × Int) :=
ck p2 (L p3) <|
rd p3 (at0 p2) fun a5 =>
ck p1 (L p3) <|
rd p3 (at0 p1) fun a6 =>
cl (f74.ok a5 a6) fun y7 =>
brr (decide (y7 < 0)) (
.ret ((p2, p1, (IntKind.i64.wrap (p4 + 1))))) (
.ret ((p1, p2, p4)))

theorem f156.ok (p1 p2 : Int) (p3 : List Edge) (p4 : Int) {x} (h : (f156 p1 p2 p3 p4).run = some x) : Spec Tryz.prog 156 [H Edge 0, V p1, V p2, R 2, .clo 74 []] [O p3, B p4] (.tup [V x.1, V x.2.1]) [O p3, B x.2.2] :=
  Prg.ok Tryz.func156 (res := fun x => .tup [V x.1, V x.2.1]) (outs := fun x => [O p3, B x.2.2]) (by kernel_rfl) (by kernel_rfl) rfl h

def f153 (p1 p2 p3 : Int) (p4 : List Edge) (p5 : Int) : Pg (Int × Int) :=
cl (f156.ok p1 p2 p4 p5) fun y6 =>
cl (f156.ok y6.2.1 p3 p4 y6.2.2) fun y7 =>
cl (f156.ok y6.1 y7.1 p4 y7.2.2) fun y8 =>
.ret ((y8.2.1, y8.2.2))

theorem f153.ok (p1 p2 p3 : Int) (p4 : List Edge) (p5 : Int) {x} (h : (f153 p1 p2 p3 p4 p5).run = some x) : Spec Tryz.prog 153 [H Edge 0, V p1, V p2, V p3, R 2, .clo 74 []] [O p4, B p5] (V x.1) [O p4, B x.2] :=
  Prg.ok Tryz.func153 (res := fun x => V x.1) (outs := fun x => [O p4, B x.2]) (by kernel_rfl) (by kernel_rfl) rfl h

def f152 (p1 : Int) (p2 : List Edge) (p3 : Int) : Pg (Int × Int) :=
cl (f153.ok (IntKind.i64.wrap (p1 - 1)) p1 (IntKind.i64.wrap (p1 + 1)) p2 p3) fun y4 =>
.ret ((y4.1, y4.2))

theorem f152.ok (p1 : Int) (p2 : List Edge) (p3 : Int) {x} (h : (f152 p1 p2 p3).run = some x) : Spec Tryz.prog 152 [H Edge 0, V p1, R 2, .clo 74 []] [O p2, B p3] (V x.1) [O p2, B x.2] :=
  Prg.ok Tryz.func152 (res := fun x => V x.1) (outs := fun x => [O p2, B x.2]) (by kernel_rfl) (by kernel_rfl) rfl h

def f136 (p1 p2 : Int) (p3 : List Edge) : Pg (Int × Int) :=
let e4 : Int := (IntKind.i64.wrap (p1 + (IntKind.i64.wrap ((IntKind.i64.wrap ((IntKind.i64.wrap (p2 - p1)).tdiv 4)) * 1))))
let e5 : Int := (IntKind.i64.wrap (p1 + (IntKind.i64.wrap ((IntKind.i64.wrap ((IntKind.i64.wrap (p2 - p1)).tdiv 4)) * 2))))
let e6 : Int := (IntKind.i64.wrap (p1 + (IntKind.i64.wrap ((IntKind.i64.wrap ((IntKind.i64.wrap (p2 - p1)).tdiv 4)) * 3))))
join1 (.cond 34) (
brr (decide ((IntKind.i64.wrap (p2 - p1)) ≥ 8)) (
join1 (.cond 36) (
brr (decide ((IntKind.i64.wrap (p2 - p1)) ≥ 50)) (
cl (f152.ok e4 p3 (0 : Int)) fun y7 =>
cl (f152.ok e5 p3 y7.2) fun y8 =>
cl (f152.ok e6 p3 y8.2) fun y9 =>
retA' (y7.1, y8.1, y9.1, y9.2)) (
retA' (e4, e5, e6, (0 : Int)))) (.cut .nat fun x10 => ([(0, H Edge 0), (3, .clo 74 []), (11, R 101), (12, V x10.1), (13, V x10.2.1), (14, V x10.2.2.1)], [(0, O p3), (101, B x10.2.2.2)])) fun x10 =>
cl (f153.ok x10.1 x10.2.1 x10.2.2.1 p3 x10.2.2.2) fun y11 =>
retA' (y11.1, y11.2)) (
retA' (e5, (0 : Int)))) (.cut .nat fun x12 => ([(11, R 101), (13, V x12.1)], [(0, O p3), (101, B x12.2)])) fun x12 =>
brr (x12.2 == 0) (
.ret ((x12.1, (1 : Int)))) (
brr (x12.2 == 12) (
.ret ((x12.1, (2 : Int)))) (
.ret ((x12.1, (0 : Int)))))

theorem f136.ok (p1 p2 : Int) (p3 : List Edge) {x} (h : (f136 p1 p2 p3).run = some x) : Spec Tryz.prog 136 [H Edge 0, V p1, V p2, .clo 74 []] [O p3] (.tup [V x.1, V x.2]) [O p3] :=
  Prg.ok Tryz.func136 (res := fun x => .tup [V x.1, V x.2]) (outs := fun x => [O p3]) (by kernel_rfl) (by kernel_rfl) rfl h

def f137.l1 (v10 v11 : Int) (l12 : List Edge) : Pg (Nx (Int × Int × (List Edge)) (Ex (List Edge) Empty Empty)) :=
brr (decide (v10 < v11)) (
ck v11 (L l12) <|
rd l12 (at0 v11) fun a13 =>
ck v10 (L l12) <|
rd l12 (at0 v10) fun a14 =>
ck v10 (L l12) <|
st l12 (at0 v10) (fun x15 => a13) fun l16 =>
ck v11 (L l16) <|
st l16 (at0 v11) (fun x17 => a14) fun l18 =>
cont ((IntKind.i64.wrap (v10 + 1)), (IntKind.i64.wrap (v11 - 1)), l18)) (
doneA (l12))

def f137 (p1 p2 : Int) (p3 : List Edge) : Pg (List Edge) :=
loop1 (p1, (IntKind.i64.wrap (p2 - 1)), p3) (fun s19 => f137.l1 s19.1 s19.2.1 s19.2.2) (fun s19 => ([(0, H Edge 0), (8, V s19.1), (9, V s19.2.1)], [(0, O s19.2.2)])) .inl fun r20 =>
.ret r20

theorem f137.ok (p1 p2 : Int) (p3 : List Edge) {x} (h : (f137 p1 p2 p3).run = some x) : Spec Tryz.prog 137 [H Edge 0, V p1, V p2, .clo 74 []] [O p3] (.tup []) [O x] :=
  Prg.ok Tryz.func137 (res := fun x => .tup []) (outs := fun x => [O x]) (by kernel_rfl) (by kernel_rfl) rfl h

def f138.l2 (v91 : Int) (l92 : List Edge) : Pg (Nx (Int × (List Edge)) (Ex (List Edge) Empty Empty)) :=
brr (decide (v91 ≥ 1)) (
ck v91 (L l92) <|
rd l92 (at0 v91) fun a93 =>
ck (IntKind.i64.wrap (v91 - 1)) (L l92) <|
rd l92 (at0 (IntKind.i64.wrap (v91 - 1))) fun a94 =>
cl (f74.ok a93 a94) fun y95 =>
brr (!(decide (y95 < 0))) (
doneA l92) (
ck (IntKind.i64.wrap (v91 - 1)) (L l92) <|
rd l92 (at0 (IntKind.i64.wrap (v91 - 1))) fun a96 =>
ck v91 (L l92) <|
rd l92 (at0 v91) fun a97 =>
ck v91 (L l92) <|
st l92 (at0 v91) (fun x98 => a96) fun l99 =>
ck (IntKind.i64.wrap (v91 - 1)) (L l99) <|
st l99 (at0 (IntKind.i64.wrap (v91 - 1))) (fun x100 => a97) fun l101 =>
cont ((IntKind.i64.wrap (v91 - 1)), l101))) (
doneA l92)

def f138.l3 (p2 : Int) (v114 : Int) (l115 : List Edge) : Pg (Nx (Int × (List Edge)) (Ex (List Edge) Empty Empty)) :=
brr (decide (v114 < p2)) (
ck v114 (L l115) <|
rd l115 (at0 v114) fun a116 =>
ck (IntKind.i64.wrap (v114 - 1)) (L l115) <|
rd l115 (at0 (IntKind.i64.wrap (v114 - 1))) fun a117 =>
cl (f74.ok a116 a117) fun y118 =>
brr (!(decide (y118 < 0))) (
doneA l115) (
ck (IntKind.i64.wrap (v114 - 1)) (L l115) <|
rd l115 (at0 (IntKind.i64.wrap (v114 - 1))) fun a119 =>
ck v114 (L l115) <|
rd l115 (at0 v114) fun a120 =>
ck v114 (L l115) <|
st l115 (at0 v114) (fun x121 => a119) fun l122 =>
ck (IntKind.i64.wrap (v114 - 1)) (L l122) <|
st l122 (at0 (IntKind.i64.wrap (v114 - 1))) (fun x123 => a120) fun l124 =>
cont ((IntKind.i64.wrap (v114 + 1)), l124))) (
doneA l115)

def f138.l1 (p2 : Int) (l66 : List Edge) (v70 : Int) : Pg (Nx Int (Ex Int Empty Empty)) :=
brr (decide (v70 < p2)) (
ck v70 (L l66) <|
rd l66 (at0 v70) fun a71 =>
ck (IntKind.i64.wrap (v70 - 1)) (L l66) <|
rd l66 (at0 (IntKind.i64.wrap (v70 - 1))) fun a72 =>
cl (f74.ok a71 a72) fun y73 =>
brr (!(decide (y73 < 0))) (
cont (IntKind.i64.wrap (v70 + 1))) (
doneA v70)) (
doneA v70)

def f138.l4 (p1 p2 : Int) (v64 v65 : Int) (l66 : List Edge) : Pg (Nx (Int × Int × (List Edge)) (Ex (Bool × (List Edge)) (List Edge) Empty)) :=
brr (decide (v65 < 5)) (
loop1 v64 (fun s74 => f138.l1 p2 l66 s74) (fun s74 => ([(0, H Edge 0), (1, V p1), (2, V p2), (3, .clo 74 []), (9, V s74), (10, V v65)], [(0, O l66)])) (.cut (.ext 2) fun x75 => ([(0, H Edge 0), (1, V p1), (2, V p2), (3, .clo 74 []), (9, V x75), (10, V v65)], [(0, O l66)])) fun x75 =>
brr (x75 == p2) (
doneA ((true, l66))) (
brr (decide ((IntKind.i64.wrap (p2 - p1)) < 50)) (
doneA ((false, l66))) (
ck (IntKind.i64.wrap (x75 - 1)) (L l66) <|
rd l66 (at0 (IntKind.i64.wrap (x75 - 1))) fun a76 =>
ck x75 (L l66) <|
rd l66 (at0 x75) fun a77 =>
ck x75 (L l66) <|
st l66 (at0 x75) (fun x78 => a76) fun l79 =>
ck (IntKind.i64.wrap (x75 - 1)) (L l79) <|
st l79 (at0 (IntKind.i64.wrap (x75 - 1))) (fun x80 => a77) fun l81 =>
join1 (.cond 65) (
brr (decide ((IntKind.i64.wrap (x75 - p1)) ≥ 2)) (
loop1 ((IntKind.i64.wrap (x75 - 1)), l81) (fun s102 => f138.l2 s102.1 s102.2) (fun s102 => ([(0, H Edge 0), (1, V p1), (2, V p2), (3, .clo 74 []), (9, V x75), (10, V v65), (11, V s102.1)], [(0, O s102.2)])) (.cut (.ext 4) fun x103 => ([(0, H Edge 0), (1, V p1), (2, V p2), (3, .clo 74 []), (9, V x75), (10, V v65)], [(0, O x103)])) fun x103 =>
retA' x103) (
retA' l81)) (.cut .nat fun x104 => ([(0, H Edge 0), (1, V p1), (2, V p2), (3, .clo 74 []), (9, V x75), (10, V v65)], [(0, O x104)])) fun x104 =>
brr (decide ((IntKind.i64.wrap (p2 - x75)) ≥ 2)) (
loop1 ((IntKind.i64.wrap (x75 + 1)), x104) (fun s125 => f138.l3 p2 s125.1 s125.2) (fun s125 => ([(0, H Edge 0), (1, V p1), (2, V p2), (3, .clo 74 []), (9, V x75), (10, V v65), (12, V s125.1)], [(0, O s125.2)])) (.cut (.ext 6) fun x126 => ([(0, H Edge 0), (1, V p1), (2, V p2), (3, .clo 74 []), (9, V x75), (10, V v65)], [(0, O x126)])) fun x126 =>
cont (x75, (IntKind.i64.wrap (v65 + 1)), x126)) (
cont (x75, (IntKind.i64.wrap (v65 + 1)), x104))))) (
doneB l66)

def f138 (p1 p2 : Int) (p3 : List Edge) : Pg (Bool × (List Edge)) :=
loop2 ((IntKind.i64.wrap (p1 + 1)), (0 : Int), p3) (fun s127 => f138.l4 p1 p2 s127.1 s127.2.1 s127.2.2) (fun s127 => ([(0, H Edge 0), (1, V p1), (2, V p2), (3, .clo 74 []), (9, V s127.1), (10, V s127.2.1)], [(0, O s127.2.2)])) .inl (fun r128 =>
.ret r128) (.cut (.ext 0) fun x129 => ([], [(0, O x129)])) fun x129 =>
.ret ((false, x129))

theorem f138.ok (p1 p2 : Int) (p3 : List Edge) {x} (h : (f138 p1 p2 p3).run = some x) : Spec Tryz.prog 138 [H Edge 0, V p1, V p2, .clo 74 []] [O p3] (V x.1) [O x.2] :=
  Prg.ok Tryz.func138 (res := fun x => V x.1) (outs := fun x => [O x.2]) (by kernel_rfl) (by kernel_rfl) rfl h

def f139.l2 (p1 : Int) (l37 : List Edge) (x46 : Int) (v50 : Int) : Pg (Nx Int (Ex Int Empty Empty)) :=
brr (decide (x46 ≤ v50)) (
ck p1 (L l37) <|
rd l37 (at0 p1) fun a51 =>
ck v50 (L l37) <|
rd l37 (at0 v50) fun a52 =>
cl (f74.ok a51 a52) fun y53 =>
brr (decide (y53 < 0)) (
cont (IntKind.i64.wrap (v50 - 1))) (
doneA v50)) (
doneA v50)

def f139.l1 (p1 v36 : Int) (l37 : List Edge) (v41 : Int) : Pg (Nx Int (Ex Int Empty Empty)) :=
brr (decide (v41 ≤ v36)) (
ck p1 (L l37) <|
rd l37 (at0 p1) fun a42 =>
ck v41 (L l37) <|
rd l37 (at0 v41) fun a43 =>
cl (f74.ok a42 a43) fun y44 =>
brr (!(decide (y44 < 0))) (
cont (IntKind.i64.wrap (v41 + 1))) (
doneA v41)) (
doneA v41)

def f139.l3 (p1 : Int) (v35 v36 : Int) (l37 : List Edge) : Pg (Nx (Int × Int × (List Edge)) (Ex (Int × (List Edge)) Empty Empty)) :=
loop1 v35 (fun s45 => f139.l1 p1 v36 l37 s45) (fun s45 => ([(0, H Edge 0), (1, V p1), (4, .clo 74 []), (11, V s45), (12, V v36)], [(0, O l37)])) (.cut (.ext 2) fun x46 => ([(0, H Edge 0), (1, V p1), (4, .clo 74 []), (11, V x46), (12, V v36)], [(0, O l37)])) fun x46 =>
loop1 v36 (fun s54 => f139.l2 p1 l37 x46 s54) (fun s54 => ([(0, H Edge 0), (1, V p1), (4, .clo 74 []), (11, V x46), (12, V s54)], [(0, O l37)])) (.cut (.ext 4) fun x55 => ([(0, H Edge 0), (1, V p1), (4, .clo 74 []), (11, V x46), (12, V x55)], [(0, O l37)])) fun x55 =>
brr (decide (x46 > x55)) (
doneA (x46, l37)) (
ck x55 (L l37) <|
rd l37 (at0 x55) fun a56 =>
ck x46 (L l37) <|
rd l37 (at0 x46) fun a57 =>
ck x46 (L l37) <|
st l37 (at0 x46) (fun x58 => a56) fun l59 =>
ck x55 (L l59) <|
st l59 (at0 x55) (fun x60 => a57) fun l61 =>
cont ((IntKind.i64.wrap (x46 + 1)), (IntKind.i64.wrap (x55 - 1)), l61))

def f139 (p1 p2 p3 : Int) (p4 : List Edge) : Pg (Int × (List Edge)) :=
ck p3 (L p4) <|
rd p4 (at0 p3) fun a5 =>
ck p1 (L p4) <|
rd p4 (at0 p1) fun a6 =>
ck p1 (L p4) <|
st p4 (at0 p1) (fun x7 => a5) fun l8 =>
ck p3 (L l8) <|
st l8 (at0 p3) (fun x9 => a6) fun l10 =>
loop1 ((IntKind.i64.wrap (p1 + 1)), (IntKind.i64.wrap (p2 - 1)), l10) (fun s62 => f139.l3 p1 s62.1 s62.2.1 s62.2.2) (fun s62 => ([(0, H Edge 0), (1, V p1), (4, .clo 74 []), (11, V s62.1), (12, V s62.2.1)], [(0, O s62.2.2)])) (.cut (.ext 0) fun x63 => ([(11, V x63.1)], [(0, O x63.2)])) fun x63 =>
.ret ((x63.1, x63.2))

theorem f139.ok (p1 p2 p3 : Int) (p4 : List Edge) {x} (h : (f139 p1 p2 p3 p4).run = some x) : Spec Tryz.prog 139 [H Edge 0, V p1, V p2, V p3, .clo 74 []] [O p4] (V x.1) [O x.2] :=
  Prg.ok Tryz.func139 (res := fun x => V x.1) (outs := fun x => [O x.2]) (by kernel_rfl) (by kernel_rfl) rfl h

def f140.l4 (p1 : Int) (l67 : List Edge) (x76 : Int) (v80 : Int) : Pg (Nx Int (Ex Int Empty Empty)) :=
brr (decide (x76 ≤ v80)) (
ck v80 (L l67) <|
rd l67 (at0 v80) fun a81 =>
ck p1 (L l67) <|
rd l67 (at0 p1) fun a82 =>
cl (f74.ok a81 a82) fun y83 =>
brr (!(decide (y83 < 0))) (
cont (IntKind.i64.wrap (v80 - 1))) (
doneA v80)) (
doneA v80)

def f140.l3 (p1 v66 : Int) (l67 : List Edge) (v71 : Int) : Pg (Nx Int (Ex Int Empty Empty)) :=
brr (decide (v71 ≤ v66)) (
ck v71 (L l67) <|
rd l67 (at0 v71) fun a72 =>
ck p1 (L l67) <|
rd l67 (at0 p1) fun a73 =>
cl (f74.ok a72 a73) fun y74 =>
brr (decide (y74 < 0)) (
cont (IntKind.i64.wrap (v71 + 1))) (
doneA v71)) (
doneA v71)

def f140.l5 (p1 : Int) (v65 v66 : Int) (l67 : List Edge) : Pg (Nx (Int × Int × (List Edge)) (Ex (Int × (List Edge)) Empty Empty)) :=
loop1 v65 (fun s75 => f140.l3 p1 v66 l67 s75) (fun s75 => ([(0, H Edge 0), (1, V p1), (4, .clo 74 []), (12, V s75), (13, V v66)], [(0, O l67)])) (.cut (.ext 6) fun x76 => ([(0, H Edge 0), (1, V p1), (4, .clo 74 []), (12, V x76), (13, V v66)], [(0, O l67)])) fun x76 =>
loop1 v66 (fun s84 => f140.l4 p1 l67 x76 s84) (fun s84 => ([(0, H Edge 0), (1, V p1), (4, .clo 74 []), (12, V x76), (13, V s84)], [(0, O l67)])) (.cut (.ext 8) fun x85 => ([(0, H Edge 0), (1, V p1), (4, .clo 74 []), (12, V x76), (13, V x85)], [(0, O l67)])) fun x85 =>
brr (decide (x76 > x85)) (
doneA (x85, l67)) (
ck x85 (L l67) <|
rd l67 (at0 x85) fun a86 =>
ck x76 (L l67) <|
rd l67 (at0 x76) fun a87 =>
ck x76 (L l67) <|
st l67 (at0 x76) (fun x88 => a86) fun l89 =>
ck x85 (L l89) <|
st l89 (at0 x85) (fun x90 => a87) fun l91 =>
cont ((IntKind.i64.wrap (x76 + 1)), (IntKind.i64.wrap (x85 - 1)), l91))

def f140.l2 (p1 : Int) (l10 : List Edge) (x19 : Int) (v23 : Int) : Pg (Nx Int (Ex Int Empty Empty)) :=
brr (decide (x19 ≤ v23)) (
ck v23 (L l10) <|
rd l10 (at0 v23) fun a24 =>
ck p1 (L l10) <|
rd l10 (at0 p1) fun a25 =>
cl (f74.ok a24 a25) fun y26 =>
brr (!(decide (y26 < 0))) (
cont (IntKind.i64.wrap (v23 - 1))) (
doneA v23)) (
doneA v23)

def f140.l1 (p1 p2 : Int) (l10 : List Edge) (v14 : Int) : Pg (Nx Int (Ex Int Empty Empty)) :=
brr (decide (v14 ≤ (IntKind.i64.wrap (p2 - 1)))) (
ck v14 (L l10) <|
rd l10 (at0 v14) fun a15 =>
ck p1 (L l10) <|
rd l10 (at0 p1) fun a16 =>
cl (f74.ok a15 a16) fun y17 =>
brr (decide (y17 < 0)) (
cont (IntKind.i64.wrap (v14 + 1))) (
doneA v14)) (
doneA v14)

def f140 (p1 p2 p3 : Int) (p4 : List Edge) : Pg (Int × Bool × (List Edge)) :=
ck p3 (L p4) <|
rd p4 (at0 p3) fun a5 =>
ck p1 (L p4) <|
rd p4 (at0 p1) fun a6 =>
ck p1 (L p4) <|
st p4 (at0 p1) (fun x7 => a5) fun l8 =>
ck p3 (L l8) <|
st l8 (at0 p3) (fun x9 => a6) fun l10 =>
loop1 (IntKind.i64.wrap (p1 + 1)) (fun s18 => f140.l1 p1 p2 l10 s18) (fun s18 => ([(0, H Edge 0), (1, V p1), (4, .clo 74 []), (12, V s18), (13, V (IntKind.i64.wrap (p2 - 1)))], [(0, O l10)])) (.cut (.ext 0) fun x19 => ([(0, H Edge 0), (1, V p1), (4, .clo 74 []), (12, V x19), (13, V (IntKind.i64.wrap (p2 - 1)))], [(0, O l10)])) fun x19 =>
loop1 (IntKind.i64.wrap (p2 - 1)) (fun s27 => f140.l2 p1 l10 x19 s27) (fun s27 => ([(0, H Edge 0), (1, V p1), (4, .clo 74 []), (12, V x19), (13, V s27)], [(0, O l10)])) (.cut (.ext 2) fun x28 => ([(0, H Edge 0), (1, V p1), (4, .clo 74 []), (12, V x19), (13, V x28)], [(0, O l10)])) fun x28 =>
brr (decide (x19 > x28)) (
ck p1 (L l10) <|
rd l10 (at0 p1) fun a29 =>
ck x28 (L l10) <|
rd l10 (at0 x28) fun a30 =>
ck x28 (L l10) <|
st l10 (at0 x28) (fun x31 => a29) fun l32 =>
ck p1 (L l32) <|
st l32 (at0 p1) (fun x33 => a30) fun l34 =>
.ret ((x28, true, l34))) (
ck x28 (L l10) <|
rd l10 (at0 x28) fun a35 =>
ck x19 (L l10) <|
rd l10 (at0 x19) fun a36 =>
ck x19 (L l10) <|
st l10 (at0 x19) (fun x37 => a35) fun l38 =>
ck x28 (L l38) <|
st l38 (at0 x28) (fun x39 => a36) fun l40 =>
loop1 ((IntKind.i64.wrap (x19 + 1)), (IntKind.i64.wrap (x28 - 1)), l40) (fun s92 => f140.l5 p1 s92.1 s92.2.1 s92.2.2) (fun s92 => ([(0, H Edge 0), (1, V p1), (4, .clo 74 []), (12, V s92.1), (13, V s92.2.1)], [(0, O s92.2.2)])) (.cut (.ext 4) fun x93 => ([(0, H Edge 0), (1, V p1), (13, V x93.1)], [(0, O x93.2)])) fun x93 =>
ck p1 (L x93.2) <|
rd x93.2 (at0 p1) fun a94 =>
ck x93.1 (L x93.2) <|
rd x93.2 (at0 x93.1) fun a95 =>
ck x93.1 (L x93.2) <|
st x93.2 (at0 x93.1) (fun x96 => a94) fun l97 =>
ck p1 (L l97) <|
st l97 (at0 p1) (fun x98 => a95) fun l99 =>
.ret ((x93.1, false, l99)))

theorem f140.ok (p1 p2 p3 : Int) (p4 : List Edge) {x} (h : (f140 p1 p2 p3 p4).run = some x) : Spec Tryz.prog 140 [H Edge 0, V p1, V p2, V p3, .clo 74 []] [O p4] (.tup [V x.1, V x.2.1]) [O x.2.2] :=
  Prg.ok Tryz.func140 (res := fun x => .tup [V x.1, V x.2.1]) (outs := fun x => [O x.2.2]) (by kernel_rfl) (by kernel_rfl) rfl h

def f117v1.l1 (self : Int → Int → Int → (List Edge) → Option (List Edge)) (hself : ∀ (p1 p2 p3 : Int) (p4 : List Edge) {x : List Edge}, self p1 p2 p3 p4 = some x → Spec Tryz.prog 117 [H Edge 0, V p1, V p2, V p3, .clo 74 []] [O p4] (.tup []) [O x]) (v25 v26 v27 : Int) (v28 v29 : Bool) (l30 : List Edge) : Pg (Nx (Int × Int × Int × Bool × Bool × (List Edge)) (Ex (List Edge) Empty Empty)) :=
brr (decide ((IntKind.i64.wrap (v26 - v25)) ≤ 12)) (
cl (f133v1.ok v25 v26 l30) fun y31 =>
doneA (y31)) (
brr (v27 == 0) (
cl (f134.ok v25 v26 l30) fun y32 =>
doneA (y32)) (
join1 (.cond 39) (
brr (!v28) (
cl (f135.ok v25 v26 l30) fun y33 =>
retA' ((IntKind.i64.wrap (v27 - 1)), y33)) (
retA' (v27, l30))) (.cut .nat fun x34 => ([(0, H Edge 0), (1, V v25), (2, V v26), (3, V x34.1), (4, .clo 74 []), (10, V v28), (11, V v29), (12, V (IntKind.i64.wrap (v26 - v25)))], [(0, O x34.2)])) fun x34 =>
cl (f136.ok v25 v26 x34.2) fun y35 =>
join1 (.cond 56) (
brr (y35.2 == 2) (
cl (f137.ok v25 v26 x34.2) fun y36 =>
retA' ((IntKind.i64.wrap ((IntKind.i64.wrap (v26 - 1)) - (IntKind.i64.wrap (y35.1 - v25)))), (1 : Int), y36)) (
retA' (y35.1, y35.2, x34.2))) (.cut .nat fun x37 => ([(0, H Edge 0), (1, V v25), (2, V v26), (3, V x34.1), (4, .clo 74 []), (10, V v28), (11, V v29), (12, V (IntKind.i64.wrap (v26 - v25))), (13, V x37.1), (14, V x37.2.1)], [(0, O x37.2.2)])) fun x37 =>
join2 (.cond 75) (
brr ((v28 && v29) && (x37.2.1 == 1)) (
cl (f138.ok v25 v26 x37.2.2) fun y38 =>
brr y38.1 (
retA' (y38.2)) (
retB' y38.2)) (
retB' x37.2.2)) .inl (fun r39 =>
doneA r39) (.cut .nat fun x40 => ([(0, H Edge 0), (1, V v25), (2, V v26), (3, V x34.1), (4, .clo 74 []), (10, V v28), (11, V v29), (12, V (IntKind.i64.wrap (v26 - v25))), (13, V x37.1)], [(0, O x40)])) fun x40 =>
join1 (.reg 17) (
brr (decide (v25 > 0)) (
ck (IntKind.i64.wrap (v25 - 1)) (L x40) <|
rd x40 (at0 (IntKind.i64.wrap (v25 - 1))) fun a41 =>
ck x37.1 (L x40) <|
rd x40 (at0 x37.1) fun a42 =>
cl (f74.ok a41 a42) fun y43 =>
retA' (!(decide (y43 < 0)))) (
retA' false)) (.cut .nat fun x44 => ([(0, H Edge 0), (1, V v25), (2, V v26), (3, V x34.1), (4, .clo 74 []), (10, V v28), (11, V v29), (12, V (IntKind.i64.wrap (v26 - v25))), (13, V x37.1), (97, V x44)], [(0, O x40)])) fun x44 =>
brr x44 (
cl (f139.ok v25 v26 x37.1 x40) fun y45 =>
cont (y45.1, v26, x34.1, v28, v29, y45.2)) (
cl (f140.ok v25 v26 x37.1 x40) fun y46 =>
brr (decide ((IntKind.i64.wrap (y46.1 - v25)) < (IntKind.i64.wrap (v26 - y46.1)))) (
let e47 : Bool := (decide ((IntKind.i64.wrap (y46.1 - v25)) ≥ (IntKind.i64.wrap ((IntKind.i64.wrap (v26 - v25)).tdiv 8))))
cls (hself v25 y46.1 x34.1 y46.2.2) fun y48 =>
cont ((IntKind.i64.wrap (y46.1 + 1)), v26, x34.1, e47, y46.2.1, y48)) (
let e49 : Bool := (decide ((IntKind.i64.wrap (v26 - y46.1)) ≥ (IntKind.i64.wrap ((IntKind.i64.wrap (v26 - v25)).tdiv 8))))
cls (hself (IntKind.i64.wrap (y46.1 + 1)) v26 x34.1 y46.2.2) fun y50 =>
cont (v25, y46.1, x34.1, e49, y46.2.1, y50)))))

def f117v1.body (self : Int → Int → Int → (List Edge) → Option (List Edge)) (hself : ∀ (p1 p2 p3 : Int) (p4 : List Edge) {x : List Edge}, self p1 p2 p3 p4 = some x → Spec Tryz.prog 117 [H Edge 0, V p1, V p2, V p3, .clo 74 []] [O p4] (.tup []) [O x]) (p1 p2 p3 : Int) (p4 : List Edge) : Pg (List Edge) :=
loop1 (p1, p2, p3, true, true, p4) (fun s51 => f117v1.l1 self hself s51.1 s51.2.1 s51.2.2.1 s51.2.2.2.1 s51.2.2.2.2.1 s51.2.2.2.2.2) (fun s51 => ([(0, H Edge 0), (1, V s51.1), (2, V s51.2.1), (3, V s51.2.2.1), (4, .clo 74 []), (10, V s51.2.2.2.1), (11, V s51.2.2.2.2.1)], [(0, O s51.2.2.2.2.2)])) .inl fun r52 =>
.ret r52

theorem f117v1.body.ok (self : Int → Int → Int → (List Edge) → Option (List Edge)) (hself : ∀ (p1 p2 p3 : Int) (p4 : List Edge) {x : List Edge}, self p1 p2 p3 p4 = some x → Spec Tryz.prog 117 [H Edge 0, V p1, V p2, V p3, .clo 74 []] [O p4] (.tup []) [O x]) (p1 p2 p3 : Int) (p4 : List Edge) {x} (h : (f117v1.body self hself p1 p2 p3 p4).run = some x) : Spec Tryz.prog 117 [H Edge 0, V p1, V p2, V p3, .clo 74 []] [O p4] (.tup []) [O x] :=
  Prg.ok Tryz.func117 (res := fun x => .tup []) (outs := fun x => [O x]) (by kernel_rfl) (by kernel_rfl) rfl h

def f117v1.fuel : Nat → {self : Int → Int → Int → (List Edge) → Option (List Edge) // ∀ (p1 p2 p3 : Int) (p4 : List Edge) {x : List Edge}, self p1 p2 p3 p4 = some x → Spec Tryz.prog 117 [H Edge 0, V p1, V p2, V p3, .clo 74 []] [O p4] (.tup []) [O x]}
  | 0 => ⟨fun _ _ _ _ => none, fun _ _ _ _ {_} h => nomatch h⟩
  | n + 1 => ⟨fun p1 p2 p3 p4 => (f117v1.body (f117v1.fuel n).1 (f117v1.fuel n).2 p1 p2 p3 p4).run, fun p1 p2 p3 p4 {_} h => f117v1.body.ok (f117v1.fuel n).1 (f117v1.fuel n).2 p1 p2 p3 p4 h⟩

def f117v1 (p1 p2 p3 : Int) (p4 : List Edge) : Option (List Edge) := (f117v1.fuel Go.Fx.fuel).1 p1 p2 p3 p4
theorem f117v1.ok (p1 p2 p3 : Int) (p4 : List Edge) {x} (h : f117v1 p1 p2 p3 p4 = some x) : Spec Tryz.prog 117 [H Edge 0, V p1, V p2, V p3, .clo 74 []] [O p4] (.tup []) [O x] := (f117v1.fuel Go.Fx.fuel).2 p1 p2 p3 p4 h

def f73v1 (p1 : List Edge) : Pg (List Edge) :=
cl (f118.ok (IntKind.u64.wrap (L p1 : Int))) fun y2 =>
cls (f117v1.ok (0 : Int) (L p1 : Int) y2 p1) fun y3 =>
.ret (y3)

theorem f73v1.ok (p1 : List Edge) {x} (h : (f73v1 p1).run = some x) : Spec Tryz.prog 73 [H Edge 0, .clo 74 []] [O p1] (.tup []) [O x] :=
  Prg.ok Tryz.func73 (res := fun x => .tup []) (outs := fun x => [O x]) (by kernel_rfl) (by kernel_rfl) rfl h

def f38.l1 (p1 : List Edge) (p2 : Int) (p3 : List (List Edge)) (p4 : List A3_Int) (p5 : List (Int × Bool)) (v14 : Int) (l15 : List Edge) : Pg (Nx (Int × (List Edge)) (Ex (List Edge) Empty Empty)) :=
brr (decide (v14 < (L p1 : Int))) (
getR p1 v14 fun a16 =>
join1 (.reg 5) (
brr a16.Directed (
brr (a16.From == p2) (
brr (a16.To != p2) (
cl (f86.ok a16.To p3 p4 p5) fun y17 =>
retA' y17) (
retA' false)) (
retA' false)) (
retA' false)) (.cut .nat fun x18 => ([(1, V p2), (2, .bnd 86 (R 0)), (7, H Edge 101), (9, R 103), (10, V p1), (11, V (L p1 : Int)), (12, V v14), (35, V x18)], [(0, .svar [Ar 24 p3, .mp 2, Ar 24 p4]), (2, MO false p5), (101, O l15), (103, B a16)])) fun x18 =>
brr x18 (
ap l15 ([a16] : List Edge) fun l19 =>
cont ((IntKind.i64.wrap (v14 + 1)), l19)) (
cont ((IntKind.i64.wrap (v14 + 1)), l15))) (
doneA l15)

def f38 (p1 : List Edge) (p2 : Int) (p3 : List (List Edge)) (p4 : List A3_Int) (p5 : List (Int × Bool)) : Pg (List Edge) :=
loop1 ((0 : Int), ([] : List Edge)) (fun s20 => f38.l1 p1 p2 p3 p4 p5 s20.1 s20.2) (fun s20 => ([(1, V p2), (2, .bnd 86 (R 0)), (7, H Edge 505), (10, V p1), (11, V (L p1 : Int)), (12, V s20.1)], [(0, .svar [Ar 24 p3, .mp 2, Ar 24 p4]), (2, MO false p5), (505, O s20.2)])) (.cut (.ext 0) fun x21 => ([(7, H Edge 101)], [(0, .svar [Ar 24 p3, .mp 2, Ar 24 p4]), (2, MO false p5), (101, O x21)])) fun x21 =>
cl (f73v1.ok x21) fun y22 =>
.ret (y22)

theorem f38.ok (p1 : List Edge) (p2 : Int) (p3 : List (List Edge)) (p4 : List A3_Int) (p5 : List (Int × Bool)) {x} (h : (f38 p1 p2 p3 p4 p5).run = some x) : Spec Tryz.prog 38 [V p1, V p2, .bnd 86 (R 0)] [.svar [Ar 24 p3, .mp 2, Ar 24 p4], MO false p5] (V x) [.svar [Ar 24 p3, .mp 2, Ar 24 p4], MO false p5] :=
  Prg.ok Tryz.func38 (res := fun x => V x) (outs := fun x => [.svar [Ar 24 p3, .mp 2, Ar 24 p4], MO false p5]) (by kernel_rfl) (by kernel_rfl) rfl h

def f47.l2 (p1 : List Vertex) (p2 : List Edge) (x15 : (List A3_Int) × (List (Int × Bool))) (v22 : Int) (l23 : List (List Edge)) : Pg (Nx (Int × (List (List Edge))) (Ex (List (List Edge)) Empty Empty)) :=
brr (decide (v22 < (L p1 : Int))) (
getR p1 v22 fun a24 =>
look x15.2 a24.ID (false : Bool) fun a25 b26 =>
brr a25 (
cl (f38.ok p2 a24.ID l23 x15.1 x15.2) fun y27 =>
ck a24.ID 24 <|
st l23 a24.ID.toNat (fun x28 => y27) fun l29 =>
cont ((IntKind.i64.wrap (v22 + 1)), l29)) (
cont ((IntKind.i64.wrap (v22 + 1)), l23))) (
doneA l23)

def f47.l1 (p1 : List Vertex) (v7 : Int) (l8 : List A3_Int) (l9 : List (Int × Bool)) : Pg (Nx (Int × (List A3_Int) × (List (Int × Bool))) (Ex ((List A3_Int) × (List (Int × Bool))) Empty Empty)) :=
brr (decide (v7 < (L p1 : Int))) (
getR p1 v7 fun a10 =>
ck a10.ID 24 <|
st l8 a10.ID.toNat (fun x11 => (A3_Int.mk 0 (-1) 0)) fun l12 =>
brr (a10.Side == 3) (
mset l9 a10.ID true fun m13 =>
cont ((IntKind.i64.wrap (v7 + 1)), l12, m13)) (
cont ((IntKind.i64.wrap (v7 + 1)), l12, l9))) (
doneA (l8, l9))

def f47 (p1 : List Vertex) (p2 : List Edge) : Pg ((List (List Edge)) × (List A3_Int) × (List (Int × Bool))) :=
loop1 ((0 : Int), (List.replicate 24 (A3_Int.mk 0 0 0)), ([] : List (Int × Bool))) (fun s14 => f47.l1 p1 s14.1 s14.2.1 s14.2.2) (fun s14 => ([(1, R 101), (3, R 103), (13, V p1), (14, V (L p1 : Int)), (15, V s14.1)], [(101, .varp [.sl (p1.map Cel.enc), .sl (p2.map Cel.enc), .nilsl]), (103, .svar [Ar 24 (List.replicate 24 ([] : List Edge)), .mp 105, Ar 24 s14.2.1]), (105, MO false s14.2.2)])) (.cut (.ext 0) fun x15 => ([(1, R 101), (3, R 103)], [(101, .varp [.sl (p1.map Cel.enc), .sl (p2.map Cel.enc), .nilsl]), (103, .svar [Ar 24 (List.replicate 24 ([] : List Edge)), .mp 105, Ar 24 x15.1]), (105, MO false x15.2)])) fun x15 =>
loop1 ((0 : Int), (List.replicate 24 ([] : List Edge))) (fun s30 => f47.l2 p1 p2 x15 s30.1 s30.2) (fun s30 => ([(1, R 101), (3, R 103), (6, .bnd 86 (R 103)), (39, V p1), (40, V (L p1 : Int)), (41, V s30.1)], [(101, .varp [.sl (p1.map Cel.enc), .sl (p2.map Cel.enc), .nilsl]), (103, .svar [Ar 24 s30.2, .mp 105, Ar 24 x15.1]), (105, MO false x15.2)])) (.cut (.ext 2) fun x31 => ([(3, R 101)], [(101, .svar [Ar 24 x31, .mp 103, Ar 24 x15.1]), (103, MO false x15.2)])) fun x31 =>
.ret ((x31, x15.1, x15.2))

theorem f47.ok (p1 : List Vertex) (p2 : List Edge) {x} (h : (f47 p1 p2).run = some x) : Spec Tryz.prog 47 [.aggp [.sl (p1.map Cel.enc), .sl (p2.map Cel.enc), .nilsl]] [] (R 0) [.svar [Ar 24 x.1, .mp 2, Ar 24 x.2.1], MO false x.2.2] :=
  Prg.ok Tryz.func47 (res := fun x => R 0) (outs := fun x => [.svar [Ar 24 x.1, .mp 2, Ar 24 x.2.1], MO false x.2.2]) (by kernel_rfl) (by kernel_rfl) rfl h

def f87.l1 (p4 : List (Int × Bool)) (a5 : List Edge) (v9 : Int) : Pg (Nx Int (Ex (Int × Int) Unit Empty)) :=
brr (decide (v9 < (L a5 : Int))) (
getR a5 v9 fun a10 =>
look p4 a10.To (false : Bool) fun a11 b12 =>
brr a11 (
doneA ((a10.To, a10.ID))) (
cont (IntKind.i64.wrap (v9 + 1)))) (
doneB ())

def f87 (p1 : Int) (p2 : List (List Edge)) (p3 : List A3_Int) (p4 : List (Int × Bool)) : Pg (Int × Int) :=
ck p1 24 <|
rd p2 p1.toNat fun a5 =>
loop2 (0 : Int) (fun s13 => f87.l1 p4 a5 s13) (fun s13 => ([(0, R 0), (1, V p1), (13, V a5), (14, V (L a5 : Int)), (15, V s13)], [(0, .svar [Ar 24 p2, .mp 2, Ar 24 p3]), (2, MO false p4)])) .inl (fun r14 =>
.ret r14) (.cut (.ext 0) fun _ => ([(1, V p1)], [(0, .svar [Ar 24 p2, .mp 2, Ar 24 p3]), (2, MO false p4)])) fun _ =>
.ret ((p1, ((-1) : Int)))

theorem f87.ok (p1 : Int) (p2 : List (List Edge)) (p3 : List A3_Int) (p4 : List (Int × Bool)) {x} (h : (f87 p1 p2 p3 p4).run = some x) : Spec Tryz.prog 87 [R 0, V p1] [.svar [Ar 24 p2, .mp 2, Ar 24 p3], MO false p4] (.tup [V x.1, V x.2]) [.svar [Ar 24 p2, .mp 2, Ar 24 p3], MO false p4] :=
  Prg.ok Tryz.func87 (res := fun x => .tup [V x.1, V x.2]) (outs := fun x => [.svar [Ar 24 p2, .mp 2, Ar 24 p3], MO false p4]) (by kernel_rfl) (by kernel_rfl) rfl h

def f87v1.l1 (p4 : List (Int × Bool)) (a5 : List Edge) (v9 : Int) : Pg (Nx Int (Ex (Int × Int) Unit Empty)) :=
brr (decide (v9 < (L a5 : Int))) (
getR a5 v9 fun a10 =>
look p4 a10.To (false : Bool) fun a11 b12 =>
brr a11 (
doneA ((a10.To, a10.ID))) (
cont (IntKind.i64.wrap (v9 + 1)))) (
doneB ())

def f87v1 (p1 : Int) (p2 : List (List Edge)) (p3 : List A3_Int) (p4 : List (Int × Bool)) : Pg (Int × Int) :=
ck p1 24 <|
rd p2 p1.toNat fun a5 =>
loop2 (0 : Int) (fun s13 => f87v1.l1 p4 a5 s13) (fun s13 => ([(0, R 0), (1, V p1), (13, V a5), (14, V (L a5 : Int)), (15, V s13)], [(0, .svar [Ar 24 p2, .mp 2, Ar 24 p3]), (2, MO false p4)])) .inl (fun r14 =>
.ret r14) (.cut (.ext 0) fun _ => ([(1, V p1)], [(0, .svar [Ar 24 p2, .mp 2, Ar 24 p3]), (2, MO false p4)])) fun _ =>
.ret ((p1, ((-1) : Int)))

theorem f87v1.ok (p1 : Int) (p2 : List (List Edge)) (p3 : List A3_Int) (p4 : List (Int × Bool)) {x} (h : (f87v1 p1 p2 p3 p4).run = some x) : Spec Tryz.prog 87 [R 0, V p1] [.svar [Ar 24 p2, .mp 2, Ar 24 p3], MO false p4] (.tup [V x.1, V x.2]) [.svar [Ar 24 p2, .mp 2, Ar 24 p3], MO false p4] :=
  Prg.ok Tryz.func87 (res := fun x => .tup [V x.1, V x.2]) (outs := fun x => [.svar [Ar 24 p2, .mp 2, Ar 24 p3], MO false p4]) (by kernel_rfl) (by kernel_rfl) rfl h

def f48.l1 (p1 : List (List Edge)) (l121 : List A3_Int) (l122 : List (Int × Bool)) (v146 : Int) (l147 : List Int) (v152 v153 : Int) : Pg (Nx (Int × Int) (Ex (List Int) Unit Empty)) :=
brr (decide (v153 < ((l122.map mKey).length : Int))) (
cl (f87.ok v152 p1 l121 l122) fun y154 =>
brr (y154.1 == v146) (
ap l147 ([v146] : List Int) fun l155 =>
doneA l155) (
cont (y154.1, (IntKind.i64.wrap (v153 + 1))))) (
doneB ())

def f48.l4 (x160 : List Int) (v175 : Int) (l176 : List (Int × Bool)) : Pg (Nx (Int × (List (Int × Bool))) (Ex (List (Int × Bool)) Empty Empty)) :=
brr (decide (v175 < (L x160 : Int))) (
ck v175 (L x160) <|
rd x160 (at0 v175) fun a177 =>
mdelW l176 a177 fun m178 =>
cont ((IntKind.i64.wrap (v175 + 1)), m178)) (
doneA l176)

def f48.l3 (p1 : List (List Edge)) (v120 : Int) (l122 : List (Int × Bool)) (x160 : List Int) (v165 : Int) (l166 : List A3_Int) : Pg (Nx (Int × (List A3_Int)) (Ex (List A3_Int) Empty Empty)) :=
brr (decide (v165 < (L x160 : Int))) (
ck v165 (L x160) <|
rd x160 (at0 v165) fun a167 =>
cl (f87v1.ok a167 p1 l166 l122) fun y168 =>
ck a167 24 <|
st l166 a167.toNat (fun x169 => (A3_Int.mk v120 y168.2 0)) fun l170 =>
cont ((IntKind.i64.wrap (v165 + 1)), l170)) (
doneA l166)

def f48.l2 (p1 : List (List Edge)) (v120 : Int) (l121 : List A3_Int) (l122 : List (Int × Bool)) (l123 : List (List Int)) (v146 : Int) (l147 : List Int) : Pg (Nx (Int × (List Int)) (Ex (List Int) Empty Empty)) :=
brr (decide (v146 < 24)) (
look l122 v146 (false : Bool) fun a148 b149 =>
brr (!a148) (
cont ((IntKind.i64.wrap (v146 + 1)), l147)) (
loop2 (v146, (0 : Int)) (fun s156 => f48.l1 p1 l121 l122 v146 l147 s156.1 s156.2) (fun s156 => ([(0, R 0), (3, H (List Int) 101), (4, V v120), (5, H Int 103), (6, V v146), (7, V s156.1), (22, V v146), (37, V ((l122.map mKey).length : Int)), (38, V s156.2)], [(0, .svar [Ar 24 p1, .mp 2, Ar 24 l121]), (2, MO false l122), (101, O l123), (103, O l147)])) (.cut (.ext 3) fun x157 => ([(0, R 0), (3, H (List Int) 101), (4, V v120), (5, H Int 103), (22, V v146)], [(0, .svar [Ar 24 p1, .mp 2, Ar 24 l121]), (2, MO false l122), (101, O l123), (103, O x157)])) (fun x157 =>
cont ((IntKind.i64.wrap (v146 + 1)), x157)) (.cut (.ext 4) fun _ => ([(0, R 0), (3, H (List Int) 101), (4, V v120), (5, H Int 103), (22, V v146)], [(0, .svar [Ar 24 p1, .mp 2, Ar 24 l121]), (2, MO false l122), (101, O l123), (103, O l147)])) fun _ =>
cont ((IntKind.i64.wrap (v146 + 1)), l147))) (
doneA l147)

def f48.l5 (p1 : List (List Edge)) (v120 : Int) (l121 : List A3_Int) (l122 : List (Int × Bool)) (l123 : List (List Int)) : Pg (Nx (Int × (List A3_Int) × (List (Int × Bool)) × (List (List Int))) (Ex ((List A3_Int) × (List (Int × Bool)) × (List (List Int))) Empty Empty)) :=
brr (decide (((l122.map mKey).length : Int) > 0)) (
loop1 ((0 : Int), ([] : List Int)) (fun s159 => f48.l2 p1 v120 l121 l122 l123 s159.1 s159.2) (fun s159 => ([(0, R 0), (3, H (List Int) 101), (4, V v120), (5, H Int 507), (22, V s159.1)], [(0, .svar [Ar 24 p1, .mp 2, Ar 24 l121]), (2, MO false l122), (101, O l123), (507, O s159.2)])) (.cut (.ext 2) fun x160 => ([(0, R 0), (3, H (List Int) 101), (4, V v120), (5, H Int 103)], [(0, .svar [Ar 24 p1, .mp 2, Ar 24 l121]), (2, MO false l122), (101, O l123), (103, O x160)])) fun x160 =>
loop1 ((0 : Int), l121) (fun s171 => f48.l3 p1 v120 l122 x160 s171.1 s171.2) (fun s171 => ([(0, R 0), (3, H (List Int) 101), (4, V v120), (5, H Int 103), (55, H Int 103), (56, V (L x160 : Int)), (57, V s171.1)], [(0, .svar [Ar 24 p1, .mp 2, Ar 24 s171.2]), (2, MO false l122), (101, O l123), (103, O x160)])) (.cut (.ext 6) fun x172 => ([(0, R 0), (3, H (List Int) 101), (4, V v120), (5, H Int 103)], [(0, .svar [Ar 24 p1, .mp 2, Ar 24 x172]), (2, MO false l122), (101, O l123), (103, O x160)])) fun x172 =>
loop1 ((0 : Int), l122) (fun s179 => f48.l4 x160 s179.1 s179.2) (fun s179 => ([(0, R 0), (3, H (List Int) 101), (4, V v120), (5, H Int 103), (76, H Int 103), (77, V (L x160 : Int)), (78, V s179.1)], [(0, .svar [Ar 24 p1, .mp 2, Ar 24 x172]), (2, MO false s179.2), (101, O l123), (103, O x160)])) (.cut (.ext 8) fun x180 => ([(0, R 0), (3, H (List Int) 101), (4, V v120), (5, H Int 103)], [(0, .svar [Ar 24 p1, .mp 2, Ar 24 x172]), (2, MO false x180), (101, O l123), (103, O x160)])) fun x180 =>
ap l123 ([x160] : List (List Int)) fun l181 =>
cont ((IntKind.i64.wrap (v120 + 1)), x172, x180, l181)) (
doneA (l121, l122, l123))

def f48 (p1 : List (List Edge)) (p2 : List A3_Int) (p3 : List (Int × Bool)) : Pg ((List (List Int)) × (List A3_Int) × (List (Int × Bool))) :=
loop1 ((1 : Int), p2, p3, ([] : List (List Int))) (fun s182 => f48.l5 p1 s182.1 s182.2.1 s182.2.2.1 s182.2.2.2) (fun s182 => ([(0, R 0), (3, H (List Int) 505), (4, V s182.1)], [(0, .svar [Ar 24 p1, .mp 2, Ar 24 s182.2.1]), (2, MO false s182.2.2.1), (505, O s182.2.2.2)])) (.cut (.ext 0) fun x183 => ([(3, H (List Int) 101)], [(0, .svar [Ar 24 p1, .mp 2, Ar 24 x183.1]), (2, MO false x183.2.1), (101, O x183.2.2)])) fun x183 =>
.ret ((x183.2.2, x183.1, x183.2.1))

theorem f48.ok (p1 : List (List Edge)) (p2 : List A3_Int) (p3 : List (Int × Bool)) {x} (h : (f48 p1 p2 p3).run = some x) : Spec Tryz.prog 48 [R 0] [.svar [Ar 24 p1, .mp 2, Ar 24 p2], MO false p3] (V x.1) [.svar [Ar 24 p1, .mp 2, Ar 24 x.2.1], MO false x.2.2] :=
  Prg.ok Tryz.func48 (res := fun x => V x.1) (outs := fun x => [.svar [Ar 24 p1, .mp 2, Ar 24 x.2.1], MO false x.2.2]) (by kernel_rfl) (by kernel_rfl) rfl h

def f88 (p1 : Int) : Pg (List Int) :=
join1 (.cond 6) (
brr (decide (p1 < 0)) (
.no) (
retA' ())) (.cut .nat fun _ => ([(0, .pv .nilsl), (1, V p1)], [])) fun _ =>
brr (decide ((IntKind.i64.wrap (p1 - (IntKind.i64.wrap (0 - 0)))) > 0)) (
bHi (0 : Int) 0 <|
apz (IntKind.i64.wrap (p1 - (IntKind.i64.wrap (0 - 0)))) (0 : Int) fun l3 =>
cutHiO l3 (0 : Int) fun l4 =>
.ret (l4)) (
.ret (([] : List Int)))

theorem f88.ok (p1 : Int) {x} (h : (f88 p1).run = some x) : Spec Tryz.prog 88 [.pv .nilsl, V p1] [] (V x) [] :=
  Prg.ok Tryz.func88 (res := fun x => V x) (outs := fun x => []) (by kernel_rfl) (by kernel_rfl) rfl h

def f88v1 (p1 : Int) : Pg (List Int) :=
join1 (.cond 6) (
brr (decide (p1 < 0)) (
.no) (
retA' ())) (.cut .nat fun _ => ([(0, .pv .nilsl), (1, V p1)], [])) fun _ =>
join1 (.cond 16) (
brr (decide ((IntKind.i64.wrap (p1 - (IntKind.i64.wrap (0 - 0)))) > 0)) (
bHi (0 : Int) 0 <|
apz (IntKind.i64.wrap (p1 - (IntKind.i64.wrap (0 - 0)))) (0 : Int) fun l3 =>
cutHiO l3 (0 : Int) fun l4 =>
retA' l4) (
retA' ([] : List Int))) (.cut .nat fun x5 => ([(0, H Int 101)], [(101, O x5)])) fun x5 =>
.ret (x5)

theorem f88v1.ok (p1 : Int) {x} (h : (f88v1 p1).run = some x) : Spec Tryz.prog 88 [.pv .nilsl, V p1] [] (H Int 0) [O x] :=
  Prg.ok Tryz.func88 (res := fun x => H Int 0) (outs := fun x => [O x]) (by kernel_rfl) (by kernel_rfl) rfl h

def f49.l2 (p1 : List (List Int)) (v11 : Int) (l12 : List Int) : Pg (Nx (Int × (List Int)) (Ex (List Int) Empty Empty)) :=
brr (decide (v11 < (L p1 : Int))) (
getR p1 v11 fun a13 =>
ap l12 a13 fun l14 =>
cont ((IntKind.i64.wrap (v11 + 1)), l14)) (
doneA l12)

def f49.l1 (p1 : List (List Int)) (v3 v4 : Int) : Pg (Nx (Int × Int) (Ex Int Empty Empty)) :=
brr (decide (v4 < (L p1 : Int))) (
getR p1 v4 fun a5 =>
brr (decide ((IntKind.i64.wrap (v3 + (L a5 : Int))) < 0)) (
.no) (
cont ((IntKind.i64.wrap (v3 + (L a5 : Int))), (IntKind.i64.wrap (v4 + 1))))) (
doneA v3)

def f49 (p1 : List (List Int)) : Pg (List Int) :=
loop1 ((0 : Int), (0 : Int)) (fun s6 => f49.l1 p1 s6.1 s6.2) (fun s6 => ([(0, V p1), (3, V s6.1), (9, V p1), (10, V (L p1 : Int)), (11, V s6.2)], [])) (.cut (.ext 0) fun x7 => ([(0, V p1), (3, V x7)], [])) fun x7 =>
cl (f88v1.ok x7) fun y8 =>
loop1 ((0 : Int), y8) (fun s15 => f49.l2 p1 s15.1 s15.2) (fun s15 => ([(6, H Int 101), (25, V p1), (26, V (L p1 : Int)), (27, V s15.1)], [(101, O s15.2)])) (.cut (.ext 2) fun x16 => ([(6, H Int 101)], [(101, O x16)])) fun x16 =>
.ret (x16)

theorem f49.ok (p1 : List (List Int)) {x} (h : (f49 p1).run = some x) : Spec Tryz.prog 49 [V p1] [] (V x) [] :=
  Prg.ok Tryz.func49 (res := fun x => V x) (outs := fun x => []) (by kernel_rfl) (by kernel_rfl) rfl h

def f89.l1 (p1 : Int) (p3 : List A3_Int) (a5 : List Edge) (v10 : Int) : Pg (Nx Int (Ex (Bool) Unit Empty)) :=
brr (decide (v10 < (L a5 : Int))) (
getR a5 v10 fun a11 =>
ck p1 24 <|
rd p3 p1.toNat fun a12 =>
brr (a11.ID == a12.x1) (
doneA (false)) (
ck a11.To 24 <|
rd p3 a11.To.toNat fun a13 =>
ck p1 24 <|
rd p3 p1.toNat fun a14 =>
brr (a13.x0 == (IntKind.i64.wrap (a14.x0 - 1))) (
doneA (true)) (
cont (IntKind.i64.wrap (v10 + 1))))) (
doneB ())

def f89 (p1 : Int) (p2 : List (List Edge)) (p3 : List A3_Int) (p4 : List (Int × Bool)) : Pg Bool :=
ck p1 24 <|
rd p2 p1.toNat fun a5 =>
loop2 (0 : Int) (fun s15 => f89.l1 p1 p3 a5 s15) (fun s15 => ([(0, R 0), (1, V p1), (12, V a5), (13, V (L a5 : Int)), (14, V s15)], [(0, .svar [Ar 24 p2, .mp 2, Ar 24 p3]), (2, MO false p4)])) .inl (fun r16 =>
.ret r16) (.cut (.ext 0) fun _ => ([], [(0, .svar [Ar 24 p2, .mp 2, Ar 24 p3]), (2, MO false p4)])) fun _ =>
.ret (false)

theorem f89.ok (p1 : Int) (p2 : List (List Edge)) (p3 : List A3_Int) (p4 : List (Int × Bool)) {x} (h : (f89 p1 p2 p3 p4).run = some x) : Spec Tryz.prog 89 [R 0, V p1] [.svar [Ar 24 p2, .mp 2, Ar 24 p3], MO false p4] (V x) [.svar [Ar 24 p2, .mp 2, Ar 24 p3], MO false p4] :=
  Prg.ok Tryz.func89 (res := fun x => V x) (outs := fun x => [.svar [Ar 24 p2, .mp 2, Ar 24 p3], MO false p4]) (by kernel_rfl) (by kernel_rfl) rfl h

def f90 (p1 : Edge) (p2 : Int) (p3 : List (List Edge)) (p4 : List A3_Int) (p5 : List (Int × Bool)) : Pg Bool :=
ck p2 24 <|
rd p4 p2.toNat fun a6 =>
.ret ((p1.ID == a6.x1))

theorem f90.ok (p1 : Edge) (p2 : Int) (p3 : List (List Edge)) (p4 : List A3_Int) (p5 : List (Int × Bool)) {x} (h : (f90 p1 p2 p3 p4 p5).run = some x) : Spec Tryz.prog 90 [V p1, R 0, R 2] [mkVar (R 4), B p2, .svar [Ar 24 p3, .mp 6, Ar 24 p4], MO false p5] (V x) [mkVar (R 4), B p2, .svar [Ar 24 p3, .mp 6, Ar 24 p4], MO false p5] :=
  Prg.ok Tryz.func90 (res := fun x => V x) (outs := fun x => [mkVar (R 4), B p2, .svar [Ar 24 p3, .mp 6, Ar 24 p4], MO false p5]) (by kernel_rfl) (by kernel_rfl) rfl h

def f62v1.l1 (p1 : List Edge) (p2 : Int) (p3 : List (List Edge)) (p4 : List A3_Int) (p5 : List (Int × Bool)) (v8 : Int) : Pg (Nx Int (Ex (Int) Unit Empty)) :=
brr (decide (v8 < (L p1 : Int))) (
getR p1 v8 fun a9 =>
cl (f90.ok a9 p2 p3 p4 p5) fun y10 =>
brr y10 (
doneA (v8)) (
cont (IntKind.i64.wrap (v8 + 1)))) (
doneB ())

def f62v1 (p1 : List Edge) (p2 : Int) (p3 : List (List Edge)) (p4 : List A3_Int) (p5 : List (Int × Bool)) : Pg Int :=
loop2 (0 : Int) (fun s11 => f62v1.l1 p1 p2 p3 p4 p5 s11) (fun s11 => ([(0, V p1), (1, .clo 90 [R 0, R 2]), (7, V (L p1 : Int)), (8, V s11)], [(0, mkVar (R 4)), (2, B p2), (4, .svar [Ar 24 p3, .mp 6, Ar 24 p4]), (6, MO false p5)])) .inl (fun r12 =>
.ret r12) (.cut (.ext 0) fun _ => ([], [(0, mkVar (R 4)), (2, B p2), (4, .svar [Ar 24 p3, .mp 6, Ar 24 p4]), (6, MO false p5)])) fun _ =>
.ret (((-1) : Int))

theorem f62v1.ok (p1 : List Edge) (p2 : Int) (p3 : List (List Edge)) (p4 : List A3_Int) (p5 : List (Int × Bool)) {x} (h : (f62v1 p1 p2 p3 p4 p5).run = some x) : Spec Tryz.prog 62 [V p1, .clo 90 [R 0, R 2]] [mkVar (R 4), B p2, .svar [Ar 24 p3, .mp 6, Ar 24 p4], MO false p5] (V x) [mkVar (R 4), B p2, .svar [Ar 24 p3, .mp 6, Ar 24 p4], MO false p5] :=
  Prg.ok Tryz.func62 (res := fun x => V x) (outs := fun x => [mkVar (R 4), B p2, .svar [Ar 24 p3, .mp 6, Ar 24 p4], MO false p5]) (by kernel_rfl) (by kernel_rfl) rfl h

def f50.l1 (p1 : Int) (p2 : List (List Edge)) (p3 : List A3_Int) (p4 : List (Int × Bool)) (v13 l14 : Int) : Pg (Nx (Int × Int) (Ex Int Empty Empty)) :=
join1 (.reg 2) (
ck p1 24 <|
rd p3 p1.toNat fun a16 =>
brr (decide (a16.x0 > 1)) (
cl (f89.ok l14 p2 p3 p4) fun y17 =>
retA' ((!y17) && (decide (v13 < 24)))) (
retA' false)) (.cut .nat fun x18 => ([(1, V p1), (2, R 101), (4, R 103), (5, V v13), (25, V x18)], [(0, .svar [Ar 24 p2, .mp 2, Ar 24 p3]), (2, MO false p4), (101, mkVar (R 0)), (103, B l14)])) fun x18 =>
brr x18 (
ck l14 24 <|
rd p2 l14.toNat fun a19 =>
cl (f62v1.ok a19 l14 p2 p3 p4) fun y20 =>
ck l14 24 <|
rd p2 l14.toNat fun a21 =>
getR a21 y20 fun a22 =>
cont ((IntKind.i64.wrap (v13 + 1)), a22.To)) (
doneA v13)

def f50 (p1 : Int) (p2 : List (List Edge)) (p3 : List A3_Int) (p4 : List (Int × Bool)) : Pg (List A3_Int) :=
loop1 ((0 : Int), p1) (fun s23 => f50.l1 p1 p2 p3 p4 s23.1 s23.2) (fun s23 => ([(1, V p1), (2, R 101), (4, R 103), (5, V s23.1)], [(0, .svar [Ar 24 p2, .mp 2, Ar 24 p3]), (2, MO false p4), (101, mkVar (R 0)), (103, B s23.2)])) (.cut (.ext 0) fun x24 => ([(1, V p1), (2, R 101), (5, V x24)], [(0, .svar [Ar 24 p2, .mp 2, Ar 24 p3]), (2, MO false p4), (101, mkVar (R 0))])) fun x24 =>
ck p1 24 <|
st p3 p1.toNat (fun x25 => (A3_Int.mk x25.x0 x25.x1 x24)) fun l26 =>
.ret (l26)

theorem f50.ok (p1 : Int) (p2 : List (List Edge)) (p3 : List A3_Int) (p4 : List (Int × Bool)) {x} (h : (f50 p1 p2 p3 p4).run = some x) : Spec Tryz.prog 50 [R 0, V p1] [.svar [Ar 24 p2, .mp 2, Ar 24 p3], MO false p4] (.tup []) [.svar [Ar 24 p2, .mp 2, Ar 24 x], MO false p4] :=
  Prg.ok Tryz.func50 (res := fun x => .tup []) (outs := fun x => [.svar [Ar 24 p2, .mp 2, Ar 24 x], MO false p4]) (by kernel_rfl) (by kernel_rfl) rfl h

def f51 (p1 : List Int) : Pg (List Int) :=
bothN p1 <|
ap ([] : List Int) p1 fun l2 =>
.ret (l2)

theorem f51.ok (p1 : List Int) {x} (h : (f51 p1).run = some x) : Spec Tryz.prog 51 [V p1] [] (V x) [] :=
  Prg.ok Tryz.func51 (res := fun x => V x) (outs := fun x => []) (by kernel_rfl) (by kernel_rfl) rfl h

def f16.l2 (p1 : List Vertex) (x14 : List A3_Int) (v23 : Int) (l24 : List Named) : Pg (Nx (Int × (List Named)) (Ex (List Named) Empty Empty)) :=
brr (decide (v23 < (L p1 : Int))) (
getR p1 v23 fun a25 =>
ck a25.ID 24 <|
rd x14 a25.ID.toNat fun a26 =>
cl (f51.ok ([a26.x0, a26.x1, a26.x2] : List Int)) fun y27 =>
ap l24 ([(Named.mk a25.ID y27)] : List Named) fun l28 =>
cont ((IntKind.i64.wrap (v23 + 1)), l28)) (
doneA l24)

def f16.l1 (y4 : (List (List Edge)) × (List A3_Int) × (List (Int × Bool))) (y5 : (List (List Int)) × (List A3_Int) × (List (Int × Bool))) (y6 : List Int) (v9 : Int) (l10 : List A3_Int) : Pg (Nx (Int × (List A3_Int)) (Ex (List A3_Int) Empty Empty)) :=
brr (decide (v9 < (L y6 : Int))) (
getR y6 v9 fun a11 =>
cl (f50.ok a11 y4.1 l10 y5.2.2) fun y12 =>
cont ((IntKind.i64.wrap (v9 + 1)), y12)) (
doneA l10)

def f16 (p1 : List Vertex) (p2 : List Edge) : Pg ((List Named) × Int) :=
cl (f46.ok p1 p2) fun y3 =>
brr (!y3) (
.ret ((([] : List Named), (140 : Int)))) (
cl (f47.ok p1 p2) fun y4 =>
cl (f48.ok y4.1 y4.2.1 y4.2.2) fun y5 =>
cl (f49.ok y5.1) fun y6 =>
loop1 ((0 : Int), y5.2.1) (fun s13 => f16.l1 y4 y5 y6 s13.1 s13.2) (fun s13 => ([(1, R 101), (4, R 103), (20, V y6), (21, V (L y6 : Int)), (22, V s13.1)], [(101, .varp [.sl (p1.map Cel.enc), .sl (p2.map Cel.enc), .nilsl]), (103, .svar [Ar 24 y4.1, .mp 105, Ar 24 s13.2]), (105, MO false y5.2.2)])) (.cut (.ext 0) fun x14 => ([(1, R 101), (4, R 103)], [(101, .varp [.sl (p1.map Cel.enc), .sl (p2.map Cel.enc), .nilsl]), (103, .svar [Ar 24 y4.1, .mp 105, Ar 24 x14]), (105, MO false y5.2.2)])) fun x14 =>
loop1 ((0 : Int), ([] : List Named)) (fun s29 => f16.l2 p1 x14 s29.1 s29.2) (fun s29 => ([(4, R 101), (8, H Named 503), (31, V p1), (32, V (L p1 : Int)), (33, V s29.1)], [(101, .svar [Ar 24 y4.1, .mp 103, Ar 24 x14]), (103, MO false y5.2.2), (503, O s29.2)])) (.cut (.ext 2) fun x30 => ([(8, H Named 101)], [(101, O x30)])) fun x30 =>
.ret ((x30, (0 : Int))))

theorem f16.ok (p1 : List Vertex) (p2 : List Edge) {x} (h : (f16 p1 p2).run = some x) : Spec Tryz.prog 16 [.aggp [.sl (p1.map Cel.enc), .sl (p2.map Cel.enc), .nilsl]] [] (.tup [V x.1, V x.2]) [] :=
  Prg.ok Tryz.func16 (res := fun x => .tup [V x.1, V x.2]) (outs := fun x => []) (by kernel_rfl) (by kernel_rfl) rfl h

def f29 (p1 : List Vertex) (p2 : List Edge) : Pg ((List (List Int)) × Int) :=
cl (f46.ok p1 p2) fun y3 =>
brr (!y3) (
.ret ((([] : List (List Int)), (140 : Int)))) (
cl (f47.ok p1 p2) fun y4 =>
cl (f48.ok y4.1 y4.2.1 y4.2.2) fun y5 =>
.ret ((y5.1, (0 : Int))))

theorem f29.ok (p1 : List Vertex) (p2 : List Edge) {x} (h : (f29 p1 p2).run = some x) : Spec Tryz.prog 29 [.aggp [.sl (p1.map Cel.enc), .sl (p2.map Cel.enc), .nilsl]] [] (.tup [V x.1, V x.2]) [] :=
  Prg.ok Tryz.func29 (res := fun x => .tup [V x.1, V x.2]) (outs := fun x => []) (by kernel_rfl) (by kernel_rfl) rfl h

def f63 (p1 : Edge) (p2 : Int) : Pg Unit :=
.ret (())

theorem f63.ok (p1 : Edge) (p2 : Int) {x} (h : (f63 p1 p2).run = some x) : Spec Tryz.prog 63 [V p1, R 0] [B p2] (V (p1.ID == p2)) [B p2] :=
  Prg.ok Tryz.func63 (res := fun x => V (p1.ID == p2)) (outs := fun x => [B p2]) (by kernel_rfl) (by kernel_rfl) rfl h

def f62v2.l1 (p1 : List Edge) (p2 : Int) (v5 : Int) : Pg (Nx Int (Ex (Int) Unit Empty)) :=
brr (decide (v5 < (L p1 : Int))) (
getR p1 v5 fun a6 =>
cl (f63.ok a6 p2) fun _ =>
brr (a6.ID == p2) (
doneA (v5)) (
cont (IntKind.i64.wrap (v5 + 1)))) (
doneB ())

def f62v2 (p1 : List Edge) (p2 : Int) : Pg Int :=
loop2 (0 : Int) (fun s8 => f62v2.l1 p1 p2 s8) (fun s8 => ([(0, V p1), (1, .clo 63 [R 0]), (7, V (L p1 : Int)), (8, V s8)], [(0, B p2)])) .inl (fun r9 =>
.ret r9) (.cut (.ext 0) fun _ => ([], [(0, B p2)])) fun _ =>
.ret (((-1) : Int))

theorem f62v2.ok (p1 : List Edge) (p2 : Int) {x} (h : (f62v2 p1 p2).run = some x) : Spec Tryz.prog 62 [V p1, .clo 63 [R 0]] [B p2] (V x) [B p2] :=
  Prg.ok Tryz.func62 (res := fun x => V x) (outs := fun x => [B p2]) (by kernel_rfl) (by kernel_rfl) rfl h

def f61 (p1 : Int) (p2 : List Vertex) (p3 : List Edge) (p4 : Int) (p5 : List (List Edge)) (p6 : List A3_Int) (p7 : List (Int × Bool)) : Pg Int :=
brr (p1 == (-1)) (
.ret ((L p3 : Int))) (
ck (if 0 > p4 then 0 else p4) 24 <|
rd p5 ((if 0 > p4 then 0 else p4).toNat) fun a8 =>
cl (f62v2.ok a8 p1) fun y9 =>
.ret (y9))

theorem f61.ok (p1 : Int) (p2 : List Vertex) (p3 : List Edge) (p4 : Int) (p5 : List (List Edge)) (p6 : List A3_Int) (p7 : List (Int × Bool)) {x} (h : (f61 p1 p2 p3 p4 p5 p6 p7).run = some x) : Spec Tryz.prog 61 [V p1, R 0, R 2, R 4] [.varp [.sl (p2.map Cel.enc), .sl (p3.map Cel.enc), .nilsl], mkVar (R 6), B p4, .svar [Ar 24 p5, .mp 8, Ar 24 p6], MO false p7] (V x) [.varp [.sl (p2.map Cel.enc), .sl (p3.map Cel.enc), .nilsl], mkVar (R 6), B p4, .svar [Ar 24 p5, .mp 8, Ar 24 p6], MO false p7] :=
  Prg.ok Tryz.func61 (res := fun x => V x) (outs := fun x => [.varp [.sl (p2.map Cel.enc), .sl (p3.map Cel.enc), .nilsl], mkVar (R 6), B p4, .svar [Ar 24 p5, .mp 8, Ar 24 p6], MO false p7]) (by kernel_rfl) (by kernel_rfl) rfl h

def f27 (p1 : List Vertex) (p2 : List Edge) (p3 p4 p5 : Int) : Pg (Bool × Int) :=
cl (f46.ok p1 p2) fun y6 =>
brr (!y6) (
.ret ((false, (140 : Int)))) (
cl (f47.ok p1 p2) fun y7 =>
join1 (.reg 5) (
brr (decide (p3 < 0)) (
retA' true) (
brr (decide (p3 ≥ 24)) (
retA' true) (
look y7.2.2 p3 (false : Bool) fun a8 b9 =>
brr (!a8) (
retA' true) (
cl (f61.ok p4 p1 p2 p3 y7.1 y7.2.1 y7.2.2) fun y10 =>
brr (decide (y10 < 0)) (
retA' true) (
cl (f61.ok p5 p1 p2 p3 y7.1 y7.2.1 y7.2.2) fun y11 =>
retA' (decide (y11 < 0))))))) (.cut .nat fun x12 => ([(2, V p4), (3, V p5), (11, .clo 61 [R 101, R 103, R 105]), (44, V x12)], [(101, .varp [.sl (p1.map Cel.enc), .sl (p2.map Cel.enc), .nilsl]), (103, mkVar (R 107)), (105, B p3), (107, .svar [Ar 24 y7.1, .mp 109, Ar 24 y7.2.1]), (109, MO false y7.2.2)])) fun x12 =>
brr x12 (
.ret ((false, (140 : Int)))) (
cl (f61.ok p4 p1 p2 p3 y7.1 y7.2.1 y7.2.2) fun y13 =>
cl (f61.ok p5 p1 p2 p3 y7.1 y7.2.1 y7.2.2) fun y14 =>
.ret (((decide (y13 < y14)), (0 : Int)))))

theorem f27.ok (p1 : List Vertex) (p2 : List Edge) (p3 p4 p5 : Int) {x} (h : (f27 p1 p2 p3 p4 p5).run = some x) : Spec Tryz.prog 27 [.aggp [.sl (p1.map Cel.enc), .sl (p2.map Cel.enc), .nilsl], V p3, V p4, V p5] [] (.tup [V x.1, V x.2]) [] :=
  Prg.ok Tryz.func27 (res := fun x => .tup [V x.1, V x.2]) (outs := fun x => []) (by kernel_rfl) (by kernel_rfl) rfl h

def f20.l1 (p1 p2 : List Int) (v5 : Int) : Pg (Nx Int (Ex (Bool) Unit Empty)) :=
brr (decide (v5 < (L p1 : Int))) (
getR p1 v5 fun a6 =>
getR p2 v5 fun a7 =>
brr (a6 != a7) (
doneA (false)) (
cont (IntKind.i64.wrap (v5 + 1)))) (
doneB ())

def f20 (p1 p2 : List Int) : Pg Bool :=
brr ((L p1 : Int) != (L p2 : Int)) (
.ret (false)) (
loop2 (0 : Int) (fun s8 => f20.l1 p1 p2 s8) (fun s8 => ([(0, V p1), (1, V p2), (5, V s8)], [])) .inl (fun r9 =>
.ret r9) (.cut (.ext 0) fun _ => ([], [])) fun _ =>
.ret (true))

theorem f20.ok (p1 p2 : List Int) {x} (h : (f20 p1 p2).run = some x) : Spec Tryz.prog 20 [V p1, V p2] [] (V x) [] :=
  Prg.ok Tryz.func20 (res := fun x => V x) (outs := fun x => []) (by kernel_rfl) (by kernel_rfl) rfl h

def f44.l1 (p1 : List Vertex) (p2 : List Edge) (p3 : Int) (v16 : Int) (l17 : List Edge) : Pg (Nx (Int × (List Edge)) (Ex (List Edge) Empty Empty)) :=
brr (decide (v16 < (L p2 : Int))) (
join1 (.reg 5) (
getR p2 v16 fun a19 =>
brr (a19.From == p3) (
retA' true) (
getR p2 v16 fun a20 =>
retA' (a20.To == p3))) (.cut .nat fun x21 => ([(1, V p3), (2, R 101), (5, H Edge 103), (6, V v16), (31, V x21)], [(101, .varp [.sl (p1.map Cel.enc), .sl (p2.map Cel.enc), .nilsl]), (103, O l17)])) fun x21 =>
brr x21 (
getR p2 v16 fun a22 =>
ap l17 ([a22] : List Edge) fun l23 =>
cont ((IntKind.i64.wrap (v16 + 1)), l23)) (
cont ((IntKind.i64.wrap (v16 + 1)), l17))) (
doneA l17)

def f44 (p1 : List Vertex) (p2 : List Edge) (p3 : Int) : Pg (List Edge) :=
loop1 ((0 : Int), ([] : List Edge)) (fun s24 => f44.l1 p1 p2 p3 s24.1 s24.2) (fun s24 => ([(1, V p3), (2, R 101), (5, H Edge 503), (6, V s24.1)], [(101, .varp [.sl (p1.map Cel.enc), .sl (p2.map Cel.enc), .nilsl]), (503, O s24.2)])) (.cut (.ext 0) fun x25 => ([(5, H Edge 101)], [(101, O x25)])) fun x25 =>
.ret (x25)

theorem f44.ok (p1 : List Vertex) (p2 : List Edge) (p3 : Int) {x} (h : (f44 p1 p2 p3).run = some x) : Spec Tryz.prog 44 [.aggp [.sl (p1.map Cel.enc), .sl (p2.map Cel.enc), .nilsl], V p3] [] (V x) [] :=
  Prg.ok Tryz.func44 (res := fun x => V x) (outs := fun x => []) (by kernel_rfl) (by kernel_rfl) rfl h

def f45.l1 (p1 : List Vertex) (p3 : Int) (v5 : Int) : Pg (Nx Int (Ex (Int) Unit Empty)) :=
brr (decide (v5 < (L p1 : Int))) (
getR p1 v5 fun a6 =>
brr (a6.ID == p3) (
doneA (v5)) (
cont (IntKind.i64.wrap (v5 + 1)))) (
doneB ())

def f45 (p1 : List Vertex) (p2 : List Edge) (p3 : Int) : Pg Int :=
loop2 (0 : Int) (fun s7 => f45.l1 p1 p3 s7) (fun s7 => ([(1, V p3), (2, R 101), (5, V s7)], [(101, .varp [.sl (p1.map Cel.enc), .sl (p2.map Cel.enc), .nilsl])])) .inl (fun r8 =>
.ret r8) (.cut (.ext 0) fun _ => ([], [])) fun _ =>
.ret (((-1) : Int))

theorem f45.ok (p1 : List Vertex) (p2 : List Edge) (p3 : Int) {x} (h : (f45 p1 p2 p3).run = some x) : Spec Tryz.prog 45 [.aggp [.sl (p1.map Cel.enc), .sl (p2.map Cel.enc), .nilsl], V p3] [] (V x) [] :=
  Prg.ok Tryz.func45 (res := fun x => V x) (outs := fun x => []) (by kernel_rfl) (by kernel_rfl) rfl h

def f15.l1 (p3 : List Named) (y6 : List Edge) (v44 : Int) (v51 : Bool) (v52 : Int) : Pg (Nx (Bool × Int) (Ex Bool Empty Empty)) :=
brr (decide (v52 < (L y6 : Int))) (
brr v51 (
cont (true, (IntKind.i64.wrap (v52 + 1)))) (
getR y6 v52 fun a53 =>
getR p3 v44 fun a54 =>
brr (a53.From == a54.ID) (
cont (true, (IntKind.i64.wrap (v52 + 1)))) (
getR y6 v52 fun a55 =>
getR p3 v44 fun a56 =>
cont ((a55.To == a56.ID), (IntKind.i64.wrap (v52 + 1)))))) (
doneA v51)

def f15.l2 (p3 : List Named) (p4 : Int) (l5 : List Int) (y6 : List Edge) (x9 : Int × Int) (v44 : Int) (l45 : List Named) : Pg (Nx (Int × (List Named)) (Ex (List Named) Empty Empty)) :=
brr (decide (v44 < (L p3 : Int))) (
getR p3 v44 fun a46 =>
loop1 ((a46.ID == p4), (0 : Int)) (fun s57 => f15.l1 p3 y6 v44 s57.1 s57.2) (fun s57 => ([(1, V p3), (2, V p4), (6, R 101), (7, R 103), (9, V v44), (10, V s57.1), (11, V s57.2)], [(101, .varp [.int .i64 0, .int .i64 0, .nilsl, .nilsl, .nilsl]), (103, .var [V x9.1, V x9.2, H Int 105, V y6, H Named 107]), (105, O l5), (107, O l45)])) (.cut (.ext 2) fun x58 => ([(1, V p3), (2, V p4), (6, R 101), (7, R 103), (9, V v44), (10, V x58)], [(101, .varp [.int .i64 0, .int .i64 0, .nilsl, .nilsl, .nilsl]), (103, .var [V x9.1, V x9.2, H Int 105, V y6, H Named 107]), (105, O l5), (107, O l45)])) fun x58 =>
brr x58 (
getR p3 v44 fun a59 =>
getR p3 v44 fun a60 =>
ap ([] : List Int) a60.Label fun l61 =>
ap l45 ([(Named.mk a59.ID l61)] : List Named) fun l62 =>
cont ((IntKind.i64.wrap (v44 + 1)), l62)) (
cont ((IntKind.i64.wrap (v44 + 1)), l45))) (
doneA l45)

def f15 (p1 : List Vertex) (p2 : List Edge) (p3 : List Named) (p4 : Int) : Pg View :=
ap ([] : List Int) [] fun l5 =>
cl (f44.ok p1 p2 p4) fun y6 =>
cl (f45.ok p1 p2 p4) fun y7 =>
join1 (.cond 26) (
brr (decide (y7 ≥ 0)) (
getR p1 y7 fun a8 =>
retA' (a8.ID, a8.Side)) (
retA' (p4, (0 : Int)))) (.cut .nat fun x9 => ([(1, V p3), (2, V p4), (6, R 101), (7, R 103)], [(101, .varp [.int .i64 0, .int .i64 0, .nilsl, .nilsl, .nilsl]), (103, .var [V x9.1, V x9.2, H Int 105, V y6, .pv .nilsl]), (105, O l5)])) fun x9 =>
loop1 ((0 : Int), ([] : List Named)) (fun s63 => f15.l2 p3 p4 l5 y6 x9 s63.1 s63.2) (fun s63 => ([(1, V p3), (2, V p4), (6, R 101), (7, R 103), (9, V s63.1)], [(101, .varp [.int .i64 0, .int .i64 0, .nilsl, .nilsl, .nilsl]), (103, .var [V x9.1, V x9.2, H Int 105, V y6, H Named 507]), (105, O l5), (507, O s63.2)])) (.cut (.ext 0) fun x64 => ([(6, R 101), (7, R 103)], [(101, .varp [.int .i64 0, .int .i64 0, .nilsl, .nilsl, .nilsl]), (103, .var [V x9.1, V x9.2, H Int 105, V y6, H Named 107]), (105, O l5), (107, O x64)])) fun x64 =>
.ret ((View.mk (Vertex.mk x9.1 x9.2) l5 y6 x64))

theorem f15.ok (p1 : List Vertex) (p2 : List Edge) (p3 : List Named) (p4 : Int) {x} (h : (f15 p1 p2 p3 p4).run = some x) : Spec Tryz.prog 15 [.aggp [.sl (p1.map Cel.enc), .sl (p2.map Cel.enc), .nilsl], V p3, V p4] [] (V x) [] :=
  Prg.ok Tryz.func15 (res := fun x => V x) (outs := fun x => []) (by kernel_rfl) (by kernel_rfl) rfl h

def f69.l1 (p1 : List Edge) (v6 : Int) (l7 : List (Int × Bool)) : Pg (Nx (Int × (List (Int × Bool))) (Ex (Bool) Unit Empty)) :=
brr (decide (v6 < (L p1 : Int))) (
getR p1 v6 fun a8 =>
look l7 a8.ID (false : Bool) fun a9 b10 =>
brr a9 (
doneA (false)) (
mset l7 a8.ID true fun m11 =>
cont ((IntKind.i64.wrap (v6 + 1)), m11))) (
doneB ())

def f69 (p1 : List Edge) : Pg Bool :=
loop2 ((0 : Int), ([] : List (Int × Bool))) (fun s12 => f69.l1 p1 s12.1 s12.2) (fun s12 => ([(3, .mp 101), (7, V p1), (8, V (L p1 : Int)), (9, V s12.1)], [(101, MO false s12.2)])) .inl (fun r13 =>
.ret r13) (.cut (.ext 0) fun _ => ([], [])) fun _ =>
.ret (true)

theorem f69.ok (p1 : List Edge) {x} (h : (f69 p1).run = some x) : Spec Tryz.prog 69 [V p1] [] (V x) [] :=
  Prg.ok Tryz.func69 (res := fun x => V x) (outs := fun x => []) (by kernel_rfl) (by kernel_rfl) rfl h

def f116 (p1 : Int) : Pg Unit :=
.ret (())

theorem f116.ok (p1 : Int) {x} (h : (f116 p1).run = some x) : Spec Tryz.prog 116 [V p1] [] (V ((decide (p1 ≥ 0)) && (decide (p1 < 24)))) [] :=
  Prg.ok Tryz.func116 (res := fun x => V ((decide (p1 ≥ 0)) && (decide (p1 < 24)))) (outs := fun x => []) (by kernel_rfl) (by kernel_rfl) rfl h

def f72 (p1 : Edge) (p2 : Int) : Pg Bool :=
brr (decide (p1.ID ≥ 0)) (
brr (decide (p1.ID < 40)) (
cl (f116.ok p1.From) fun _ =>
brr ((decide (p1.From ≥ 0)) && (decide (p1.From < 24))) (
cl (f116.ok p1.To) fun _ =>
brr ((decide (p1.To ≥ 0)) && (decide (p1.To < 24))) (
brr (p1.From == p2) (
brr (decide (p1.Weight ≥ (-1000))) (
.ret ((decide (p1.Weight ≤ 1000)))) (
.ret (false))) (
brr (p1.To == p2) (
brr (decide (p1.Weight ≥ (-1000))) (
.ret ((decide (p1.Weight ≤ 1000)))) (
.ret (false))) (
.ret (false)))) (
.ret (false))) (
.ret (false))) (
.ret (false))) (
.ret (false))

theorem f72.ok (p1 : Edge) (p2 : Int) {x} (h : (f72 p1 p2).run = some x) : Spec Tryz.prog 72 [V p1, V p2] [] (V x) [] :=
  Prg.ok Tryz.func72 (res := fun x => V x) (outs := fun x => []) (by kernel_rfl) (by kernel_rfl) rfl h

def f71 (p1 : Edge) (p2 : View) : Pg Bool :=
cl (f72.ok p1 p2.Vertex.ID) fun y3 =>
.ret ((!y3))

theorem f71.ok (p1 : Edge) (p2 : View) {x} (h : (f71 p1 p2).run = some x) : Spec Tryz.prog 71 [V p1, R 0] [B p2] (V x) [B p2] :=
  Prg.ok Tryz.func71 (res := fun x => V x) (outs := fun x => [B p2]) (by kernel_rfl) (by kernel_rfl) rfl h

def f62v3.l1 (p1 : List Edge) (p2 : View) (v5 : Int) : Pg (Nx Int (Ex (Int) Unit Empty)) :=
brr (decide (v5 < (L p1 : Int))) (
getR p1 v5 fun a6 =>
cl (f71.ok a6 p2) fun y7 =>
brr y7 (
doneA (v5)) (
cont (IntKind.i64.wrap (v5 + 1)))) (
doneB ())

def f62v3 (p1 : List Edge) (p2 : View) : Pg Int :=
loop2 (0 : Int) (fun s8 => f62v3.l1 p1 p2 s8) (fun s8 => ([(0, V p1), (1, .clo 71 [R 0]), (7, V (L p1 : Int)), (8, V s8)], [(0, B p2)])) .inl (fun r9 =>
.ret r9) (.cut (.ext 0) fun _ => ([], [(0, B p2)])) fun _ =>
.ret (((-1) : Int))

theorem f62v3.ok (p1 : List Edge) (p2 : View) {x} (h : (f62v3 p1 p2).run = some x) : Spec Tryz.prog 62 [V p1, .clo 71 [R 0]] [B p2] (V x) [B p2] :=
  Prg.ok Tryz.func62 (res := fun x => V x) (outs := fun x => [B p2]) (by kernel_rfl) (by kernel_rfl) rfl h

def f70v1 (p1 : List Edge) (p2 : View) : Pg Bool :=
cl (f62v3.ok p1 p2) fun y3 =>
.ret ((decide (y3 ≥ 0)))

theorem f70v1.ok (p1 : List Edge) (p2 : View) {x} (h : (f70v1 p1 p2).run = some x) : Spec Tryz.prog 70 [V p1, .clo 71 [R 0]] [B p2] (V x) [B p2] :=
  Prg.ok Tryz.func70 (res := fun x => V x) (outs := fun x => [B p2]) (by kernel_rfl) (by kernel_rfl) rfl h

def f36.l3 (x21 : List (Int × A3_Int)) (x29 : List Int) (v35 : Int) : Pg (Nx Int (Ex ((List (Int × A3_Int)) × Bool) Unit Empty)) :=
brr (decide (v35 < (L x29 : Int))) (
ck v35 (L x29) <|
rd x29 (at0 v35) fun a36 =>
look x21 a36 ((A3_Int.mk 0 0 0) : A3_Int) fun a37 b38 =>
brr (!b38) (
doneA ((([] : List (Int × A3_Int)), false))) (
let e39 : Int := (if a37.x2 < (if a37.x1 < a37.x0 then a37.x1 else a37.x0) then a37.x2 else (if a37.x1 < a37.x0 then a37.x1 else a37.x0))
brr (decide (e39 < (-24000))) (
doneA ((([] : List (Int × A3_Int)), false))) (
let e40 : Int := (if a37.x2 > (if a37.x1 > a37.x0 then a37.x1 else a37.x0) then a37.x2 else (if a37.x1 > a37.x0 then a37.x1 else a37.x0))
brr (decide (e40 > 24000)) (
doneA ((([] : List (Int × A3_Int)), false))) (
cont (IntKind.i64.wrap (v35 + 1)))))) (
doneB ())

def f36.l2 (p1 : View) (v24 : Int) (l25 : List Int) : Pg (Nx (Int × (List Int)) (Ex (List Int) Empty Empty)) :=
brr (decide (v24 < (L p1.Edges : Int))) (
getR p1.Edges v24 fun a26 =>
ap l25 ([a26.From, a26.To] : List Int) fun l27 =>
cont ((IntKind.i64.wrap (v24 + 1)), l27)) (
doneA l25)

def f36.l1 (p1 : View) (v12 : Int) (l13 : List (Int × A3_Int)) : Pg (Nx (Int × (List (Int × A3_Int))) (Ex (List (Int × A3_Int)) Empty Empty)) :=
brr (decide (v12 < (L p1.Labels : Int))) (
getR p1.Labels v12 fun a14 =>
look l13 a14.ID ((A3_Int.mk 0 0 0) : A3_Int) fun a15 b16 =>
join1 (.reg 8) (
brr (!b16) (
retA' ((L a14.Label : Int) == 3)) (
retA' false)) (.cut .nat fun x17 => ([(1, R 101), (4, .mp 103), (6, R 105), (28, V p1.Labels), (29, V (L p1.Labels : Int)), (30, V v12), (48, V x17)], [(101, B p1), (103, MO true l13), (105, B a14)])) fun x17 =>
brr x17 (
s2a 3 A3_Int.of A3_Int.of_ok a14.Label fun a18 =>
mset l13 a14.ID a18 fun m19 =>
cont ((IntKind.i64.wrap (v12 + 1)), m19)) (
cont ((IntKind.i64.wrap (v12 + 1)), l13))) (
doneA l13)

def f36 (p1 : View) : Pg ((List (Int × A3_Int)) × Bool) :=
join1 (.reg 2) (
cl (f69.ok p1.Edges) fun y3 =>
brr (!y3) (
retA' true) (
cl (f70v1.ok p1.Edges p1) fun y4 =>
retA' y4)) (.cut .nat fun x5 => ([(1, R 101), (4, .mp 103), (26, V x5)], [(101, B p1), (103, MO true ([] : List (Int × A3_Int)))])) fun x5 =>
brr x5 (
.ret ((([] : List (Int × A3_Int)), false))) (
loop1 ((0 : Int), ([] : List (Int × A3_Int))) (fun s20 => f36.l1 p1 s20.1 s20.2) (fun s20 => ([(1, R 101), (4, .mp 103), (28, V p1.Labels), (29, V (L p1.Labels : Int)), (30, V s20.1)], [(101, B p1), (103, MO true s20.2)])) (.cut (.ext 0) fun x21 => ([(1, R 101), (4, .mp 103)], [(101, B p1), (103, MO true x21)])) fun x21 =>
loop1 ((0 : Int), ([p1.Vertex.ID] : List Int)) (fun s28 => f36.l2 p1 s28.1 s28.2) (fun s28 => ([(4, .mp 101), (9, H Int 103), (62, V p1.Edges), (63, V (L p1.Edges : Int)), (64, V s28.1)], [(101, MO true x21), (103, O s28.2)])) (.cut (.ext 2) fun x29 => ([(4, .mp 101), (9, H Int 103)], [(101, MO true x21), (103, O x29)])) fun x29 =>
loop2 (0 : Int) (fun s41 => f36.l3 x21 x29 s41) (fun s41 => ([(4, .mp 101), (76, H Int 103), (77, V (L x29 : Int)), (78, V s41)], [(101, MO true x21), (103, O x29)])) .inl (fun r42 =>
.ret r42) (.cut (.ext 4) fun _ => ([(4, .mp 101)], [(101, MO true x21)])) fun _ =>
.ret ((x21, true)))

theorem f36.ok (p1 : View) {x} (h : (f36 p1).run = some x) : Spec Tryz.prog 36 [V p1] [] (.tup [.pv (.mp true (x.1.map mKey) (x.1.map mRow)), V x.2]) [] :=
  Prg.ok Tryz.func36 (res := fun x => .tup [.pv (.mp true (x.1.map mKey) (x.1.map mRow)), V x.2]) (outs := fun x => []) (by kernel_rfl) (by kernel_rfl) rfl h

def f37 (p1 : List (Int × A3_Int)) (p2 : Int) : Pg Bool :=
look p1 p2 ((A3_Int.mk 0 0 0) : A3_Int) fun a3 b4 =>
.ret ((decide (a3.x0 ≥ 1)))

theorem f37.ok (p1 : List (Int × A3_Int)) (p2 : Int) {x} (h : (f37 p1 p2).run = some x) : Spec Tryz.prog 37 [.pv (.mp true (p1.map mKey) (p1.map mRow)), V p2] [] (V x) [] :=
  Prg.ok Tryz.func37 (res := fun x => V x) (outs := fun x => []) (by kernel_rfl) (by kernel_rfl) rfl h

def f38v1.l1 (p1 : List Edge) (p2 : Int) (p3 : List (Int × A3_Int)) (v12 : Int) (l13 : List Edge) : Pg (Nx (Int × (List Edge)) (Ex (List Edge) Empty Empty)) :=
brr (decide (v12 < (L p1 : Int))) (
getR p1 v12 fun a14 =>
join1 (.reg 5) (
brr a14.Directed (
brr (a14.From == p2) (
brr (a14.To != p2) (
cl (f37.ok p3 a14.To) fun y15 =>
retA' y15) (
retA' false)) (
retA' false)) (
retA' false)) (.cut .nat fun x16 => ([(1, V p2), (2, .bnd 37 (.pv (.mp true (p3.map mKey) (p3.map mRow)))), (7, H Edge 101), (9, R 103), (10, V p1), (11, V (L p1 : Int)), (12, V v12), (35, V x16)], [(101, O l13), (103, B a14)])) fun x16 =>
brr x16 (
ap l13 ([a14] : List Edge) fun l17 =>
cont ((IntKind.i64.wrap (v12 + 1)), l17)) (
cont ((IntKind.i64.wrap (v12 + 1)), l13))) (
doneA l13)

def f38v1 (p1 : List Edge) (p2 : Int) (p3 : List (Int × A3_Int)) : Pg (List Edge) :=
loop1 ((0 : Int), ([] : List Edge)) (fun s18 => f38v1.l1 p1 p2 p3 s18.1 s18.2) (fun s18 => ([(1, V p2), (2, .bnd 37 (.pv (.mp true (p3.map mKey) (p3.map mRow)))), (7, H Edge 501), (10, V p1), (11, V (L p1 : Int)), (12, V s18.1)], [(501, O s18.2)])) (.cut (.ext 0) fun x19 => ([(7, H Edge 101)], [(101, O x19)])) fun x19 =>
cl (f73v1.ok x19) fun y20 =>
.ret (y20)

theorem f38v1.ok (p1 : List Edge) (p2 : Int) (p3 : List (Int × A3_Int)) {x} (h : (f38v1 p1 p2 p3).run = some x) : Spec Tryz.prog 38 [V p1, V p2, .bnd 37 (.pv (.mp true (p3.map mKey) (p3.map mRow)))] [] (V x) [] :=
  Prg.ok Tryz.func38 (res := fun x => V x) (outs := fun x => []) (by kernel_rfl) (by kernel_rfl) rfl h

def f9.l2 (p1 : View) (y2 : (List (Int × A3_Int)) × Bool) (v26 v27 : Int) : Pg (Nx (Int × Int) (Ex Int Empty Empty)) :=
brr (decide (v27 < (L p1.Edges : Int))) (
getR p1.Edges v27 fun a28 =>
brr a28.Directed (
brr (a28.To == p1.Vertex.ID) (
brr (a28.From != p1.Vertex.ID) (
cl (f37.ok y2.1 a28.From) fun y29 =>
brr y29 (
look y2.1 a28.From ((A3_Int.mk 0 0 0) : A3_Int) fun a30 b31 =>
brr (a30.x1 == a28.ID) (
cont ((IntKind.i64.wrap (v26 + 1)), (IntKind.i64.wrap (v27 + 1)))) (
cont (v26, (IntKind.i64.wrap (v27 + 1))))) (
cont (v26, (IntKind.i64.wrap (v27 + 1))))) (
cont (v26, (IntKind.i64.wrap (v27 + 1))))) (
cont (v26, (IntKind.i64.wrap (v27 + 1))))) (
cont (v26, (IntKind.i64.wrap (v27 + 1))))) (
doneA v26)

def f9.l1 (y2 : (List (Int × A3_Int)) × Bool) (a3 : A3_Int) (y6 : List Edge) (v12 : Bool) (v13 : Int) : Pg (Nx (Bool × Int) (Ex (Bool) (Int × Bool) Empty)) :=
brr (decide (v13 < (L y6 : Int))) (
getR y6 v13 fun a14 =>
brr (a14.ID == a3.x1) (
doneB (a14.To, v12)) (
look y2.1 a14.To ((A3_Int.mk 0 0 0) : A3_Int) fun a15 b16 =>
brr (decide (a15.x0 ≥ a3.x0)) (
doneA (false)) (
brr v12 (
cont (true, (IntKind.i64.wrap (v13 + 1)))) (
look y2.1 a14.To ((A3_Int.mk 0 0 0) : A3_Int) fun a17 b18 =>
cont ((a17.x0 == (IntKind.i64.wrap (a3.x0 - 1))), (IntKind.i64.wrap (v13 + 1))))))) (
doneB (((-1) : Int), v12))

def f9 (p1 : View) : Pg Bool :=
cl (f36.ok p1) fun y2 =>
brr (!y2.2) (
.ret (false)) (
look y2.1 p1.Vertex.ID ((A3_Int.mk 0 0 0) : A3_Int) fun a3 b4 =>
brr (p1.Vertex.Side != 3) (
.ret (((a3.x0 == 0) && ((a3.x1 == (-1)) && ((a3.x2 == 0) && true))))) (
join1 (.reg 8) (
brr (decide (a3.x0 < 1)) (
retA' true) (
brr (decide (a3.x0 > 24)) (
retA' true) (
brr (decide (a3.x2 < 0)) (
retA' true) (
retA' (decide (a3.x2 ≥ 24)))))) (.cut .nat fun x5 => ([(1, R 101), (3, .pv (.mp true (y2.1.map mKey) (y2.1.map mRow))), (5, V p1.Vertex.ID), (6, R 103), (52, V x5)], [(101, B p1), (103, B a3)])) fun x5 =>
brr x5 (
.ret (false)) (
cl (f38v1.ok p1.Edges p1.Vertex.ID y2.1) fun y6 =>
loop2 (false, (0 : Int)) (fun s19 => f9.l1 y2 a3 y6 s19.1 s19.2) (fun s19 => ([(1, R 101), (3, .pv (.mp true (y2.1.map mKey) (y2.1.map mRow))), (5, V p1.Vertex.ID), (6, R 103), (7, .bnd 37 (.pv (.mp true (y2.1.map mKey) (y2.1.map mRow)))), (8, V ((-1) : Int)), (9, V s19.1), (59, V y6), (60, V (L y6 : Int)), (61, V s19.2)], [(101, B p1), (103, B a3)])) .inl (fun r20 =>
.ret r20) (.cut (.ext 0) fun x21 => ([(1, R 101), (3, .pv (.mp true (y2.1.map mKey) (y2.1.map mRow))), (5, V p1.Vertex.ID), (6, R 103), (7, .bnd 37 (.pv (.mp true (y2.1.map mKey) (y2.1.map mRow)))), (8, V x21.1), (9, V x21.2)], [(101, B p1), (103, B a3)])) fun x21 =>
loop1 ((0 : Int), (0 : Int)) (fun s32 => f9.l2 p1 y2 s32.1 s32.2) (fun s32 => ([(3, .pv (.mp true (y2.1.map mKey) (y2.1.map mRow))), (5, V p1.Vertex.ID), (6, R 101), (7, .bnd 37 (.pv (.mp true (y2.1.map mKey) (y2.1.map mRow)))), (8, V x21.1), (9, V x21.2), (12, V s32.1), (94, V p1.Edges), (95, V (L p1.Edges : Int)), (96, V s32.2)], [(101, B a3)])) (.cut (.ext 2) fun x33 => ([(3, .pv (.mp true (y2.1.map mKey) (y2.1.map mRow))), (6, R 101), (8, V x21.1), (9, V x21.2), (12, V x33)], [(101, B a3)])) fun x33 =>
brr (a3.x1 == (-1)) (
brr (x33 == 0) (
brr (a3.x2 == 0) (
.ret (((a3.x0 == 1) || x21.2))) (
.ret (false))) (
.ret (false))) (
join1 (.reg 30) (
brr (decide (x21.1 < 0)) (
retA' true) (
look y2.1 x21.1 ((A3_Int.mk 0 0 0) : A3_Int) fun a34 b35 =>
retA' ((a34.x0 != a3.x0) || (x33 != 1)))) (.cut .nat fun x36 => ([(3, .pv (.mp true (y2.1.map mKey) (y2.1.map mRow))), (6, R 101), (8, V x21.1), (9, V x21.2), (165, V x36)], [(101, B a3)])) fun x36 =>
brr x36 (
.ret (false)) (
brr ((a3.x0 == 1) || x21.2) (
.ret ((a3.x2 == 0))) (
look y2.1 x21.1 ((A3_Int.mk 0 0 0) : A3_Int) fun a37 b38 =>
.ret ((a3.x2 == (IntKind.i64.wrap (a37.x2 + 1))))))))))

theorem f9.ok (p1 : View) {x} (h : (f9 p1).run = some x) : Spec Tryz.prog 9 [V p1] [] (V x) [] :=
  Prg.ok Tryz.func9 (res := fun x => V x) (outs := fun x => []) (by kernel_rfl) (by kernel_rfl) rfl h

def f12.l1 (p1 : View) (v4 : Int) : Pg (Nx Int (Ex (Int) Unit Empty)) :=
brr (decide (v4 < (L p1.Labels : Int))) (
getR p1.Labels v4 fun a5 =>
brr (a5.ID == p1.Vertex.ID) (
brr ((L a5.Label : Int) == 3) (
getR a5.Label (1 : Int) fun a6 =>
brr (decide (a6 ≥ 0)) (
doneA ((1 : Int))) (
doneA ((0 : Int)))) (
doneA ((0 : Int)))) (
cont (IntKind.i64.wrap (v4 + 1)))) (
doneB ())

def f12 (p1 : View) : Pg Int :=
loop2 (0 : Int) (fun s7 => f12.l1 p1 s7) (fun s7 => ([(1, R 101), (6, V p1.Labels), (7, V (L p1.Labels : Int)), (8, V s7)], [(101, B p1)])) .inl (fun r8 =>
.ret r8) (.cut (.ext 0) fun _ => ([], [])) fun _ =>
.ret ((0 : Int))

theorem f12.ok (p1 : View) {x} (h : (f12 p1).run = some x) : Spec Tryz.prog 12 [V p1] [] (V x) [] :=
  Prg.ok Tryz.func12 (res := fun x => V x) (outs := fun x => []) (by kernel_rfl) (by kernel_rfl) rfl h

def f30.l1 (p1 p2 : List (List Int)) (v6 : Int) : Pg (Nx Int (Ex (Bool) Unit Empty)) :=
brr (decide (v6 < (L p1 : Int))) (
getR p1 v6 fun a7 =>
getR p2 v6 fun a8 =>
cl (f20.ok a7 a8) fun y9 =>
brr (!y9) (
doneA (false)) (
cont (IntKind.i64.wrap (v6 + 1)))) (
doneB ())

def f30 (p1 p2 : List (List Int)) : Pg Bool :=
brr ((L p1 : Int) != (L p2 : Int)) (
.ret (false)) (
loop2 (0 : Int) (fun s10 => f30.l1 p1 p2 s10) (fun s10 => ([(0, V p1), (1, V p2), (5, V s10)], [])) .inl (fun r11 =>
.ret r11) (.cut (.ext 0) fun _ => ([], [])) fun _ =>
.ret (true))

theorem f30.ok (p1 p2 : List (List Int)) {x} (h : (f30 p1 p2).run = some x) : Spec Tryz.prog 30 [V p1, V p2] [] (V x) [] :=
  Prg.ok Tryz.func30 (res := fun x => V x) (outs := fun x => []) (by kernel_rfl) (by kernel_rfl) rfl h

def f6 : Pg Bool :=
cl (f28.ok) fun y1 =>
cl (f16.ok y1 ([(Edge.mk (0 : Int) (0 : Int) (1 : Int) true (9 : Int) 0), (Edge.mk (1 : Int) (1 : Int) (0 : Int) true (1 : Int) 0), (Edge.mk (2 : Int) (1 : Int) (2 : Int) true (5 : Int) 0), (Edge.mk (3 : Int) (2 : Int) (0 : Int) true (3 : Int) 0), (Edge.mk (4 : Int) (3 : Int) (0 : Int) true (8 : Int) 0), (Edge.mk (5 : Int) (3 : Int) (3 : Int) true (0 : Int) 0)] : List Edge)) fun y2 =>
cl (f29.ok y1 ([(Edge.mk (0 : Int) (0 : Int) (1 : Int) true (9 : Int) 0), (Edge.mk (1 : Int) (1 : Int) (0 : Int) true (1 : Int) 0), (Edge.mk (2 : Int) (1 : Int) (2 : Int) true (5 : Int) 0), (Edge.mk (3 : Int) (2 : Int) (0 : Int) true (3 : Int) 0), (Edge.mk (4 : Int) (3 : Int) (0 : Int) true (8 : Int) 0), (Edge.mk (5 : Int) (3 : Int) (3 : Int) true (0 : Int) 0)] : List Edge)) fun y3 =>
cl (f27.ok y1 ([(Edge.mk (0 : Int) (0 : Int) (1 : Int) true (9 : Int) 0), (Edge.mk (1 : Int) (1 : Int) (0 : Int) true (1 : Int) 0), (Edge.mk (2 : Int) (1 : Int) (2 : Int) true (5 : Int) 0), (Edge.mk (3 : Int) (2 : Int) (0 : Int) true (3 : Int) 0), (Edge.mk (4 : Int) (3 : Int) (0 : Int) true (8 : Int) 0), (Edge.mk (5 : Int) (3 : Int) (3 : Int) true (0 : Int) 0)] : List Edge) (1 : Int) (2 : Int) (1 : Int)) fun y4 =>
cl (f27.ok y1 ([(Edge.mk (0 : Int) (0 : Int) (1 : Int) true (9 : Int) 0), (Edge.mk (1 : Int) (1 : Int) (0 : Int) true (1 : Int) 0), (Edge.mk (2 : Int) (1 : Int) (2 : Int) true (5 : Int) 0), (Edge.mk (3 : Int) (2 : Int) (0 : Int) true (3 : Int) 0), (Edge.mk (4 : Int) (3 : Int) (0 : Int) true (8 : Int) 0), (Edge.mk (5 : Int) (3 : Int) (3 : Int) true (0 : Int) 0)] : List Edge) (1 : Int) (1 : Int) ((-1) : Int)) fun y5 =>
cl (f27.ok y1 ([(Edge.mk (0 : Int) (0 : Int) (1 : Int) true (9 : Int) 0), (Edge.mk (1 : Int) (1 : Int) (0 : Int) true (1 : Int) 0), (Edge.mk (2 : Int) (1 : Int) (2 : Int) true (5 : Int) 0), (Edge.mk (3 : Int) (2 : Int) (0 : Int) true (3 : Int) 0), (Edge.mk (4 : Int) (3 : Int) (0 : Int) true (8 : Int) 0), (Edge.mk (5 : Int) (3 : Int) (3 : Int) true (0 : Int) 0)] : List Edge) (1 : Int) ((-1) : Int) (2 : Int)) fun y6 =>
cl (f27.ok y1 ([(Edge.mk (0 : Int) (0 : Int) (1 : Int) true (9 : Int) 0), (Edge.mk (1 : Int) (1 : Int) (0 : Int) true (1 : Int) 0), (Edge.mk (2 : Int) (1 : Int) (2 : Int) true (5 : Int) 0), (Edge.mk (3 : Int) (2 : Int) (0 : Int) true (3 : Int) 0), (Edge.mk (4 : Int) (3 : Int) (0 : Int) true (8 : Int) 0), (Edge.mk (5 : Int) (3 : Int) (3 : Int) true (0 : Int) 0)] : List Edge) (3 : Int) (5 : Int) (4 : Int)) fun y7 =>
brr (((((((y2.2 != 0) || (y3.2 != 0)) || (y4.2 != 0)) || (y5.2 != 0)) || (y6.2 != 0)) || (y7.2 != 140)) || ((L y2.1 : Int) != 4)) (
.ret (false)) (
join1 (.reg 10) (
getR y2.1 (0 : Int) fun a10 =>
cl (f20.ok a10.Label ([1, 0, 0] : List Int)) fun y11 =>
brr y11 (
getR y2.1 (1 : Int) fun a12 =>
cl (f20.ok a12.Label ([1, 2, 0] : List Int)) fun y13 =>
brr y13 (
getR y2.1 (2 : Int) fun a14 =>
cl (f20.ok a14.Label ([1, 3, 0] : List Int)) fun y15 =>
brr y15 (
getR y2.1 (3 : Int) fun a16 =>
cl (f20.ok a16.Label ([2, (-1), 0] : List Int)) fun y17 =>
retA' y17) (
retA' false)) (
retA' false)) (
retA' false)) (.cut .nat fun x18 => ([(1, R 101), (2, V y2.1), (4, V y3.1), (6, V y4.1), (8, V y5.1), (10, V y6.1), (14, V x18)], [(101, .varp [.sl (y1.map Cel.enc), .sl (([(Edge.mk (0 : Int) (0 : Int) (1 : Int) true (9 : Int) 0), (Edge.mk (1 : Int) (1 : Int) (0 : Int) true (1 : Int) 0), (Edge.mk (2 : Int) (1 : Int) (2 : Int) true (5 : Int) 0), (Edge.mk (3 : Int) (2 : Int) (0 : Int) true (3 : Int) 0), (Edge.mk (4 : Int) (3 : Int) (0 : Int) true (8 : Int) 0), (Edge.mk (5 : Int) (3 : Int) (3 : Int) true (0 : Int) 0)] : List Edge).map Cel.enc), .nilsl])])) fun x18 =>
join1 (.reg 11) (
cl (f15.ok y1 ([(Edge.mk (0 : Int) (0 : Int) (1 : Int) true (9 : Int) 0), (Edge.mk (1 : Int) (1 : Int) (0 : Int) true (1 : Int) 0), (Edge.mk (2 : Int) (1 : Int) (2 : Int) true (5 : Int) 0), (Edge.mk (3 : Int) (2 : Int) (0 : Int) true (3 : Int) 0), (Edge.mk (4 : Int) (3 : Int) (0 : Int) true (8 : Int) 0), (Edge.mk (5 : Int) (3 : Int) (3 : Int) true (0 : Int) 0)] : List Edge) y2.1 (3 : Int)) fun y21 =>
cl (f9.ok y21) fun y22 =>
brr y22 (
cl (f15.ok y1 ([(Edge.mk (0 : Int) (0 : Int) (1 : Int) true (9 : Int) 0), (Edge.mk (1 : Int) (1 : Int) (0 : Int) true (1 : Int) 0), (Edge.mk (2 : Int) (1 : Int) (2 : Int) true (5 : Int) 0), (Edge.mk (3 : Int) (2 : Int) (0 : Int) true (3 : Int) 0), (Edge.mk (4 : Int) (3 : Int) (0 : Int) true (8 : Int) 0), (Edge.mk (5 : Int) (3 : Int) (3 : Int) true (0 : Int) 0)] : List Edge) y2.1 (1 : Int)) fun y23 =>
cl (f12.ok y23) fun y24 =>
brr (y24 == 1) (
cl (f15.ok y1 ([(Edge.mk (0 : Int) (0 : Int) (1 : Int) true (9 : Int) 0), (Edge.mk (1 : Int) (1 : Int) (0 : Int) true (1 : Int) 0), (Edge.mk (2 : Int) (1 : Int) (2 : Int) true (5 : Int) 0), (Edge.mk (3 : Int) (2 : Int) (0 : Int) true (3 : Int) 0), (Edge.mk (4 : Int) (3 : Int) (0 : Int) true (8 : Int) 0), (Edge.mk (5 : Int) (3 : Int) (3 : Int) true (0 : Int) 0)] : List Edge) y2.1 (3 : Int)) fun y25 =>
cl (f12.ok y25) fun y26 =>
retA' (y26 == 0)) (
retA' false)) (
retA' false)) (.cut .nat fun x27 => ([(1, R 101), (2, V y2.1), (4, V y3.1), (6, V y4.1), (8, V y5.1), (10, V y6.1), (14, V x18), (15, V x27)], [(101, .varp [.sl (y1.map Cel.enc), .sl (([(Edge.mk (0 : Int) (0 : Int) (1 : Int) true (9 : Int) 0), (Edge.mk (1 : Int) (1 : Int) (0 : Int) true (1 : Int) 0), (Edge.mk (2 : Int) (1 : Int) (2 : Int) true (5 : Int) 0), (Edge.mk (3 : Int) (2 : Int) (0 : Int) true (3 : Int) 0), (Edge.mk (4 : Int) (3 : Int) (0 : Int) true (8 : Int) 0), (Edge.mk (5 : Int) (3 : Int) (3 : Int) true (0 : Int) 0)] : List Edge).map Cel.enc), .nilsl])])) fun x27 =>
cut3 ([(Edge.mk (0 : Int) (0 : Int) (1 : Int) true (9 : Int) 0), (Edge.mk (1 : Int) (1 : Int) (0 : Int) true (1 : Int) 0), (Edge.mk (2 : Int) (1 : Int) (2 : Int) true (5 : Int) 0), (Edge.mk (3 : Int) (2 : Int) (0 : Int) true (3 : Int) 0), (Edge.mk (4 : Int) (3 : Int) (0 : Int) true (8 : Int) 0), (Edge.mk (5 : Int) (3 : Int) (3 : Int) true (0 : Int) 0)] : List Edge) (2 : Int) (2 : Int) fun l28 =>
cutLo ([(Edge.mk (0 : Int) (0 : Int) (1 : Int) true (9 : Int) 0), (Edge.mk (1 : Int) (1 : Int) (0 : Int) true (1 : Int) 0), (Edge.mk (2 : Int) (1 : Int) (2 : Int) true (5 : Int) 0), (Edge.mk (3 : Int) (2 : Int) (0 : Int) true (3 : Int) 0), (Edge.mk (4 : Int) (3 : Int) (0 : Int) true (8 : Int) 0), (Edge.mk (5 : Int) (3 : Int) (3 : Int) true (0 : Int) 0)] : List Edge) (3 : Int) fun l29 =>
apC l28 l29 fun l30 =>
cl (f29.ok y1 l30) fun y31 =>
cl (f16.ok y1 l30) fun y32 =>
brr (((y31.2 != 0) || (y32.2 != 0)) || ((L y32.1 : Int) != 4)) (
.ret (false)) (
brr ((((x18 && x27) && y4.1) && y5.1) && (!y6.1)) (
cl (f30.ok y3.1 ([([0, 1, 2] : List Int), ([3] : List Int)] : List (List Int))) fun y33 =>
brr y33 (
cl (f30.ok y31.1 ([([0, 1] : List Int), ([2, 3] : List Int)] : List (List Int))) fun y34 =>
brr y34 (
getR y32.1 (2 : Int) fun a35 =>
cl (f20.ok a35.Label ([2, (-1), 0] : List Int)) fun y36 =>
brr y36 (
cl (f15.ok y1 l30 y2.1 (1 : Int)) fun y37 =>
cl (f9.ok y37) fun y38 =>
.ret ((!y38))) (
.ret (false))) (
.ret (false))) (
.ret (false))) (
.ret (false))))

theorem f6.ok {x} (h : (f6).run = some x) : Spec Tryz.prog 6 [] [] (V x) [] :=
  Prg.ok Tryz.func6 (res := fun x => V x) (outs := fun x => []) (by kernel_rfl) (by kernel_rfl) rfl h

def f58 (p1 p2 : Int) : Pg Int :=
brr (decide (p1 < 0)) (
nzD p2 <|
.ret (((IntKind.i64.wrap (0 - (IntKind.i64.wrap (p1 + 1)))).tmod p2))) (
nzD p2 <|
.ret ((p1.tmod p2)))

theorem f58.ok (p1 p2 : Int) {x} (h : (f58 p1 p2).run = some x) : Spec Tryz.prog 58 [V p1, V p2] [] (V x) [] :=
  Prg.ok Tryz.func58 (res := fun x => V x) (outs := fun x => []) (by kernel_rfl) (by kernel_rfl) rfl h

def f31.l3 (p1 x5 : Int) (x30 : List Vertex) (v98 : Int) (l99 : List Int) : Pg (Nx (Int × (List Int)) (Ex (List Int) Empty Empty)) :=
cl (f58.ok (IntKind.i64.wrap (p1.tdiv 32)) (4 : Int)) fun y100 =>
brr ((decide (v98 < y100)) && (decide (v98 < x5))) (
ck v98 (L x30) <|
rd x30 (at0 v98) fun a101 =>
ap l99 ([a101.ID] : List Int) fun l102 =>
cont ((IntKind.i64.wrap (v98 + 1)), l102)) (
doneA l99)

def f31.l2 (p1 : Int) (p2 : List A5_Int) (x5 : Int) (x30 : List Vertex) (v69 : Int) (l70 : List Edge) : Pg (Nx (Int × (List Edge)) (Ex (List Edge) Empty Empty)) :=
brr ((decide (v69 < (L p2 : Int))) && (decide (v69 < 20))) (
cl (f58.ok (IntKind.i64.wrap (p1.tdiv 4)) (20 : Int)) fun y71 =>
getR p2 v69 fun a72 =>
cl (f58.ok a72.x0 x5) fun y73 =>
ck y73 (L x30) <|
rd x30 (at0 y73) fun a74 =>
getR p2 v69 fun a75 =>
cl (f58.ok a75.x1 x5) fun y76 =>
ck y76 (L x30) <|
rd x30 (at0 y76) fun a77 =>
getR p2 v69 fun a78 =>
cl (f58.ok a78.x2 (2 : Int)) fun y79 =>
getR p2 v69 fun a80 =>
cl (f58.ok a80.x3 (12 : Int)) fun y81 =>
getR p2 v69 fun a82 =>
cl (f58.ok a82.x4 (6 : Int)) fun y83 =>
getR p2 v69 fun a84 =>
cl (f58.ok a84.x4 (11 : Int)) fun y85 =>
join1 (.cond 122) (
brr (y85 == 10) (
getR p2 v69 fun a86 =>
cl (f58.ok a86.x3 (2001 : Int)) fun y87 =>
retA' (Edge.mk (IntKind.i64.wrap (v69 + y71)) a74.ID a77.ID (y79 == 1) (IntKind.i64.wrap (y87 - 1000)) y83)) (
retA' (Edge.mk (IntKind.i64.wrap (v69 + y71)) a74.ID a77.ID (y79 == 1) (IntKind.i64.wrap (y81 - 3)) y83))) (.cut .nat fun x88 => ([(0, V p1), (1, V p2), (6, R 101), (7, R 103), (8, V x5), (11, V v69), (12, R 105)], [(101, .varp [.nilsl, .nilsl, .nilsl]), (103, .var [H Vertex 107, H Edge 109, .pv .nilsl]), (105, B x88), (107, O x30), (109, O l70)])) fun x88 =>
ap l70 ([x88] : List Edge) fun l89 =>
cont ((IntKind.i64.wrap (v69 + 1)), l89)) (
doneA l70)

def f31.l1 (p1 : Int) (p2 : List A5_Int) (p3 : Bool) (x5 : Int) (v20 : Int) (l21 : List Vertex) : Pg (Nx (Int × (List Vertex)) (Ex (List Vertex) Empty Empty)) :=
brr (decide (v20 < x5)) (
join1 (.reg 9) (
brr (!p3) (
cl (f58.ok (IntKind.i64.wrap (p1.tdiv 8)) (2 : Int)) fun y22 =>
retA' (y22 == 1)) (
retA' false)) (.cut .nat fun x23 => ([(0, V p1), (1, V p2), (2, V p3), (6, R 101), (7, R 103), (8, V x5), (9, V v20), (10, V v20), (34, V x23)], [(101, .varp [.nilsl, .nilsl, .nilsl]), (103, .var [H Vertex 105, .pv .nilsl, .pv .nilsl]), (105, O l21)])) fun x23 =>
join1 (.cond 34) (
brr x23 (
retA' (IntKind.i64.wrap (v20 + (IntKind.i64.wrap (v20.tdiv 2))))) (
retA' v20)) (.cut .nat fun x24 => ([(0, V p1), (1, V p2), (2, V p3), (6, R 101), (7, R 103), (8, V x5), (9, V v20), (10, V x24)], [(101, .varp [.nilsl, .nilsl, .nilsl]), (103, .var [H Vertex 105, .pv .nilsl, .pv .nilsl]), (105, O l21)])) fun x24 =>
cl (f58.ok (IntKind.i64.wrap (p1.tdiv 64)) (3 : Int)) fun y25 =>
let e26 : Int := (IntKind.i64.wrap ((IntKind.i64.wrap (p1.tdiv 16)) + (IntKind.i64.wrap (v20 * (IntKind.i64.wrap (1 + y25))))))
cl (f58.ok e26 (4 : Int)) fun y27 =>
ap l21 ([(Vertex.mk x24 y27)] : List Vertex) fun l28 =>
cont ((IntKind.i64.wrap (v20 + 1)), l28)) (
doneA l21)

def f31 (p1 : Int) (p2 : List A5_Int) (p3 : Bool) : Pg Graph :=
cl (f58.ok p1 (8 : Int)) fun y4 =>
join1 (.cond 18) (
brr p3 (
retA' (IntKind.i64.wrap ((IntKind.i64.wrap (1 + y4)) + 10))) (
retA' (IntKind.i64.wrap (1 + y4)))) (.cut .nat fun x5 => ([(0, V p1), (1, V p2), (2, V p3), (6, R 101), (7, R 103), (8, V x5)], [(101, .varp [.nilsl, .nilsl, .nilsl]), (103, .varp [.nilsl, .nilsl, .nilsl])])) fun x5 =>
loop1 ((0 : Int), ([] : List Vertex)) (fun s29 => f31.l1 p1 p2 p3 x5 s29.1 s29.2) (fun s29 => ([(0, V p1), (1, V p2), (2, V p3), (6, R 101), (7, R 103), (8, V x5), (9, V s29.1)], [(101, .varp [.nilsl, .nilsl, .nilsl]), (103, .var [H Vertex 505, .pv .nilsl, .pv .nilsl]), (505, O s29.2)])) (.cut (.ext 0) fun x30 => ([(0, V p1), (1, V p2), (6, R 101), (7, R 103), (8, V x5)], [(101, .varp [.nilsl, .nilsl, .nilsl]), (103, .var [H Vertex 105, .pv .nilsl, .pv .nilsl]), (105, O x30)])) fun x30 =>
loop1 ((0 : Int), ([] : List Edge)) (fun s90 => f31.l2 p1 p2 x5 x30 s90.1 s90.2) (fun s90 => ([(0, V p1), (1, V p2), (6, R 101), (7, R 103), (8, V x5), (11, V s90.1)], [(101, .varp [.nilsl, .nilsl, .nilsl]), (103, .var [H Vertex 105, H Edge 507, .pv .nilsl]), (105, O x30), (507, O s90.2)])) (.cut (.ext 2) fun x91 => ([(0, V p1), (6, R 101), (7, R 103), (8, V x5)], [(101, .varp [.nilsl, .nilsl, .nilsl]), (103, .var [H Vertex 105, H Edge 107, .pv .nilsl]), (105, O x30), (107, O x91)])) fun x91 =>
loop1 ((0 : Int), ([] : List Int)) (fun s103 => f31.l3 p1 x5 x30 s103.1 s103.2) (fun s103 => ([(0, V p1), (6, R 101), (7, R 103), (8, V x5), (13, V s103.1)], [(101, .varp [.nilsl, .nilsl, .nilsl]), (103, .var [H Vertex 105, H Edge 107, H Int 509]), (105, O x30), (107, O x91), (509, O s103.2)])) (.cut (.ext 4) fun x104 => ([(6, R 101), (7, R 103)], [(101, .varp [.nilsl, .nilsl, .nilsl]), (103, .var [H Vertex 105, H Edge 107, H Int 109]), (105, O x30), (107, O x91), (109, O x104)])) fun x104 =>
.ret ((Graph.mk x30 x91 x104))

theorem f31.ok (p1 : Int) (p2 : List A5_Int) (p3 : Bool) {x} (h : (f31 p1 p2 p3).run = some x) : Spec Tryz.prog 31 [V p1, V p2, V p3] [] (V x) [] :=
  Prg.ok Tryz.func31 (res := fun x => V x) (outs := fun x => []) (by kernel_rfl) (by kernel_rfl) rfl h

def f32 (p1 p2 : Int) : Pg Int :=
brr (decide (p1 < 0)) (
nzD p2 <|
.ret (((IntKind.i64.wrap (0 - (IntKind.i64.wrap (p1 + 1)))).tmod p2))) (
nzD p2 <|
.ret ((p1.tmod p2)))

theorem f32.ok (p1 p2 : Int) {x} (h : (f32 p1 p2).run = some x) : Spec Tryz.prog 32 [V p1, V p2] [] (V x) [] :=
  Prg.ok Tryz.func32 (res := fun x => V x) (outs := fun x => []) (by kernel_rfl) (by kernel_rfl) rfl h

def f31v1.l3 (p1 x5 : Int) (x30 : List Vertex) (v98 : Int) (l99 : List Int) : Pg (Nx (Int × (List Int)) (Ex (List Int) Empty Empty)) :=
cl (f58.ok (IntKind.i64.wrap (p1.tdiv 32)) (4 : Int)) fun y100 =>
brr ((decide (v98 < y100)) && (decide (v98 < x5))) (
ck v98 (L x30) <|
rd x30 (at0 v98) fun a101 =>
ap l99 ([a101.ID] : List Int) fun l102 =>
cont ((IntKind.i64.wrap (v98 + 1)), l102)) (
doneA l99)

def f31v1.l2 (p1 : Int) (p2 : List A5_Int) (x5 : Int) (x30 : List Vertex) (v69 : Int) (l70 : List Edge) : Pg (Nx (Int × (List Edge)) (Ex (List Edge) Empty Empty)) :=
brr ((decide (v69 < (L p2 : Int))) && (decide (v69 < 20))) (
cl (f58.ok (IntKind.i64.wrap (p1.tdiv 4)) (20 : Int)) fun y71 =>
getR p2 v69 fun a72 =>
cl (f58.ok a72.x0 x5) fun y73 =>
ck y73 (L x30) <|
rd x30 (at0 y73) fun a74 =>
getR p2 v69 fun a75 =>
cl (f58.ok a75.x1 x5) fun y76 =>
ck y76 (L x30) <|
rd x30 (at0 y76) fun a77 =>
getR p2 v69 fun a78 =>
cl (f58.ok a78.x2 (2 : Int)) fun y79 =>
getR p2 v69 fun a80 =>
cl (f58.ok a80.x3 (12 : Int)) fun y81 =>
getR p2 v69 fun a82 =>
cl (f58.ok a82.x4 (6 : Int)) fun y83 =>
getR p2 v69 fun a84 =>
cl (f58.ok a84.x4 (11 : Int)) fun y85 =>
join1 (.cond 122) (
brr (y85 == 10) (
getR p2 v69 fun a86 =>
cl (f58.ok a86.x3 (2001 : Int)) fun y87 =>
retA' (Edge.mk (IntKind.i64.wrap (v69 + y71)) a74.ID a77.ID (y79 == 1) (IntKind.i64.wrap (y87 - 1000)) y83)) (
retA' (Edge.mk (IntKind.i64.wrap (v69 + y71)) a74.ID a77.ID (y79 == 1) (IntKind.i64.wrap (y81 - 3)) y83))) (.cut .nat fun x88 => ([(0, V p1), (1, V p2), (6, R 101), (7, R 103), (8, V x5), (11, V v69), (12, R 105)], [(101, .varp [.nilsl, .nilsl, .nilsl]), (103, .var [H Vertex 107, H Edge 109, .pv .nilsl]), (105, B x88), (107, O x30), (109, O l70)])) fun x88 =>
ap l70 ([x88] : List Edge) fun l89 =>
cont ((IntKind.i64.wrap (v69 + 1)), l89)) (
doneA l70)

def f31v1.l1 (p1 : Int) (p2 : List A5_Int) (p3 : Bool) (x5 : Int) (v20 : Int) (l21 : List Vertex) : Pg (Nx (Int × (List Vertex)) (Ex (List Vertex) Empty Empty)) :=
brr (decide (v20 < x5)) (
join1 (.reg 9) (
brr (!p3) (
cl (f58.ok (IntKind.i64.wrap (p1.tdiv 8)) (2 : Int)) fun y22 =>
retA' (y22 == 1)) (
retA' false)) (.cut .nat fun x23 => ([(0, V p1), (1, V p2), (2, V p3), (6, R 101), (7, R 103), (8, V x5), (9, V v20), (10, V v20), (34, V x23)], [(101, .varp [.nilsl, .nilsl, .nilsl]), (103, .var [H Vertex 105, .pv .nilsl, .pv .nilsl]), (105, O l21)])) fun x23 =>
join1 (.cond 34) (
brr x23 (
retA' (IntKind.i64.wrap (v20 + (IntKind.i64.wrap (v20.tdiv 2))))) (
retA' v20)) (.cut .nat fun x24 => ([(0, V p1), (1, V p2), (2, V p3), (6, R 101), (7, R 103), (8, V x5), (9, V v20), (10, V x24)], [(101, .varp [.nilsl, .nilsl, .nilsl]), (103, .var [H Vertex 105, .pv .nilsl, .pv .nilsl]), (105, O l21)])) fun x24 =>
cl (f58.ok (IntKind.i64.wrap (p1.tdiv 64)) (3 : Int)) fun y25 =>
let e26 : Int := (IntKind.i64.wrap ((IntKind.i64.wrap (p1.tdiv 16)) + (IntKind.i64.wrap (v20 * (IntKind.i64.wrap (1 + y25))))))
cl (f58.ok e26 (4 : Int)) fun y27 =>
ap l21 ([(Vertex.mk x24 y27)] : List Vertex) fun l28 =>
cont ((IntKind.i64.wrap (v20 + 1)), l28)) (
doneA l21)

def f31v1 (p1 : Int) (p2 : List A5_Int) (p3 : Bool) : Pg ((List Edge) × (List Int) × (List Vertex)) :=
cl (f58.ok p1 (8 : Int)) fun y4 =>
join1 (.cond 18) (
brr p3 (
retA' (IntKind.i64.wrap ((IntKind.i64.wrap (1 + y4)) + 10))) (
retA' (IntKind.i64.wrap (1 + y4)))) (.cut .nat fun x5 => ([(0, V p1), (1, V p2), (2, V p3), (6, R 101), (7, R 103), (8, V x5)], [(101, .varp [.nilsl, .nilsl, .nilsl]), (103, .varp [.nilsl, .nilsl, .nilsl])])) fun x5 =>
loop1 ((0 : Int), ([] : List Vertex)) (fun s29 => f31v1.l1 p1 p2 p3 x5 s29.1 s29.2) (fun s29 => ([(0, V p1), (1, V p2), (2, V p3), (6, R 101), (7, R 103), (8, V x5), (9, V s29.1)], [(101, .varp [.nilsl, .nilsl, .nilsl]), (103, .var [H Vertex 505, .pv .nilsl, .pv .nilsl]), (505, O s29.2)])) (.cut (.ext 0) fun x30 => ([(0, V p1), (1, V p2), (6, R 101), (7, R 103), (8, V x5)], [(101, .varp [.nilsl, .nilsl, .nilsl]), (103, .var [H Vertex 105, .pv .nilsl, .pv .nilsl]), (105, O x30)])) fun x30 =>
loop1 ((0 : Int), ([] : List Edge)) (fun s90 => f31v1.l2 p1 p2 x5 x30 s90.1 s90.2) (fun s90 => ([(0, V p1), (1, V p2), (6, R 101), (7, R 103), (8, V x5), (11, V s90.1)], [(101, .varp [.nilsl, .nilsl, .nilsl]), (103, .var [H Vertex 105, H Edge 507, .pv .nilsl]), (105, O x30), (507, O s90.2)])) (.cut (.ext 2) fun x91 => ([(0, V p1), (6, R 101), (7, R 103), (8, V x5)], [(101, .varp [.nilsl, .nilsl, .nilsl]), (103, .var [H Vertex 105, H Edge 107, .pv .nilsl]), (105, O x30), (107, O x91)])) fun x91 =>
loop1 ((0 : Int), ([] : List Int)) (fun s103 => f31v1.l3 p1 x5 x30 s103.1 s103.2) (fun s103 => ([(0, V p1), (6, R 101), (7, R 103), (8, V x5), (13, V s103.1)], [(101, .varp [.nilsl, .nilsl, .nilsl]), (103, .var [H Vertex 105, H Edge 107, H Int 509]), (105, O x30), (107, O x91), (509, O s103.2)])) (.cut (.ext 4) fun x104 => ([(6, R 101), (7, R 103)], [(101, .varp [.nilsl, .nilsl, .nilsl]), (103, .var [H Vertex 105, H Edge 107, H Int 109]), (105, O x30), (107, O x91), (109, O x104)])) fun x104 =>
.ret ((x91, x104, x30))

theorem f31v1.ok (p1 : Int) (p2 : List A5_Int) (p3 : Bool) {x} (h : (f31v1 p1 p2 p3).run = some x) : Spec Tryz.prog 31 [V p1, V p2, V p3] [] (.agg [H Vertex 0, V x.1, V x.2.1]) [O x.2.2] :=
  Prg.ok Tryz.func31 (res := fun x => .agg [H Vertex 0, V x.1, V x.2.1]) (outs := fun x => [O x.2.2]) (by kernel_rfl) (by kernel_rfl) rfl h

def f31v2.l3 (p1 x5 : Int) (x30 : List Vertex) (v98 : Int) (l99 : List Int) : Pg (Nx (Int × (List Int)) (Ex (List Int) Empty Empty)) :=
cl (f58.ok (IntKind.i64.wrap (p1.tdiv 32)) (4 : Int)) fun y100 =>
brr ((decide (v98 < y100)) && (decide (v98 < x5))) (
ck v98 (L x30) <|
rd x30 (at0 v98) fun a101 =>
ap l99 ([a101.ID] : List Int) fun l102 =>
cont ((IntKind.i64.wrap (v98 + 1)), l102)) (
doneA l99)

def f31v2.l2 (p1 : Int) (p2 : List A5_Int) (x5 : Int) (x30 : List Vertex) (v69 : Int) (l70 : List Edge) : Pg (Nx (Int × (List Edge)) (Ex (List Edge) Empty Empty)) :=
brr ((decide (v69 < (L p2 : Int))) && (decide (v69 < 20))) (
cl (f58.ok (IntKind.i64.wrap (p1.tdiv 4)) (20 : Int)) fun y71 =>
getR p2 v69 fun a72 =>
cl (f58.ok a72.x0 x5) fun y73 =>
ck y73 (L x30) <|
rd x30 (at0 y73) fun a74 =>
getR p2 v69 fun a75 =>
cl (f58.ok a75.x1 x5) fun y76 =>
ck y76 (L x30) <|
rd x30 (at0 y76) fun a77 =>
getR p2 v69 fun a78 =>
cl (f58.ok a78.x2 (2 : Int)) fun y79 =>
getR p2 v69 fun a80 =>
cl (f58.ok a80.x3 (12 : Int)) fun y81 =>
getR p2 v69 fun a82 =>
cl (f58.ok a82.x4 (6 : Int)) fun y83 =>
getR p2 v69 fun a84 =>
cl (f58.ok a84.x4 (11 : Int)) fun y85 =>
join1 (.cond 122) (
brr (y85 == 10) (
getR p2 v69 fun a86 =>
cl (f58.ok a86.x3 (2001 : Int)) fun y87 =>
retA' (Edge.mk (IntKind.i64.wrap (v69 + y71)) a74.ID a77.ID (y79 == 1) (IntKind.i64.wrap (y87 - 1000)) y83)) (
retA' (Edge.mk (IntKind.i64.wrap (v69 + y71)) a74.ID a77.ID (y79 == 1) (IntKind.i64.wrap (y81 - 3)) y83))) (.cut .nat fun x88 => ([(0, V p1), (1, V p2), (6, R 101), (7, R 103), (8, V x5), (11, V v69), (12, R 105)], [(101, .varp [.nilsl, .nilsl, .nilsl]), (103, .var [H Vertex 107, H Edge 109, .pv .nilsl]), (105, B x88), (107, O x30), (109, O l70)])) fun x88 =>
ap l70 ([x88] : List Edge) fun l89 =>
cont ((IntKind.i64.wrap (v69 + 1)), l89)) (
doneA l70)

def f31v2.l1 (p1 : Int) (p2 : List A5_Int) (p3 : Bool) (x5 : Int) (v20 : Int) (l21 : List Vertex) : Pg (Nx (Int × (List Vertex)) (Ex (List Vertex) Empty Empty)) :=
brr (decide (v20 < x5)) (
join1 (.reg 9) (
brr (!p3) (
cl (f58.ok (IntKind.i64.wrap (p1.tdiv 8)) (2 : Int)) fun y22 =>
retA' (y22 == 1)) (
retA' false)) (.cut .nat fun x23 => ([(0, V p1), (1, V p2), (2, V p3), (6, R 101), (7, R 103), (8, V x5), (9, V v20), (10, V v20), (34, V x23)], [(101, .varp [.nilsl, .nilsl, .nilsl]), (103, .var [H Vertex 105, .pv .nilsl, .pv .nilsl]), (105, O l21)])) fun x23 =>
join1 (.cond 34) (
brr x23 (
retA' (IntKind.i64.wrap (v20 + (IntKind.i64.wrap (v20.tdiv 2))))) (
retA' v20)) (.cut .nat fun x24 => ([(0, V p1), (1, V p2), (2, V p3), (6, R 101), (7, R 103), (8, V x5), (9, V v20), (10, V x24)], [(101, .varp [.nilsl, .nilsl, .nilsl]), (103, .var [H Vertex 105, .pv .nilsl, .pv .nilsl]), (105, O l21)])) fun x24 =>
cl (f58.ok (IntKind.i64.wrap (p1.tdiv 64)) (3 : Int)) fun y25 =>
let e26 : Int := (IntKind.i64.wrap ((IntKind.i64.wrap (p1.tdiv 16)) + (IntKind.i64.wrap (v20 * (IntKind.i64.wrap (1 + y25))))))
cl (f58.ok e26 (4 : Int)) fun y27 =>
ap l21 ([(Vertex.mk x24 y27)] : List Vertex) fun l28 =>
cont ((IntKind.i64.wrap (v20 + 1)), l28)) (
doneA l21)

def f31v2 (p1 : Int) (p2 : List A5_Int) (p3 : Bool) : Pg ((List Int) × (List Vertex) × (List Edge)) :=
cl (f58.ok p1 (8 : Int)) fun y4 =>
join1 (.cond 18) (
brr p3 (
retA' (IntKind.i64.wrap ((IntKind.i64.wrap (1 + y4)) + 10))) (
retA' (IntKind.i64.wrap (1 + y4)))) (.cut .nat fun x5 => ([(0, V p1), (1, V p2), (2, V p3), (6, R 101), (7, R 103), (8, V x5)], [(101, .varp [.nilsl, .nilsl, .nilsl]), (103, .varp [.nilsl, .nilsl, .nilsl])])) fun x5 =>
loop1 ((0 : Int), ([] : List Vertex)) (fun s29 => f31v2.l1 p1 p2 p3 x5 s29.1 s29.2) (fun s29 => ([(0, V p1), (1, V p2), (2, V p3), (6, R 101), (7, R 103), (8, V x5), (9, V s29.1)], [(101, .varp [.nilsl, .nilsl, .nilsl]), (103, .var [H Vertex 505, .pv .nilsl, .pv .nilsl]), (505, O s29.2)])) (.cut (.ext 0) fun x30 => ([(0, V p1), (1, V p2), (6, R 101), (7, R 103), (8, V x5)], [(101, .varp [.nilsl, .nilsl, .nilsl]), (103, .var [H Vertex 105, .pv .nilsl, .pv .nilsl]), (105, O x30)])) fun x30 =>
loop1 ((0 : Int), ([] : List Edge)) (fun s90 => f31v2.l2 p1 p2 x5 x30 s90.1 s90.2) (fun s90 => ([(0, V p1), (1, V p2), (6, R 101), (7, R 103), (8, V x5), (11, V s90.1)], [(101, .varp [.nilsl, .nilsl, .nilsl]), (103, .var [H Vertex 105, H Edge 507, .pv .nilsl]), (105, O x30), (507, O s90.2)])) (.cut (.ext 2) fun x91 => ([(0, V p1), (6, R 101), (7, R 103), (8, V x5)], [(101, .varp [.nilsl, .nilsl, .nilsl]), (103, .var [H Vertex 105, H Edge 107, .pv .nilsl]), (105, O x30), (107, O x91)])) fun x91 =>
loop1 ((0 : Int), ([] : List Int)) (fun s103 => f31v2.l3 p1 x5 x30 s103.1 s103.2) (fun s103 => ([(0, V p1), (6, R 101), (7, R 103), (8, V x5), (13, V s103.1)], [(101, .varp [.nilsl, .nilsl, .nilsl]), (103, .var [H Vertex 105, H Edge 107, H Int 509]), (105, O x30), (107, O x91), (509, O s103.2)])) (.cut (.ext 4) fun x104 => ([(6, R 101), (7, R 103)], [(101, .varp [.nilsl, .nilsl, .nilsl]), (103, .var [H Vertex 105, H Edge 107, H Int 109]), (105, O x30), (107, O x91), (109, O x104)])) fun x104 =>
.ret ((x104, x30, x91))

theorem f31v2.ok (p1 : Int) (p2 : List A5_Int) (p3 : Bool) {x} (h : (f31v2 p1 p2 p3).run = some x) : Spec Tryz.prog 31 [V p1, V p2, V p3] [] (.agg [H Vertex 0, H Edge 2, V x.1]) [O x.2.1, O x.2.2] :=
  Prg.ok Tryz.func31 (res := fun x => .agg [H Vertex 0, H Edge 2, V x.1]) (outs := fun x => [O x.2.1, O x.2.2]) (by kernel_rfl) (by kernel_rfl) rfl h

def f7.l2 (p4 : Int) (v19 : Int) (l20 : List Edge) : Pg (Nx (Int × (List Edge)) (Ex (List Edge) Empty Empty)) :=
brr (decide (v19 < (L l20 : Int))) (
cl (f32.ok (IntKind.i64.wrap (p4 + v19)) (6 : Int)) fun y21 =>
brr (decide (y21 > 0)) (
ck v19 (L l20) <|
st l20 (at0 v19) (fun x22 => (Edge.mk x22.ID x22.From x22.To true x22.Weight x22.Cap)) fun l23 =>
cont ((IntKind.i64.wrap (v19 + 1)), l23)) (
cont ((IntKind.i64.wrap (v19 + 1)), l20))) (
doneA l20)

def f7.l1 (p4 : Int) (v9 : Int) (l10 : List Vertex) : Pg (Nx (Int × (List Vertex)) (Ex (List Vertex) Empty Empty)) :=
brr (decide (v9 < (L l10 : Int))) (
cl (f32.ok (IntKind.i64.wrap (p4 + v9)) (5 : Int)) fun y11 =>
brr (decide (y11 > 0)) (
ck v9 (L l10) <|
st l10 (at0 v9) (fun x12 => (Vertex.mk x12.ID 3)) fun l13 =>
cont ((IntKind.i64.wrap (v9 + 1)), l13)) (
cont ((IntKind.i64.wrap (v9 + 1)), l10))) (
doneA l10)

def f7 (p1 : Int) (p2 : List A5_Int) (p3 : Bool) (p4 : Int) : Pg Graph :=
cl (f31v2.ok p1 p2 p3) fun y5 =>
loop1 ((0 : Int), y5.2.1) (fun s14 => f7.l1 p4 s14.1 s14.2) (fun s14 => ([(3, V p4), (8, R 101), (9, R 103), (10, V s14.1)], [(101, .varp [.nilsl, .nilsl, .nilsl]), (103, .var [H Vertex 105, H Edge 107, V y5.1]), (105, O s14.2), (107, O y5.2.2)])) (.cut (.ext 0) fun x15 => ([(3, V p4), (8, R 101), (9, R 103)], [(101, .varp [.nilsl, .nilsl, .nilsl]), (103, .var [H Vertex 105, H Edge 107, V y5.1]), (105, O x15), (107, O y5.2.2)])) fun x15 =>
loop1 ((0 : Int), y5.2.2) (fun s24 => f7.l2 p4 s24.1 s24.2) (fun s24 => ([(3, V p4), (8, R 101), (9, R 103), (11, V s24.1)], [(101, .varp [.nilsl, .nilsl, .nilsl]), (103, .var [H Vertex 105, H Edge 107, V y5.1]), (105, O x15), (107, O s24.2)])) (.cut (.ext 2) fun x25 => ([(8, R 101), (9, R 103)], [(101, .varp [.nilsl, .nilsl, .nilsl]), (103, .var [H Vertex 105, H Edge 107, V y5.1]), (105, O x15), (107, O x25)])) fun x25 =>
.ret ((Graph.mk x15 x25 y5.1))

theorem f7.ok (p1 : Int) (p2 : List A5_Int) (p3 : Bool) (p4 : Int) {x} (h : (f7 p1 p2 p3 p4).run = some x) : Spec Tryz.prog 7 [V p1, V p2, V p3, V p4] [] (V x) [] :=
  Prg.ok Tryz.func7 (res := fun x => V x) (outs := fun x => []) (by kernel_rfl) (by kernel_rfl) rfl h

def f115 (p1 p2 p3 : Int) : Pg Unit :=
.ret (())

theorem f115.ok (p1 p2 p3 : Int) {x} (h : (f115 p1 p2 p3).run = some x) : Spec Tryz.prog 115 [V p1, V p2, V p3] [] (V ((decide (p1 ≥ p2)) && (decide (p1 ≤ p3)))) [] :=
  Prg.ok Tryz.func115 (res := fun x => V ((decide (p1 ≥ p2)) && (decide (p1 ≤ p3)))) (outs := fun x => []) (by kernel_rfl) (by kernel_rfl) rfl h

def f65 (p1 : Vertex) : Pg Bool :=
cl (f115.ok p1.ID (0 : Int) (23 : Int)) fun _ =>
brr ((decide (p1.ID ≥ (0 : Int))) && (decide (p1.ID ≤ (23 : Int)))) (
cl (f115.ok p1.Side (0 : Int) (3 : Int)) fun _ =>
.ret (((decide (p1.Side ≥ (0 : Int))) && (decide (p1.Side ≤ (3 : Int)))))) (
.ret (false))

theorem f65.ok (p1 : Vertex) {x} (h : (f65 p1).run = some x) : Spec Tryz.prog 65 [V p1] [] (V x) [] :=
  Prg.ok Tryz.func65 (res := fun x => V x) (outs := fun x => []) (by kernel_rfl) (by kernel_rfl) rfl h

def f66 (p1 : Edge) : Pg Bool :=
cl (f115.ok p1.ID (0 : Int) (39 : Int)) fun _ =>
brr ((decide (p1.ID ≥ (0 : Int))) && (decide (p1.ID ≤ (39 : Int)))) (
cl (f115.ok p1.From (0 : Int) (23 : Int)) fun _ =>
brr ((decide (p1.From ≥ (0 : Int))) && (decide (p1.From ≤ (23 : Int)))) (
cl (f115.ok p1.To (0 : Int) (23 : Int)) fun _ =>
brr ((decide (p1.To ≥ (0 : Int))) && (decide (p1.To ≤ (23 : Int)))) (
cl (f115.ok p1.Weight ((-1000) : Int) (1000 : Int)) fun _ =>
brr ((decide (p1.Weight ≥ ((-1000) : Int))) && (decide (p1.Weight ≤ (1000 : Int)))) (
cl (f115.ok p1.Cap (0 : Int) (1000 : Int)) fun _ =>
.ret (((decide (p1.Cap ≥ (0 : Int))) && (decide (p1.Cap ≤ (1000 : Int)))))) (
.ret (false))) (
.ret (false))) (
.ret (false))) (
.ret (false))

theorem f66.ok (p1 : Edge) {x} (h : (f66 p1).run = some x) : Spec Tryz.prog 66 [V p1] [] (V x) [] :=
  Prg.ok Tryz.func66 (res := fun x => V x) (outs := fun x => []) (by kernel_rfl) (by kernel_rfl) rfl h

def f45v1.l1 (p1 : Graph) (p2 : Int) (v4 : Int) : Pg (Nx Int (Ex (Int) Unit Empty)) :=
brr (decide (v4 < (L p1.Vertices : Int))) (
getR p1.Vertices v4 fun a5 =>
brr (a5.ID == p2) (
doneA (v4)) (
cont (IntKind.i64.wrap (v4 + 1)))) (
doneB ())

def f45v1 (p1 : Graph) (p2 : Int) : Pg Int :=
loop2 (0 : Int) (fun s6 => f45v1.l1 p1 p2 s6) (fun s6 => ([(1, V p2), (2, R 101), (5, V s6)], [(101, B p1)])) .inl (fun r7 =>
.ret r7) (.cut (.ext 0) fun _ => ([], [])) fun _ =>
.ret (((-1) : Int))

theorem f45v1.ok (p1 : Graph) (p2 : Int) {x} (h : (f45v1 p1 p2).run = some x) : Spec Tryz.prog 45 [V p1, V p2] [] (V x) [] :=
  Prg.ok Tryz.func45 (res := fun x => V x) (outs := fun x => []) (by kernel_rfl) (by kernel_rfl) rfl h

def f33.l3 (p1 : Graph) (v36 : Int) : Pg (Nx Int (Ex (Bool) Unit Empty)) :=
brr (decide (v36 < (L p1.Depots : Int))) (
getR p1.Depots v36 fun a37 =>
cl (f45v1.ok p1 a37) fun y38 =>
brr (decide (y38 < 0)) (
doneA (false)) (
brr (decide (v36 > 0)) (
getR p1.Depots v36 fun a39 =>
getR p1.Depots (IntKind.i64.wrap (v36 - 1)) fun a40 =>
brr (decide (a39 ≤ a40)) (
doneA (false)) (
cont (IntKind.i64.wrap (v36 + 1)))) (
cont (IntKind.i64.wrap (v36 + 1))))) (
doneB ())

def f33.l2 (p1 : Graph) (v21 : Int) : Pg (Nx Int (Ex (Bool) Unit Empty)) :=
brr (decide (v21 < (L p1.Edges : Int))) (
getR p1.Edges v21 fun a22 =>
cl (f66.ok a22) fun y23 =>
brr (!y23) (
doneA (false)) (
brr (decide (v21 > 0)) (
getR p1.Edges (IntKind.i64.wrap (v21 - 1)) fun a24 =>
brr (decide (a22.ID ≤ a24.ID)) (
doneA (false)) (
cl (f45v1.ok p1 a22.From) fun y25 =>
brr (decide (y25 < 0)) (
doneA (false)) (
cl (f45v1.ok p1 a22.To) fun y26 =>
brr (decide (y26 < 0)) (
doneA (false)) (
cont (IntKind.i64.wrap (v21 + 1)))))) (
cl (f45v1.ok p1 a22.From) fun y27 =>
brr (decide (y27 < 0)) (
doneA (false)) (
cl (f45v1.ok p1 a22.To) fun y28 =>
brr (decide (y28 < 0)) (
doneA (false)) (
cont (IntKind.i64.wrap (v21 + 1))))))) (
doneB ())

def f33.l1 (p1 : Graph) (v6 : Int) : Pg (Nx Int (Ex (Bool) Unit Empty)) :=
brr (decide (v6 < (L p1.Vertices : Int))) (
getR p1.Vertices v6 fun a7 =>
cl (f65.ok a7) fun y8 =>
brr (!y8) (
doneA (false)) (
brr (decide (v6 > 0)) (
getR p1.Vertices v6 fun a9 =>
getR p1.Vertices (IntKind.i64.wrap (v6 - 1)) fun a10 =>
brr (decide (a9.ID ≤ a10.ID)) (
doneA (false)) (
cont (IntKind.i64.wrap (v6 + 1)))) (
cont (IntKind.i64.wrap (v6 + 1))))) (
doneB ())

def f33 (p1 : Graph) : Pg Bool :=
loop2 (0 : Int) (fun s11 => f33.l1 p1 s11) (fun s11 => ([(1, R 101), (3, V s11)], [(101, B p1)])) .inl (fun r12 =>
.ret r12) (.cut (.ext 0) fun _ => ([(1, R 101)], [(101, B p1)])) fun _ =>
loop2 (0 : Int) (fun s29 => f33.l2 p1 s29) (fun s29 => ([(1, R 101), (4, V s29)], [(101, B p1)])) .inl (fun r30 =>
.ret r30) (.cut (.ext 2) fun _ => ([(1, R 101)], [(101, B p1)])) fun _ =>
loop2 (0 : Int) (fun s41 => f33.l3 p1 s41) (fun s41 => ([(1, R 101), (6, V s41)], [(101, B p1)])) .inl (fun r42 =>
.ret r42) (.cut (.ext 4) fun _ => ([(1, R 101)], [(101, B p1)])) fun _ =>
.ret ((decide ((L p1.Depots : Int) ≤ 3)))

theorem f33.ok (p1 : Graph) {x} (h : (f33 p1).run = some x) : Spec Tryz.prog 33 [V p1] [] (V x) [] :=
  Prg.ok Tryz.func33 (res := fun x => V x) (outs := fun x => []) (by kernel_rfl) (by kernel_rfl) rfl h

def f23 (p1 : Graph) (p2 : Int) : Pg Bool :=
cl (f45v1.ok p1 p2) fun y3 =>
brr (decide (y3 ≥ 0)) (
getR p1.Vertices y3 fun a4 =>
.ret ((a4.Side == 3))) (
.ret (false))

theorem f23.ok (p1 : Graph) (p2 : Int) {x} (h : (f23 p1 p2).run = some x) : Spec Tryz.prog 23 [V p1, V p2] [] (V x) [] :=
  Prg.ok Tryz.func23 (res := fun x => V x) (outs := fun x => []) (by kernel_rfl) (by kernel_rfl) rfl h

def f25.l1 (p1 : Graph) (p2 : Int) (v11 : Int) (l12 : List Edge) : Pg (Nx (Int × (List Edge)) (Ex (List Edge) Empty Empty)) :=
brr (decide (v11 < (L p1.Edges : Int))) (
getR p1.Edges v11 fun a13 =>
join1 (.reg 6) (
brr a13.Directed (
brr (a13.From == p2) (
brr (a13.To != p2) (
cl (f23.ok p1 a13.To) fun y14 =>
retA' y14) (
retA' false)) (
retA' false)) (
retA' false)) (.cut .nat fun x15 => ([(1, V p2), (2, R 101), (5, H Edge 103), (6, V v11), (7, R 105), (39, V x15)], [(101, B p1), (103, O l12), (105, B a13)])) fun x15 =>
brr x15 (
ap l12 ([a13] : List Edge) fun l16 =>
cont ((IntKind.i64.wrap (v11 + 1)), l16)) (
cont ((IntKind.i64.wrap (v11 + 1)), l12))) (
doneA l12)

def f25 (p1 : Graph) (p2 : Int) : Pg (List Edge) :=
loop1 ((0 : Int), ([] : List Edge)) (fun s17 => f25.l1 p1 p2 s17.1 s17.2) (fun s17 => ([(1, V p2), (2, R 101), (5, H Edge 503), (6, V s17.1)], [(101, B p1), (503, O s17.2)])) (.cut (.ext 0) fun x18 => ([(5, H Edge 101)], [(101, O x18)])) fun x18 =>
.ret (x18)

theorem f25.ok (p1 : Graph) (p2 : Int) {x} (h : (f25 p1 p2).run = some x) : Spec Tryz.prog 25 [V p1, V p2] [] (V x) [] :=
  Prg.ok Tryz.func25 (res := fun x => V x) (outs := fun x => []) (by kernel_rfl) (by kernel_rfl) rfl h

def f42 (p1 p2 : Edge) : Pg Bool :=
join1 (.reg 1) (
brr (decide (p1.ID < 0)) (
retA' true) (
retA' (decide (p2.ID < 0)))) (.cut .nat fun x3 => ([(2, R 101), (3, R 103), (12, V x3)], [(101, B p1), (103, B p2)])) fun x3 =>
brr x3 (
brr (decide (p1.ID ≥ 0)) (
.ret ((decide (p2.ID < 0)))) (
.ret (false))) (
brr (decide (p1.Weight > p2.Weight)) (
.ret (true)) (
brr (p1.Weight == p2.Weight) (
.ret ((decide (p1.ID < p2.ID)))) (
.ret (false))))

theorem f42.ok (p1 p2 : Edge) {x} (h : (f42 p1 p2).run = some x) : Spec Tryz.prog 42 [V p1, V p2] [] (V x) [] :=
  Prg.ok Tryz.func42 (res := fun x => V x) (outs := fun x => []) (by kernel_rfl) (by kernel_rfl) rfl h

def f68.l1 (p3 : List Int) (y4 : List Edge) (v13 : Int) (l14 : Edge) : Pg (Nx (Int × Edge) (Ex Edge Empty Empty)) :=
brr (decide (v13 < (L y4 : Int))) (
join1 (.reg 6) (
getR y4 v13 fun a17 =>
ck a17.To 24 <|
rd p3 a17.To.toNat fun a18 =>
brr (a18 == 0) (
getR y4 v13 fun a19 =>
cl (f42.ok a19 l14) fun y20 =>
retA' y20) (
retA' false)) (.cut .nat fun x21 => ([(5, R 101), (6, R 103), (7, R 105), (8, V y4), (9, V v13), (37, V x21)], [(101, BA 24 p3), (103, B (Edge.mk 0 0 0 false 0 0)), (105, B l14)])) fun x21 =>
brr x21 (
getR y4 v13 fun a22 =>
cont ((IntKind.i64.wrap (v13 + 1)), a22)) (
cont ((IntKind.i64.wrap (v13 + 1)), l14))) (
doneA l14)

def f68 (p1 : Graph) (p2 : Int) (p3 : List Int) : Pg Edge :=
cl (f25.ok p1 p2) fun y4 =>
loop1 ((0 : Int), (Edge.mk (-1) p2 p2 false 0 0)) (fun s23 => f68.l1 p3 y4 s23.1 s23.2) (fun s23 => ([(5, R 101), (6, R 103), (7, R 105), (8, V y4), (9, V s23.1)], [(101, BA 24 p3), (103, B (Edge.mk 0 0 0 false 0 0)), (105, B s23.2)])) (.cut (.ext 0) fun x24 => ([(6, R 101), (7, R 103)], [(101, B (Edge.mk 0 0 0 false 0 0)), (103, B x24)])) fun x24 =>
.ret (x24)

theorem f68.ok (p1 : Graph) (p2 : Int) (p3 : List Int) {x} (h : (f68 p1 p2 p3).run = some x) : Spec Tryz.prog 68 [V p1, V p2, Ar 24 p3] [] (V x) [] :=
  Prg.ok Tryz.func68 (res := fun x => V x) (outs := fun x => []) (by kernel_rfl) (by kernel_rfl) rfl h

def f67.l1 (p1 : Graph) (v38 : Int) (l39 : List Int) (a58 : Vertex) (v66 v67 : Int) (l68 : List Int) : Pg (Nx (Int × Int × (List Int)) (Ex (List Int) Empty Empty)) :=
brr (decide (v67 < 24)) (
cl (f68.ok p1 v66 l39) fun y69 =>
brr (y69.To == a58.ID) (
ck a58.ID 24 <|
st l68 a58.ID.toNat (fun x70 => v38) fun l71 =>
cont (y69.To, (IntKind.i64.wrap (v67 + 1)), l71)) (
cont (y69.To, (IntKind.i64.wrap (v67 + 1)), l68))) (
doneA l68)

def f67.l2 (p1 : Graph) (v38 : Int) (l39 : List Int) (v56 : Int) (l57 : List Int) : Pg (Nx (Int × (List Int)) (Ex (List Int) Empty Empty)) :=
brr (decide (v56 < (L p1.Vertices : Int))) (
getR p1.Vertices v56 fun a58 =>
join1 (.reg 10) (
ck a58.ID 24 <|
rd l39 a58.ID.toNat fun a60 =>
brr (decide (a60 > 0)) (
retA' true) (
cl (f23.ok p1 a58.ID) fun y61 =>
retA' (!y61))) (.cut .nat fun x62 => ([(1, R 101), (2, R 103), (3, R 105), (4, V v38), (5, R 107), (6, V v56), (7, V a58.ID), (37, V x62)], [(101, B p1), (103, BA 24 (List.replicate 24 (0 : Int))), (105, BA 24 l39), (107, BA 24 l57)])) fun x62 =>
brr x62 (
cont ((IntKind.i64.wrap (v56 + 1)), l57)) (
loop1 (a58.ID, (0 : Int), l57) (fun s72 => f67.l1 p1 v38 l39 a58 s72.1 s72.2.1 s72.2.2) (fun s72 => ([(1, R 101), (2, R 103), (3, R 105), (4, V v38), (5, R 107), (6, V v56), (7, V a58.ID), (8, V s72.1), (9, V s72.2.1)], [(101, B p1), (103, BA 24 (List.replicate 24 (0 : Int))), (105, BA 24 l39), (107, BA 24 s72.2.2)])) (.cut (.ext 4) fun x73 => ([(1, R 101), (2, R 103), (3, R 105), (4, V v38), (5, R 107), (6, V v56)], [(101, B p1), (103, BA 24 (List.replicate 24 (0 : Int))), (105, BA 24 l39), (107, BA 24 x73)])) fun x73 =>
cont ((IntKind.i64.wrap (v56 + 1)), x73))) (
doneA l57)

def f67.l3 (p1 : Graph) (v38 : Int) (l39 : List Int) : Pg (Nx (Int × (List Int)) (Ex (List Int) Empty Empty)) :=
brr (decide (v38 ≤ 24)) (
loop1 ((0 : Int), l39) (fun s74 => f67.l2 p1 v38 l39 s74.1 s74.2) (fun s74 => ([(1, R 101), (2, R 103), (3, R 105), (4, V v38), (5, R 107), (6, V s74.1)], [(101, B p1), (103, BA 24 (List.replicate 24 (0 : Int))), (105, BA 24 l39), (107, BA 24 s74.2)])) (.cut (.ext 2) fun x75 => ([(1, R 101), (2, R 103), (3, R 105), (4, V v38), (5, R 107)], [(101, B p1), (103, BA 24 (List.replicate 24 (0 : Int))), (105, BA 24 l39), (107, BA 24 x75)])) fun x75 =>
cont ((IntKind.i64.wrap (v38 + 1)), x75)) (
doneA l39)

def f67 (p1 : Graph) : Pg (List Int) :=
loop1 ((1 : Int), (List.replicate 24 (0 : Int))) (fun s76 => f67.l3 p1 s76.1 s76.2) (fun s76 => ([(1, R 101), (2, R 103), (3, R 105), (4, V s76.1)], [(101, B p1), (103, BA 24 (List.replicate 24 (0 : Int))), (105, BA 24 s76.2)])) (.cut (.ext 0) fun x77 => ([(2, R 101), (3, R 103)], [(101, BA 24 (List.replicate 24 (0 : Int))), (103, BA 24 x77)])) fun x77 =>
.ret (x77)

theorem f67.ok (p1 : Graph) {x} (h : (f67 p1).run = some x) : Spec Tryz.prog 67 [V p1] [] (Ar 24 x) [] :=
  Prg.ok Tryz.func67 (res := fun x => Ar 24 x) (outs := fun x => []) (by kernel_rfl) (by kernel_rfl) rfl h

def f34.l1 (y2 : List Int) (a23 : Vertex) (v29 : Int) (l30 : List Int) : Pg (Nx (Int × (List Int)) (Ex (List Int) Empty Empty)) :=
brr (decide (v29 < 24)) (
ck v29 24 <|
rd y2 v29.toNat fun a31 =>
brr (decide (a31 > 0)) (
ck v29 24 <|
rd y2 v29.toNat fun a32 =>
ck a23.ID 24 <|
rd y2 a23.ID.toNat fun a33 =>
brr (decide (a32 < a33)) (
ck v29 24 <|
st l30 v29.toNat (fun x34 => 1) fun l35 =>
cont ((IntKind.i64.wrap (v29 + 1)), l35)) (
cont ((IntKind.i64.wrap (v29 + 1)), l30))) (
cont ((IntKind.i64.wrap (v29 + 1)), l30))) (
doneA l30)

def f34.l2 (p1 : Graph) (y2 : List Int) (v21 : Int) (l22 : List Edge) : Pg (Nx (Int × (List Edge)) (Ex (List Edge) Empty Empty)) :=
brr (decide (v21 < (L p1.Vertices : Int))) (
getR p1.Vertices v21 fun a23 =>
loop1 ((0 : Int), (List.replicate 24 (0 : Int))) (fun s36 => f34.l1 y2 a23 s36.1 s36.2) (fun s36 => ([(1, R 101), (2, R 103), (3, R 105), (4, R 107), (5, R 109), (6, V v21), (7, V a23.ID), (8, R 111), (9, V s36.1)], [(101, B p1), (103, BA 24 (List.replicate 24 (0 : Int))), (105, BA 24 (List.replicate 24 (Edge.mk 0 0 0 false 0 0))), (107, BA 24 y2), (109, BA 24 l22), (111, BA 24 s36.2)])) (.cut (.ext 2) fun x37 => ([(1, R 101), (2, R 103), (3, R 105), (4, R 107), (5, R 109), (6, V v21), (7, V a23.ID), (8, R 111)], [(101, B p1), (103, BA 24 (List.replicate 24 (0 : Int))), (105, BA 24 (List.replicate 24 (Edge.mk 0 0 0 false 0 0))), (107, BA 24 y2), (109, BA 24 l22), (111, BA 24 x37)])) fun x37 =>
cl (f68.ok p1 a23.ID x37) fun y38 =>
ck a23.ID 24 <|
st l22 a23.ID.toNat (fun x39 => y38) fun l40 =>
cont ((IntKind.i64.wrap (v21 + 1)), l40)) (
doneA l22)

def f34 (p1 : Graph) : Pg ((List Int) × (List Edge)) :=
cl (f67.ok p1) fun y2 =>
loop1 ((0 : Int), (List.replicate 24 (Edge.mk 0 0 0 false 0 0))) (fun s41 => f34.l2 p1 y2 s41.1 s41.2) (fun s41 => ([(1, R 101), (2, R 103), (3, R 105), (4, R 107), (5, R 109), (6, V s41.1)], [(101, B p1), (103, BA 24 (List.replicate 24 (0 : Int))), (105, BA 24 (List.replicate 24 (Edge.mk 0 0 0 false 0 0))), (107, BA 24 y2), (109, BA 24 s41.2)])) (.cut (.ext 0) fun x42 => ([(2, R 101), (3, R 103), (4, R 105), (5, R 107)], [(101, BA 24 (List.replicate 24 (0 : Int))), (103, BA 24 (List.replicate 24 (Edge.mk 0 0 0 false 0 0))), (105, BA 24 y2), (107, BA 24 x42)])) fun x42 =>
.ret ((y2, x42))

theorem f34.ok (p1 : Graph) {x} (h : (f34 p1).run = some x) : Spec Tryz.prog 34 [V p1] [] (.tup [Ar 24 x.1, Ar 24 x.2]) [] :=
  Prg.ok Tryz.func34 (res := fun x => .tup [Ar 24 x.1, Ar 24 x.2]) (outs := fun x => []) (by kernel_rfl) (by kernel_rfl) rfl h

def f35.l1 (p2 : Int) (p3 : List Int) (p4 y5 : List Edge) (v12 : Int) : Pg (Nx Int (Ex (Bool) Unit Empty)) :=
brr (decide (v12 < (L y5 : Int))) (
getR y5 v12 fun a13 =>
ck p2 24 <|
rd p4 p2.toNat fun a14 =>
cl (f42.ok a13 a14) fun y15 =>
brr y15 (
getR y5 v12 fun a16 =>
ck a16.To 24 <|
rd p3 a16.To.toNat fun a17 =>
ck p2 24 <|
rd p3 p2.toNat fun a18 =>
brr (a17 == (IntKind.i64.wrap (a18 - 1))) (
doneA (true)) (
cont (IntKind.i64.wrap (v12 + 1)))) (
cont (IntKind.i64.wrap (v12 + 1)))) (
doneB ())

def f35 (p1 : Graph) (p2 : Int) (p3 : List Int) (p4 : List Edge) : Pg Bool :=
cl (f25.ok p1 p2) fun y5 =>
loop2 (0 : Int) (fun s19 => f35.l1 p2 p3 p4 y5 s19) (fun s19 => ([(1, V p2), (6, R 101), (7, R 103), (9, V y5), (10, V s19)], [(101, BA 24 p3), (103, BA 24 p4)])) .inl (fun r20 =>
.ret r20) (.cut (.ext 0) fun _ => ([], [])) fun _ =>
.ret (false)

theorem f35.ok (p1 : Graph) (p2 : Int) (p3 : List Int) (p4 : List Edge) {x} (h : (f35 p1 p2 p3 p4).run = some x) : Spec Tryz.prog 35 [V p1, V p2, Ar 24 p3, Ar 24 p4] [] (V x) [] :=
  Prg.ok Tryz.func35 (res := fun x => V x) (outs := fun x => []) (by kernel_rfl) (by kernel_rfl) rfl h

def f8.l1 (p1 : Graph) (y3 : (List Int) × (List Edge)) (v44 : Int) (l45 : List Named) (a46 : Vertex) (v54 v55 : Int) : Pg (Nx (Int × Int) (Ex Int Empty Empty)) :=
join1 (.reg 13) (
ck a46.ID 24 <|
rd y3.1 a46.ID.toNat fun a57 =>
brr (decide (a57 > 1)) (
cl (f35.ok p1 v55 y3.1 y3.2) fun y58 =>
retA' ((!y58) && (decide (v54 < 24)))) (
retA' false)) (.cut .nat fun x59 => ([(1, R 101), (4, R 103), (5, R 105), (6, H Named 107), (7, V v44), (8, V a46.ID), (9, V v54), (10, V v55), (58, V x59)], [(101, B p1), (103, BA 24 y3.1), (105, BA 24 y3.2), (107, O l45)])) fun x59 =>
brr x59 (
ck v55 24 <|
rd y3.2 v55.toNat fun a60 =>
cont ((IntKind.i64.wrap (v54 + 1)), a60.To)) (
doneA v54)

def f8.l2 (p1 : Graph) (y3 : (List Int) × (List Edge)) (v44 : Int) (l45 : List Named) : Pg (Nx (Int × (List Named)) (Ex (List Named) Empty Empty)) :=
brr (decide (v44 < (L p1.Vertices : Int))) (
getR p1.Vertices v44 fun a46 =>
ck a46.ID 24 <|
rd y3.1 a46.ID.toNat fun a47 =>
brr (a47 == 0) (
ap l45 ([(Named.mk a46.ID ([0, (-1), 0] : List Int))] : List Named) fun l48 =>
cont ((IntKind.i64.wrap (v44 + 1)), l48)) (
loop1 ((0 : Int), a46.ID) (fun s61 => f8.l1 p1 y3 v44 l45 a46 s61.1 s61.2) (fun s61 => ([(1, R 101), (4, R 103), (5, R 105), (6, H Named 107), (7, V v44), (8, V a46.ID), (9, V s61.1), (10, V s61.2)], [(101, B p1), (103, BA 24 y3.1), (105, BA 24 y3.2), (107, O l45)])) (.cut (.ext 2) fun x62 => ([(1, R 101), (4, R 103), (5, R 105), (6, H Named 107), (7, V v44), (8, V a46.ID), (9, V x62)], [(101, B p1), (103, BA 24 y3.1), (105, BA 24 y3.2), (107, O l45)])) fun x62 =>
ck a46.ID 24 <|
rd y3.1 a46.ID.toNat fun a63 =>
ck a46.ID 24 <|
rd y3.2 a46.ID.toNat fun a64 =>
ap l45 ([(Named.mk a46.ID ([a63, a64.ID, x62] : List Int))] : List Named) fun l65 =>
cont ((IntKind.i64.wrap (v44 + 1)), l65))) (
doneA l45)

def f8 (p1 : Graph) : Pg ((List Named) × Int) :=
cl (f33.ok p1) fun y2 =>
brr (!y2) (
.ret ((([] : List Named), (140 : Int)))) (
cl (f34.ok p1) fun y3 =>
loop1 ((0 : Int), ([] : List Named)) (fun s66 => f8.l2 p1 y3 s66.1 s66.2) (fun s66 => ([(1, R 101), (4, R 103), (5, R 105), (6, H Named 507), (7, V s66.1)], [(101, B p1), (103, BA 24 y3.1), (105, BA 24 y3.2), (507, O s66.2)])) (.cut (.ext 0) fun x67 => ([(6, H Named 101)], [(101, O x67)])) fun x67 =>
.ret ((x67, (0 : Int))))

theorem f8.ok (p1 : Graph) {x} (h : (f8 p1).run = some x) : Spec Tryz.prog 8 [V p1] [] (.tup [V x.1, V x.2]) [] :=
  Prg.ok Tryz.func8 (res := fun x => .tup [V x.1, V x.2]) (outs := fun x => []) (by kernel_rfl) (by kernel_rfl) rfl h

def f10.l1 (p1 : View) (l2 : List Edge) (v13 : Int) (l14 : List Named) : Pg (Nx (Int × (List Named)) (Ex (List Named) Empty Empty)) :=
brr ((decide (v13 < (L ((View.mk p1.Vertex p1.Depots l2 p1.Labels).Labels) : Int))) && (decide (v13 < 6))) (
getR ((View.mk p1.Vertex p1.Depots l2 p1.Labels).Labels) v13 fun a15 =>
getR ((View.mk p1.Vertex p1.Depots l2 p1.Labels).Labels) v13 fun a16 =>
getR ((View.mk p1.Vertex p1.Depots l2 p1.Labels).Labels) v13 fun a17 =>
cutHi a16.Label (if 5 < (L a17.Label : Int) then 5 else (L a17.Label : Int)) fun l18 =>
ap l14 ([(Named.mk a15.ID l18)] : List Named) fun l19 =>
cont ((IntKind.i64.wrap (v13 + 1)), l19)) (
doneA l14)

def f10 (p1 : View) : Pg View :=
cutHi p1.Edges (if 6 < (L p1.Edges : Int) then 6 else (L p1.Edges : Int)) fun l2 =>
loop1 ((0 : Int), ([] : List Named)) (fun s20 => f10.l1 p1 l2 s20.1 s20.2) (fun s20 => ([(1, R 101), (2, R 103), (3, H Named 505), (4, V s20.1)], [(101, B (View.mk ((View.mk p1.Vertex p1.Depots l2 p1.Labels).Vertex) ((View.mk p1.Vertex p1.Depots l2 p1.Labels).Depots) ((View.mk p1.Vertex p1.Depots l2 p1.Labels).Edges) ((View.mk p1.Vertex p1.Depots l2 p1.Labels).Labels))), (103, .varp [.int .i64 0, .int .i64 0, .nilsl, .nilsl, .nilsl]), (505, O s20.2)])) (.cut (.ext 0) fun x21 => ([(1, R 101), (2, R 103), (3, H Named 105)], [(101, B (View.mk ((View.mk ((View.mk p1.Vertex p1.Depots l2 p1.Labels).Vertex) ((View.mk p1.Vertex p1.Depots l2 p1.Labels).Depots) ((View.mk p1.Vertex p1.Depots l2 p1.Labels).Edges) ((View.mk p1.Vertex p1.Depots l2 p1.Labels).Labels)).Vertex) ((View.mk ((View.mk p1.Vertex p1.Depots l2 p1.Labels).Vertex) ((View.mk p1.Vertex p1.Depots l2 p1.Labels).Depots) ((View.mk p1.Vertex p1.Depots l2 p1.Labels).Edges) ((View.mk p1.Vertex p1.Depots l2 p1.Labels).Labels)).Depots) ((View.mk ((View.mk p1.Vertex p1.Depots l2 p1.Labels).Vertex) ((View.mk p1.Vertex p1.Depots l2 p1.Labels).Depots) ((View.mk p1.Vertex p1.Depots l2 p1.Labels).Edges) ((View.mk p1.Vertex p1.Depots l2 p1.Labels).Labels)).Edges) ((View.mk ((View.mk p1.Vertex p1.Depots l2 p1.Labels).Vertex) ((View.mk p1.Vertex p1.Depots l2 p1.Labels).Depots) ((View.mk p1.Vertex p1.Depots l2 p1.Labels).Edges) ((View.mk p1.Vertex p1.Depots l2 p1.Labels).Labels)).Labels))), (103, .varp [.int .i64 0, .int .i64 0, .nilsl, .nilsl, .nilsl]), (105, O x21)])) fun x21 =>
.ret ((View.mk ((View.mk ((View.mk p1.Vertex p1.Depots l2 p1.Labels).Vertex) ((View.mk p1.Vertex p1.Depots l2 p1.Labels).Depots) ((View.mk p1.Vertex p1.Depots l2 p1.Labels).Edges) ((View.mk p1.Vertex p1.Depots l2 p1.Labels).Labels)).Vertex) ((View.mk ((View.mk p1.Vertex p1.Depots l2 p1.Labels).Vertex) ((View.mk p1.Vertex p1.Depots l2 p1.Labels).Depots) ((View.mk p1.Vertex p1.Depots l2 p1.Labels).Edges) ((View.mk p1.Vertex p1.Depots l2 p1.Labels).Labels)).Depots) ((View.mk ((View.mk p1.Vertex p1.Depots l2 p1.Labels).Vertex) ((View.mk p1.Vertex p1.Depots l2 p1.Labels).Depots) ((View.mk p1.Vertex p1.Depots l2 p1.Labels).Edges) ((View.mk p1.Vertex p1.Depots l2 p1.Labels).Labels)).Edges) x21))

theorem f10.ok (p1 : View) {x} (h : (f10 p1).run = some x) : Spec Tryz.prog 10 [V p1] [] (V x) [] :=
  Prg.ok Tryz.func10 (res := fun x => V x) (outs := fun x => []) (by kernel_rfl) (by kernel_rfl) rfl h

def f39.l1 (p1 : View) (p2 : Int) (v13 : Int) : Pg (Nx Int (Ex (A3_Int × Bool) Unit Empty)) :=
brr (decide (v13 < (L p1.Labels : Int))) (
join1 (.reg 4) (
getR p1.Labels v13 fun a15 =>
brr (a15.ID == p2) (
getR p1.Labels v13 fun a16 =>
retA' ((L a16.Label : Int) == 3)) (
retA' false)) (.cut .nat fun x17 => ([(1, V p2), (2, R 101), (4, R 103), (6, V v13), (31, V x17)], [(101, B p1), (103, B (A3_Int.mk 0 0 0))])) fun x17 =>
brr x17 (
getR p1.Labels v13 fun a18 =>
getR a18.Label (0 : Int) fun a19 =>
getR p1.Labels v13 fun a20 =>
getR a20.Label (1 : Int) fun a21 =>
getR p1.Labels v13 fun a22 =>
getR a22.Label (2 : Int) fun a23 =>
doneA (((A3_Int.mk a19 a21 a23), true))) (
cont (IntKind.i64.wrap (v13 + 1)))) (
doneB ())

def f39 (p1 : View) (p2 : Int) : Pg (A3_Int × Bool) :=
loop2 (0 : Int) (fun s24 => f39.l1 p1 p2 s24) (fun s24 => ([(1, V p2), (2, R 101), (4, R 103), (6, V s24)], [(101, B p1), (103, B (A3_Int.mk 0 0 0))])) .inl (fun r25 =>
.ret r25) (.cut (.ext 0) fun _ => ([(4, R 101)], [(101, B (A3_Int.mk 0 0 0))])) fun _ =>
.ret (((A3_Int.mk 0 0 0), false))

theorem f39.ok (p1 : View) (p2 : Int) {x} (h : (f39 p1 p2).run = some x) : Spec Tryz.prog 39 [V p1, V p2] [] (.tup [V x.1, V x.2]) [] :=
  Prg.ok Tryz.func39 (res := fun x => .tup [V x.1, V x.2]) (outs := fun x => []) (by kernel_rfl) (by kernel_rfl) rfl h

def f40.l1 (p1 : View) (v10 : Int) (a11 : Edge) (v14 : Int) : Pg (Nx Int (Ex (Bool) Unit Empty)) :=
brr (decide (v14 < v10)) (
getR p1.Edges v14 fun a15 =>
brr (a15.ID == a11.ID) (
doneA (false)) (
cont (IntKind.i64.wrap (v14 + 1)))) (
doneB ())

def f40.l2 (p1 : View) (v10 : Int) : Pg (Nx Int (Ex (Bool) Unit Empty)) :=
brr (decide (v10 < (L p1.Edges : Int))) (
getR p1.Edges v10 fun a11 =>
join1 (.reg 5) (
brr (decide (a11.ID < 0)) (
retA' true) (
brr (decide (a11.ID > 39)) (
retA' true) (
brr (decide (a11.From < 0)) (
retA' true) (
brr (decide (a11.From > 23)) (
retA' true) (
brr (decide (a11.To < 0)) (
retA' true) (
brr (decide (a11.To > 23)) (
retA' true) (
brr (a11.From != p1.Vertex.ID) (
brr (a11.To != p1.Vertex.ID) (
retA' true) (
brr (decide (a11.Weight < (-1000))) (
retA' true) (
retA' (decide (a11.Weight > 1000))))) (
brr (decide (a11.Weight < (-1000))) (
retA' true) (
retA' (decide (a11.Weight > 1000))))))))))) (.cut .nat fun x12 => ([(1, R 101), (3, V v10), (4, R 103), (71, V x12)], [(101, B p1), (103, B a11)])) fun x12 =>
brr x12 (
doneA (false)) (
loop2 (0 : Int) (fun s16 => f40.l1 p1 v10 a11 s16) (fun s16 => ([(1, R 101), (3, V v10), (4, R 103), (5, V s16)], [(101, B p1), (103, B a11)])) .inl (fun r17 =>
doneA r17) (.cut (.ext 2) fun _ => ([(1, R 101), (3, V v10)], [(101, B p1)])) fun _ =>
cont (IntKind.i64.wrap (v10 + 1)))) (
doneB ())

def f40 (p1 : View) : Pg Bool :=
loop2 (0 : Int) (fun s19 => f40.l2 p1 s19) (fun s19 => ([(1, R 101), (3, V s19)], [(101, B p1)])) .inl (fun r20 =>
.ret r20) (.cut (.ext 0) fun _ => ([], [])) fun _ =>
.ret (true)

theorem f40.ok (p1 : View) {x} (h : (f40 p1).run = some x) : Spec Tryz.prog 40 [V p1] [] (V x) [] :=
  Prg.ok Tryz.func40 (res := fun x => V x) (outs := fun x => []) (by kernel_rfl) (by kernel_rfl) rfl h

def f41.l1 (p1 : List Int) (v4 : Int) : Pg (Nx Int (Ex (Bool) Unit Empty)) :=
brr (decide (v4 < (L p1 : Int))) (
getR p1 v4 fun a5 =>
brr (decide (a5 < (-24000))) (
doneA (false)) (
getR p1 v4 fun a6 =>
brr (decide (a6 > 24000)) (
doneA (false)) (
cont (IntKind.i64.wrap (v4 + 1))))) (
doneB ())

def f41 (p1 : List Int) : Pg Bool :=
loop2 (0 : Int) (fun s7 => f41.l1 p1 s7) (fun s7 => ([(0, V p1), (3, V s7)], [])) .inl (fun r8 =>
.ret r8) (.cut (.ext 0) fun _ => ([], [])) fun _ =>
.ret (true)

theorem f41.ok (p1 : List Int) {x} (h : (f41 p1).run = some x) : Spec Tryz.prog 41 [V p1] [] (V x) [] :=
  Prg.ok Tryz.func41 (res := fun x => V x) (outs := fun x => []) (by kernel_rfl) (by kernel_rfl) rfl h

def f11.l3 (p1 : View) (y2 : A3_Int × Bool) (x43 : Int × Int × Edge) (v49 : Bool) (v50 : Int) : Pg (Nx (Bool × Int) (Ex (Bool) Bool Empty)) :=
brr (decide (v50 < (L p1.Edges : Int))) (
getR p1.Edges v50 fun a51 =>
cl (f39.ok p1 a51.To) fun y52 =>
join1 (.reg 41) (
brr (!y52.2) (
retA' true) (
brr (!a51.Directed) (
retA' true) (
brr (a51.From != p1.Vertex.ID) (
retA' true) (
brr (a51.To == p1.Vertex.ID) (
retA' true) (
brr (decide (y52.1.x0 < 1)) (
retA' true) (
cl (f42.ok a51 x43.2.2) fun y53 =>
retA' (!y53))))))) (.cut .nat fun x54 => ([(1, R 101), (3, V p1.Vertex.ID), (4, R 103), (11, R 105), (12, V x43.1), (20, V v49), (21, V v50), (23, R 107), (277, V x54)], [(101, B p1), (103, .varf [.int .i64 y2.1.x0, .int .i64 y2.1.x1, .int .i64 y2.1.x2]), (105, B x43.2.2), (107, B y52.1)])) fun x54 =>
brr x54 (
cont (v49, (IntKind.i64.wrap (v50 + 1)))) (
brr (decide (y52.1.x0 ≥ y2.1.x0)) (
doneA (false)) (
brr v49 (
cont (true, (IntKind.i64.wrap (v50 + 1)))) (
cont ((y52.1.x0 == (IntKind.i64.wrap (y2.1.x0 - 1))), (IntKind.i64.wrap (v50 + 1))))))) (
doneB v49)

def f11.l2 (p1 : View) (y2 : A3_Int × Bool) (v30 v31 v32 : Int) (l33 : Edge) : Pg (Nx (Int × Int × Int × Edge) (Ex (Bool) (Int × Int × Edge) Empty)) :=
brr (decide (v32 < (L p1.Edges : Int))) (
getR p1.Edges v32 fun a34 =>
cl (f39.ok p1 a34.From) fun y35 =>
cl (f39.ok p1 a34.To) fun y36 =>
join1 (.reg 25) (
brr ((!y35.2) || (!y36.2)) (
retA' true) (
brr (!a34.Directed) (
retA' true) (
brr (a34.From == a34.To) (
retA' true) (
brr (decide (y35.1.x0 < 1)) (
retA' true) (
retA' (decide (y36.1.x0 < 1))))))) (.cut .nat fun x37 => ([(1, R 101), (3, V p1.Vertex.ID), (4, R 103), (11, R 105), (12, V v30), (13, V v31), (14, V v32), (15, R 107), (16, R 109), (18, R 111), (173, V x37)], [(101, B p1), (103, .varf [.int .i64 y2.1.x0, .int .i64 y2.1.x1, .int .i64 y2.1.x2]), (105, B l33), (107, B a34), (109, B y35.1), (111, B y36.1)])) fun x37 =>
brr x37 (
cont (v30, v31, (IntKind.i64.wrap (v32 + 1)), l33)) (
join1 (.reg 26) (
brr (a34.From == p1.Vertex.ID) (
retA' (a34.ID == y2.1.x1)) (
retA' false)) (.cut .nat fun x38 => ([(1, R 101), (3, V p1.Vertex.ID), (4, R 103), (11, R 105), (12, V v30), (13, V v31), (14, V v32), (15, R 107), (16, R 109), (18, R 111), (184, V x38)], [(101, B p1), (103, .varf [.int .i64 y2.1.x0, .int .i64 y2.1.x1, .int .i64 y2.1.x2]), (105, B l33), (107, B a34), (109, B y35.1), (111, B y36.1)])) fun x38 =>
join2 (.cond 184) (
brr x38 (
brr (y36.1.x0 != y2.1.x0) (
retA' (false)) (
retB' (y36.1.x2, a34))) (
retB' (v30, l33))) .inl (fun r39 =>
doneA r39) (.cut .nat fun x40 => ([(1, R 101), (3, V p1.Vertex.ID), (4, R 103), (11, R 105), (12, V x40.1), (13, V v31), (14, V v32), (15, R 107), (16, R 109)], [(101, B p1), (103, .varf [.int .i64 y2.1.x0, .int .i64 y2.1.x1, .int .i64 y2.1.x2]), (105, B x40.2), (107, B a34), (109, B y35.1)])) fun x40 =>
brr (a34.To == p1.Vertex.ID) (
brr (y35.1.x1 == a34.ID) (
cont (x40.1, (IntKind.i64.wrap (v31 + 1)), (IntKind.i64.wrap (v32 + 1)), x40.2)) (
cont (x40.1, v31, (IntKind.i64.wrap (v32 + 1)), x40.2))) (
cont (x40.1, v31, (IntKind.i64.wrap (v32 + 1)), x40.2)))) (
doneB (v30, v31, l33))

def f11.l1 (p1 : View) (v12 : Bool) (v13 : Int) : Pg (Nx (Bool × Int) (Ex Bool Empty Empty)) :=
brr (decide (v13 < (L p1.Edges : Int))) (
getR p1.Edges v13 fun a14 =>
cl (f39.ok p1 a14.From) fun y15 =>
getR p1.Edges v13 fun a16 =>
cl (f39.ok p1 a16.To) fun y17 =>
brr ((v12 && y15.2) && y17.2) (
cl (f41.ok ([y15.1.x0, y15.1.x1, y15.1.x2] : List Int)) fun y18 =>
brr y18 (
cl (f41.ok ([y17.1.x0, y17.1.x1, y17.1.x2] : List Int)) fun y19 =>
cont (y19, (IntKind.i64.wrap (v13 + 1)))) (
cont (false, (IntKind.i64.wrap (v13 + 1))))) (
cont (false, (IntKind.i64.wrap (v13 + 1))))) (
doneA v12)

def f11 (p1 : View) : Pg Bool :=
cl (f39.ok p1 p1.Vertex.ID) fun y2 =>
join1 (.reg 3) (
brr y2.2 (
cl (f40.ok p1) fun y3 =>
brr y3 (
cl (f41.ok ([y2.1.x0, y2.1.x1, y2.1.x2] : List Int)) fun y4 =>
retA' y4) (
retA' false)) (
retA' false)) (.cut .nat fun x5 => ([(1, R 101), (3, V p1.Vertex.ID), (4, R 103), (5, V x5)], [(101, B p1), (103, .varf [.int .i64 y2.1.x0, .int .i64 y2.1.x1, .int .i64 y2.1.x2])])) fun x5 =>
loop1 (x5, (0 : Int)) (fun s20 => f11.l1 p1 s20.1 s20.2) (fun s20 => ([(1, R 101), (3, V p1.Vertex.ID), (4, R 103), (5, V s20.1), (6, V s20.2)], [(101, B p1), (103, .varf [.int .i64 y2.1.x0, .int .i64 y2.1.x1, .int .i64 y2.1.x2])])) (.cut (.ext 0) fun x21 => ([(1, R 101), (3, V p1.Vertex.ID), (4, R 103), (5, V x21)], [(101, B p1), (103, .varf [.int .i64 y2.1.x0, .int .i64 y2.1.x1, .int .i64 y2.1.x2])])) fun x21 =>
brr (!x21) (
.ret (false)) (
brr (p1.Vertex.Side != 3) (
.ret (((y2.1.x0 == 0) && ((y2.1.x1 == (-1)) && ((y2.1.x2 == 0) && true))))) (
join1 (.reg 14) (
brr (decide (y2.1.x0 < 1)) (
retA' true) (
brr (decide (y2.1.x0 > 24)) (
retA' true) (
brr (decide (y2.1.x2 < 0)) (
retA' true) (
brr (decide (y2.1.x2 > 23)) (
retA' true) (
retA' (decide (y2.1.x1 < (-1)))))))) (.cut .nat fun x22 => ([(1, R 101), (3, V p1.Vertex.ID), (4, R 103), (118, V x22)], [(101, B p1), (103, .varf [.int .i64 y2.1.x0, .int .i64 y2.1.x1, .int .i64 y2.1.x2])])) fun x22 =>
brr x22 (
.ret (false)) (
loop2 ((0 : Int), (0 : Int), (0 : Int), (Edge.mk (-1) 0 0 false 0 0)) (fun s41 => f11.l2 p1 y2 s41.1 s41.2.1 s41.2.2.1 s41.2.2.2) (fun s41 => ([(1, R 101), (3, V p1.Vertex.ID), (4, R 103), (11, R 105), (12, V s41.1), (13, V s41.2.1), (14, V s41.2.2.1)], [(101, B p1), (103, .varf [.int .i64 y2.1.x0, .int .i64 y2.1.x1, .int .i64 y2.1.x2]), (105, B s41.2.2.2)])) .inl (fun r42 =>
.ret r42) (.cut (.ext 2) fun x43 => ([(1, R 101), (3, V p1.Vertex.ID), (4, R 103), (11, R 105), (12, V x43.1), (13, V x43.2.1)], [(101, B p1), (103, .varf [.int .i64 y2.1.x0, .int .i64 y2.1.x1, .int .i64 y2.1.x2]), (105, B x43.2.2)])) fun x43 =>
join1 (.reg 33) (
brr (x43.2.2.ID != y2.1.x1) (
retA' true) (
brr ((decide (y2.1.x1 < 0)) && (x43.2.1 != 0)) (
retA' true) (
retA' ((decide (y2.1.x1 ≥ 0)) && (x43.2.1 != 1))))) (.cut .nat fun x44 => ([(1, R 101), (3, V p1.Vertex.ID), (4, R 103), (11, R 105), (12, V x43.1), (228, V x44)], [(101, B p1), (103, .varf [.int .i64 y2.1.x0, .int .i64 y2.1.x1, .int .i64 y2.1.x2]), (105, B x43.2.2)])) fun x44 =>
brr x44 (
.ret (false)) (
loop2 (false, (0 : Int)) (fun s55 => f11.l3 p1 y2 x43 s55.1 s55.2) (fun s55 => ([(1, R 101), (3, V p1.Vertex.ID), (4, R 103), (11, R 105), (12, V x43.1), (20, V s55.1), (21, V s55.2)], [(101, B p1), (103, .varf [.int .i64 y2.1.x0, .int .i64 y2.1.x1, .int .i64 y2.1.x2]), (105, B x43.2.2)])) .inl (fun r56 =>
.ret r56) (.cut (.ext 4) fun x57 => ([(4, R 101), (12, V x43.1), (20, V x57)], [(101, .varf [.int .i64 y2.1.x0, .int .i64 y2.1.x1, .int .i64 y2.1.x2])])) fun x57 =>
brr ((y2.1.x0 == 1) || x57) (
.ret ((y2.1.x2 == 0))) (
brr (decide (y2.1.x1 ≥ 0)) (
.ret ((y2.1.x2 == (IntKind.i64.wrap (x43.1 + 1))))) (
.ret (false)))))))

theorem f11.ok (p1 : View) {x} (h : (f11 p1).run = some x) : Spec Tryz.prog 11 [V p1] [] (V x) [] :=
  Prg.ok Tryz.func11 (res := fun x => V x) (outs := fun x => []) (by kernel_rfl) (by kernel_rfl) rfl h

def f13.l1 (p1 : View) (v6 : Int) : Pg (Nx Int (Ex (Int) Unit Empty)) :=
brr (decide (v6 < (L p1.Labels : Int))) (
getR p1.Labels v6 fun a7 =>
brr (a7.ID == p1.Vertex.ID) (
getR p1.Labels v6 fun a8 =>
brr ((L a8.Label : Int) == 3) (
getR p1.Labels v6 fun a9 =>
getR a9.Label (1 : Int) fun a10 =>
brr (decide (a10 ≥ 0)) (
doneA ((1 : Int))) (
doneA ((0 : Int)))) (
doneA ((0 : Int)))) (
cont (IntKind.i64.wrap (v6 + 1)))) (
doneB ())

def f13 (p1 : View) : Pg Int :=
loop2 (0 : Int) (fun s11 => f13.l1 p1 s11) (fun s11 => ([(1, R 101), (3, V s11)], [(101, B p1)])) .inl (fun r12 =>
.ret r12) (.cut (.ext 0) fun _ => ([], [])) fun _ =>
.ret ((0 : Int))

theorem f13.ok (p1 : View) {x} (h : (f13 p1).run = some x) : Spec Tryz.prog 13 [V p1] [] (V x) [] :=
  Prg.ok Tryz.func13 (res := fun x => V x) (outs := fun x => []) (by kernel_rfl) (by kernel_rfl) rfl h

def f43 (p1 p2 : Int) : Pg Int :=
brr (decide (p1 < 0)) (
nzD p2 <|
.ret (((IntKind.i64.wrap (0 - (IntKind.i64.wrap (p1 + 1)))).tmod p2))) (
nzD p2 <|
.ret ((p1.tmod p2)))

theorem f43.ok (p1 p2 : Int) {x} (h : (f43 p1 p2).run = some x) : Spec Tryz.prog 43 [V p1, V p2] [] (V x) [] :=
  Prg.ok Tryz.func43 (res := fun x => V x) (outs := fun x => []) (by kernel_rfl) (by kernel_rfl) rfl h

def f14.l1 [Fm] (p1 : List Named) (p2 p3 p4 : Int) (i : Int) (M : List (List Int)) (o : List NamedR) : Pg (Nx (Int × List (List Int) × List NamedR) (Ex (List (List Int) × List NamedR) Empty Empty)) :=
brr (decide (i < (L p1 : Int))) (
getR p1 i fun a1 =>
getR p1 i fun a2 =>
apM M ([] : List Int) a2.Label fun l3 =>
ap o ([NamedR.mk a1.ID ⟨LM M, 0, L l3⟩] : List NamedR) fun l4 =>
cont ((IntKind.i64.wrap (i + 1)), M ++ [l3], l4)) (
doneA (M, o))

def f14.fm [Fm] (p1 : List Named) (p2 p3 p4 : Int) : Pg (List Named) :=
loop1 ((0 : Int), ([] : List (List Int)), ([] : List NamedR)) (fun s => f14.l1 p1 p2 p3 p4 s.1 s.2.1 s.2.2) (fun s => ([(0, V p1), (1, V p2), (2, V p3), (3, V p4), (9, H NamedR 101), (10, V s.1)], [(3, FM s.2.1), (101, O s.2.2)])) (.cut (.ext 0) fun x => ([(0, V p1), (1, V p2), (2, V p3), (3, V p4), (9, H NamedR 101)], [(3, FM x.1), (101, O x.2)])) fun x =>
brr ((L x.2 : Int) == 0) (
tellN 101 x.1 x.2 fun y => .ret y) (
cl (f43.ok p2 (L x.2 : Int)) fun y4 =>
ck y4 (L x.2) <|
rd x.2 (at0 y4) fun a5 =>
brr ((a5.Label.len : Int) == 0) (
tellN 101 x.1 x.2 fun y => .ret y) (
rd x.2 (at0 y4) fun a6 =>
cl (f43.ok p3 (a6.Label.len : Int)) fun y7 =>
cl (f43.ok p4 (4 : Int)) fun y8 =>
brr (y8 == 0) (
rd x.2 (at0 y4) fun a9 =>
rd x.2 (at0 y4) fun a10 =>
ck y7 a10.Label.len <|
rdM x.1 a10.Label.i (a10.Label.off + y7.toNat) fun a11 =>
cl (f43.ok (IntKind.i64.wrap (p4.tdiv 4)) (5 : Int)) fun y12 =>
ck y7 a9.Label.len <|
stM x.1 a9.Label.i (a9.Label.off + y7.toNat) (IntKind.i64.wrap ((IntKind.i64.wrap (a11 + y12)) - 2)) fun M =>
tellN 101 M x.2 fun y => .ret y) (
brr (y8 == 1) (
rd x.2 (at0 y4) fun a9 =>
cl (f43.ok (IntKind.i64.wrap (p4.tdiv 4)) (6 : Int)) fun y12 =>
ck y7 a9.Label.len <|
stM x.1 a9.Label.i (a9.Label.off + y7.toNat) (IntKind.i64.wrap (y12 - 1)) fun M =>
tellN 101 M x.2 fun y => .ret y) (
brr (y8 == 2) (
rd x.2 (at0 y4) fun a9 =>
cl (f43.ok (IntKind.i64.wrap (p4.tdiv 4)) (L p1 : Int)) fun y12 =>
getR p1 y12 fun a13 =>
cpM x.1 a9.Label a13.Label fun M =>
tellN 101 M x.2 fun y => .ret y) (
brr (y8 == 3) (
rd x.2 (at0 y4) fun a9 =>
ck y7 a9.Label.len <|
stM x.1 a9.Label.i (a9.Label.off + y7.toNat) (0 : Int) fun M =>
tellN 101 M x.2 fun y => .ret y) (
tellN 101 x.1 x.2 fun y => .ret y))))))

theorem f14.l1.same (f g : Fm) (p1 : List Named) (p2 p3 p4 : Int) (i : Int) (M : List (List Int)) (o : List NamedR) : (@f14.l1 f p1 p2 p3 p4 i M o).run = (@f14.l1 g p1 p2 p3 p4 i M o).run := by
  simp only [f14.l1, r_brr, r_getR, r_apM, r_ap, r_ret, L_eq]
theorem f14.same (f g : Fm) (p1 : List Named) (p2 p3 p4 : Int) : (@f14.fm f p1 p2 p3 p4).run = (@f14.fm g p1 p2 p3 p4).run := by
  simp only [f14.fm, r_loop1, f14.l1.same f g, r_brr, r_getR, r_rd, r_ck, r_cl, r_ret, L_eq, r_tellN, r_rdM, r_stM, r_cpM]
abbrev f14 (p1 : List Named) (p2 p3 p4 : Int) : Pg (List Named) := @f14.fm ⟨0⟩ p1 p2 p3 p4
theorem f14.ok (p1 : List Named) (p2 p3 p4 : Int) {x} (h : (f14 p1 p2 p3 p4).run = some x) : Spec Tryz.prog 14 [V p1, V p2, V p3, V p4] [] (V x) [] :=
  Prg.okF (p := fun f => @f14.fm ⟨f⟩ p1 p2 p3 p4) Tryz.func14 1 (res := fun x => V x) (outs := fun x => []) (by kernel_rfl) (by kernel_rfl) rfl (fun f => (f14.same ⟨f⟩ ⟨0⟩ p1 p2 p3 p4).trans h)

def f44v1.l1 (p1 : Graph) (p2 : Int) (v15 : Int) (l16 : List Edge) : Pg (Nx (Int × (List Edge)) (Ex (List Edge) Empty Empty)) :=
brr (decide (v15 < (L p1.Edges : Int))) (
join1 (.reg 5) (
getR p1.Edges v15 fun a18 =>
brr (a18.From == p2) (
retA' true) (
getR p1.Edges v15 fun a19 =>
retA' (a19.To == p2))) (.cut .nat fun x20 => ([(1, V p2), (2, R 101), (5, H Edge 103), (6, V v15), (31, V x20)], [(101, B p1), (103, O l16)])) fun x20 =>
brr x20 (
getR p1.Edges v15 fun a21 =>
ap l16 ([a21] : List Edge) fun l22 =>
cont ((IntKind.i64.wrap (v15 + 1)), l22)) (
cont ((IntKind.i64.wrap (v15 + 1)), l16))) (
doneA l16)

def f44v1 (p1 : Graph) (p2 : Int) : Pg (List Edge) :=
loop1 ((0 : Int), ([] : List Edge)) (fun s23 => f44v1.l1 p1 p2 s23.1 s23.2) (fun s23 => ([(1, V p2), (2, R 101), (5, H Edge 503), (6, V s23.1)], [(101, B p1), (503, O s23.2)])) (.cut (.ext 0) fun x24 => ([(5, H Edge 101)], [(101, O x24)])) fun x24 =>
.ret (x24)

theorem f44v1.ok (p1 : Graph) (p2 : Int) {x} (h : (f44v1 p1 p2).run = some x) : Spec Tryz.prog 44 [V p1, V p2] [] (V x) [] :=
  Prg.ok Tryz.func44 (res := fun x => V x) (outs := fun x => []) (by kernel_rfl) (by kernel_rfl) rfl h

def f15v1.l1 (p2 : List Named) (y5 : List Edge) (v43 : Int) (v50 : Bool) (v51 : Int) : Pg (Nx (Bool × Int) (Ex Bool Empty Empty)) :=
brr (decide (v51 < (L y5 : Int))) (
brr v50 (
cont (true, (IntKind.i64.wrap (v51 + 1)))) (
getR y5 v51 fun a52 =>
getR p2 v43 fun a53 =>
brr (a52.From == a53.ID) (
cont (true, (IntKind.i64.wrap (v51 + 1)))) (
getR y5 v51 fun a54 =>
getR p2 v43 fun a55 =>
cont ((a54.To == a55.ID), (IntKind.i64.wrap (v51 + 1)))))) (
doneA v50)

def f15v1.l2 (p2 : List Named) (p3 : Int) (l4 : List Int) (y5 : List Edge) (x8 : Int × Int) (v43 : Int) (l44 : List Named) : Pg (Nx (Int × (List Named)) (Ex (List Named) Empty Empty)) :=
brr (decide (v43 < (L p2 : Int))) (
getR p2 v43 fun a45 =>
loop1 ((a45.ID == p3), (0 : Int)) (fun s56 => f15v1.l1 p2 y5 v43 s56.1 s56.2) (fun s56 => ([(1, V p2), (2, V p3), (6, R 101), (7, R 103), (9, V v43), (10, V s56.1), (11, V s56.2)], [(101, .varp [.int .i64 0, .int .i64 0, .nilsl, .nilsl, .nilsl]), (103, .var [V x8.1, V x8.2, H Int 105, V y5, H Named 107]), (105, O l4), (107, O l44)])) (.cut (.ext 2) fun x57 => ([(1, V p2), (2, V p3), (6, R 101), (7, R 103), (9, V v43), (10, V x57)], [(101, .varp [.int .i64 0, .int .i64 0, .nilsl, .nilsl, .nilsl]), (103, .var [V x8.1, V x8.2, H Int 105, V y5, H Named 107]), (105, O l4), (107, O l44)])) fun x57 =>
brr x57 (
getR p2 v43 fun a58 =>
getR p2 v43 fun a59 =>
ap ([] : List Int) a59.Label fun l60 =>
ap l44 ([(Named.mk a58.ID l60)] : List Named) fun l61 =>
cont ((IntKind.i64.wrap (v43 + 1)), l61)) (
cont ((IntKind.i64.wrap (v43 + 1)), l44))) (
doneA l44)

def f15v1 (p1 : Graph) (p2 : List Named) (p3 : Int) : Pg View :=
ap ([] : List Int) p1.Depots fun l4 =>
cl (f44v1.ok p1 p3) fun y5 =>
cl (f45v1.ok p1 p3) fun y6 =>
join1 (.cond 26) (
brr (decide (y6 ≥ 0)) (
getR p1.Vertices y6 fun a7 =>
retA' (a7.ID, a7.Side)) (
retA' (p3, (0 : Int)))) (.cut .nat fun x8 => ([(1, V p2), (2, V p3), (6, R 101), (7, R 103)], [(101, .varp [.int .i64 0, .int .i64 0, .nilsl, .nilsl, .nilsl]), (103, .var [V x8.1, V x8.2, H Int 105, V y5, .pv .nilsl]), (105, O l4)])) fun x8 =>
loop1 ((0 : Int), ([] : List Named)) (fun s62 => f15v1.l2 p2 p3 l4 y5 x8 s62.1 s62.2) (fun s62 => ([(1, V p2), (2, V p3), (6, R 101), (7, R 103), (9, V s62.1)], [(101, .varp [.int .i64 0, .int .i64 0, .nilsl, .nilsl, .nilsl]), (103, .var [V x8.1, V x8.2, H Int 105, V y5, H Named 507]), (105, O l4), (507, O s62.2)])) (.cut (.ext 0) fun x63 => ([(6, R 101), (7, R 103)], [(101, .varp [.int .i64 0, .int .i64 0, .nilsl, .nilsl, .nilsl]), (103, .var [V x8.1, V x8.2, H Int 105, V y5, H Named 107]), (105, O l4), (107, O x63)])) fun x63 =>
.ret ((View.mk (Vertex.mk x8.1 x8.2) l4 y5 x63))

theorem f15v1.ok (p1 : Graph) (p2 : List Named) (p3 : Int) {x} (h : (f15v1 p1 p2 p3).run = some x) : Spec Tryz.prog 15 [V p1, V p2, V p3] [] (V x) [] :=
  Prg.ok Tryz.func15 (res := fun x => V x) (outs := fun x => []) (by kernel_rfl) (by kernel_rfl) rfl h

def f3.l1 (y9 : Graph) (a40 : List Named) (v47 : Int) : Pg (Nx Int (Ex (Bool) Unit Empty)) :=
brr (decide (v47 < (L y9.Vertices : Int))) (
getR y9.Vertices v47 fun a48 =>
cl (f15v1.ok y9 a40 a48.ID) fun y49 =>
cl (f9.ok y49) fun y50 =>
cl (f11.ok y49) fun y51 =>
brr (!(y50 == y51)) (
doneA (false)) (
cl (f12.ok y49) fun y52 =>
cl (f13.ok y49) fun y53 =>
brr (y52 != y53) (
doneA (false)) (
cont (IntKind.i64.wrap (v47 + 1))))) (
doneB ())

def f3.l2 (y8 : Bool) (y9 : Graph) (y10 : (List Named) × Int) (y20 y21 : List Named) (v39 : Int) : Pg (Nx Int (Ex (Bool) Unit Empty)) :=
brr (decide (v39 < (L ([y10.1, y20, y21] : List (List Named)) : Int))) (
ck v39 (L ([y10.1, y20, y21] : List (List Named))) <|
rd ([y10.1, y20, y21] : List (List Named)) (at0 v39) fun a40 =>
loop2 (0 : Int) (fun s54 => f3.l1 y9 a40 s54) (fun s54 => ([(15, V y8), (16, R 101), (21, V a40), (22, V s54), (74, H (List Named) 103), (75, V (L ([y10.1, y20, y21] : List (List Named)) : Int)), (76, V v39)], [(101, B y9), (103, O ([y10.1, y20, y21] : List (List Named)))])) .inl (fun r55 =>
doneA r55) (.cut (.ext 2) fun _ => ([(15, V y8), (16, R 101), (74, H (List Named) 103), (75, V (L ([y10.1, y20, y21] : List (List Named)) : Int)), (76, V v39)], [(101, B y9), (103, O ([y10.1, y20, y21] : List (List Named)))])) fun _ =>
cont (IntKind.i64.wrap (v39 + 1))) (
doneB ())

def f3 (p1 : View) (p2 : Int) (p3 : List A5_Int) (p4 : Int) (p5 p6 p7 : A2_Int) : Pg Bool :=
cl (f6.ok) fun y8 =>
brr (!y8) (
.ret (false)) (
cl (f7.ok p2 p3 false p4) fun y9 =>
cl (f8.ok y9) fun y10 =>
join1 (.reg 6) (
brr (y10.2 != 0) (
retA' true) (
cl (f10.ok p1) fun y11 =>
cl (f9.ok y11) fun y12 =>
cl (f10.ok p1) fun y13 =>
cl (f11.ok y13) fun y14 =>
brr (!(y12 == y14)) (
retA' true) (
cl (f10.ok p1) fun y15 =>
cl (f12.ok y15) fun y16 =>
cl (f10.ok p1) fun y17 =>
cl (f13.ok y17) fun y18 =>
retA' (y16 != y18)))) (.cut .nat fun x19 => ([(11, R 101), (12, R 103), (13, R 105), (15, V y8), (16, R 107), (17, V y10.1), (55, V x19)], [(101, B p5), (103, B p6), (105, B p7), (107, B y9)])) fun x19 =>
brr x19 (
.ret (false)) (
cl (f14.ok y10.1 p5.x0 p6.x0 p7.x0) fun y20 =>
cl (f14.ok y20 p5.x1 p6.x1 p7.x1) fun y21 =>
loop2 (0 : Int) (fun s57 => f3.l2 y8 y9 y10 y20 y21 s57) (fun s57 => ([(15, V y8), (16, R 101), (74, H (List Named) 103), (75, V (L ([y10.1, y20, y21] : List (List Named)) : Int)), (76, V s57)], [(101, B y9), (103, O ([y10.1, y20, y21] : List (List Named)))])) .inl (fun r58 =>
.ret r58) (.cut (.ext 0) fun _ => ([(15, V y8)], [])) fun _ =>
.ret (y8)))

theorem f3.ok (p1 : View) (p2 : Int) (p3 : List A5_Int) (p4 : Int) (p5 p6 p7 : A2_Int) {x} (h : (f3 p1 p2 p3 p4 p5 p6 p7).run = some x) : Spec Tryz.prog 3 [V p1, V p2, V p3, V p4, V p5, V p6, V p7] [] (V x) [] :=
  Prg.ok Tryz.func3 (res := fun x => V x) (outs := fun x => []) (by kernel_rfl) (by kernel_rfl) rfl h

def f113v1 (p1 : Int) (p2 : Graph_change) : Pg (Int × Bool) :=
cl (f131.ok p2.Graph.Vertices p1) fun y3 =>
.ret ((y3.1, y3.2))

theorem f113v1.ok (p1 : Int) (p2 : Graph_change) {x} (h : (f113v1 p1 p2).run = some x) : Spec Tryz.prog 113 [R 0, V p1] [B p2] (.tup [V x.1, V x.2]) [B p2] :=
  Prg.ok Tryz.func113 (res := fun x => .tup [V x.1, V x.2]) (outs := fun x => [B p2]) (by kernel_rfl) (by kernel_rfl) rfl h

def f81v1 (p1 : Int) (p2 : Graph_change) : Pg Bool :=
cl (f113v1.ok p1 p2) fun y3 =>
.ret (y3.2)

theorem f81v1.ok (p1 : Int) (p2 : Graph_change) {x} (h : (f81v1 p1 p2).run = some x) : Spec Tryz.prog 81 [R 0, V p1] [B p2] (V x) [B p2] :=
  Prg.ok Tryz.func81 (res := fun x => V x) (outs := fun x => [B p2]) (by kernel_rfl) (by kernel_rfl) rfl h

def f79v1 (p1 : Edge) (p2 : Graph_change) : Pg Bool :=
cl (f80.ok p1) fun y3 =>
brr (!y3) (
.ret (true)) (
cl (f81v1.ok p1.From p2) fun y4 =>
brr (!y4) (
.ret (true)) (
cl (f81v1.ok p1.To p2) fun y5 =>
.ret ((!y5))))

theorem f79v1.ok (p1 : Edge) (p2 : Graph_change) {x} (h : (f79v1 p1 p2).run = some x) : Spec Tryz.prog 79 [V p1, R 0] [mkVar (R 2), B p2] (V x) [mkVar (R 2), B p2] :=
  Prg.ok Tryz.func79 (res := fun x => V x) (outs := fun x => [mkVar (R 2), B p2]) (by kernel_rfl) (by kernel_rfl) rfl h

def f62v4.l1 (p1 : List Edge) (p2 : Graph_change) (v5 : Int) : Pg (Nx Int (Ex (Int) Unit Empty)) :=
brr (decide (v5 < (L p1 : Int))) (
getR p1 v5 fun a6 =>
cl (f79v1.ok a6 p2) fun y7 =>
brr y7 (
doneA (v5)) (
cont (IntKind.i64.wrap (v5 + 1)))) (
doneB ())

def f62v4 (p1 : List Edge) (p2 : Graph_change) : Pg Int :=
loop2 (0 : Int) (fun s8 => f62v4.l1 p1 p2 s8) (fun s8 => ([(0, V p1), (1, .clo 79 [R 0]), (7, V (L p1 : Int)), (8, V s8)], [(0, mkVar (R 2)), (2, B p2)])) .inl (fun r9 =>
.ret r9) (.cut (.ext 0) fun _ => ([], [(0, mkVar (R 2)), (2, B p2)])) fun _ =>
.ret (((-1) : Int))

theorem f62v4.ok (p1 : List Edge) (p2 : Graph_change) {x} (h : (f62v4 p1 p2).run = some x) : Spec Tryz.prog 62 [V p1, .clo 79 [R 0]] [mkVar (R 2), B p2] (V x) [mkVar (R 2), B p2] :=
  Prg.ok Tryz.func62 (res := fun x => V x) (outs := fun x => [mkVar (R 2), B p2]) (by kernel_rfl) (by kernel_rfl) rfl h

def f70v2 (p1 : List Edge) (p2 : Graph_change) : Pg Bool :=
cl (f62v4.ok p1 p2) fun y3 =>
.ret ((decide (y3 ≥ 0)))

theorem f70v2.ok (p1 : List Edge) (p2 : Graph_change) {x} (h : (f70v2 p1 p2).run = some x) : Spec Tryz.prog 70 [V p1, .clo 79 [R 0]] [mkVar (R 2), B p2] (V x) [mkVar (R 2), B p2] :=
  Prg.ok Tryz.func70 (res := fun x => V x) (outs := fun x => [mkVar (R 2), B p2]) (by kernel_rfl) (by kernel_rfl) rfl h

def f121v1 (p1 : Int) (p2 : Graph_change) : Pg Bool :=
cl (f81v1.ok p1 p2) fun y3 =>
.ret ((!y3))

theorem f121v1.ok (p1 : Int) (p2 : Graph_change) {x} (h : (f121v1 p1 p2).run = some x) : Spec Tryz.prog 121 [V p1, R 0] [mkVar (R 2), B p2] (V x) [mkVar (R 2), B p2] :=
  Prg.ok Tryz.func121 (res := fun x => V x) (outs := fun x => [mkVar (R 2), B p2]) (by kernel_rfl) (by kernel_rfl) rfl h

def f143v1.l1 (p1 : List Int) (p2 : Graph_change) (v5 : Int) : Pg (Nx Int (Ex (Int) Unit Empty)) :=
brr (decide (v5 < (L p1 : Int))) (
getR p1 v5 fun a6 =>
cl (f121v1.ok a6 p2) fun y7 =>
brr y7 (
doneA (v5)) (
cont (IntKind.i64.wrap (v5 + 1)))) (
doneB ())

def f143v1 (p1 : List Int) (p2 : Graph_change) : Pg Int :=
loop2 (0 : Int) (fun s8 => f143v1.l1 p1 p2 s8) (fun s8 => ([(0, V p1), (1, .clo 121 [R 0]), (7, V (L p1 : Int)), (8, V s8)], [(0, mkVar (R 2)), (2, B p2)])) .inl (fun r9 =>
.ret r9) (.cut (.ext 0) fun _ => ([], [(0, mkVar (R 2)), (2, B p2)])) fun _ =>
.ret (((-1) : Int))

theorem f143v1.ok (p1 : List Int) (p2 : Graph_change) {x} (h : (f143v1 p1 p2).run = some x) : Spec Tryz.prog 143 [V p1, .clo 121 [R 0]] [mkVar (R 2), B p2] (V x) [mkVar (R 2), B p2] :=
  Prg.ok Tryz.func143 (res := fun x => V x) (outs := fun x => [mkVar (R 2), B p2]) (by kernel_rfl) (by kernel_rfl) rfl h

def f120v1 (p1 : List Int) (p2 : Graph_change) : Pg Bool :=
cl (f143v1.ok p1 p2) fun y3 =>
.ret ((decide (y3 ≥ 0)))

theorem f120v1.ok (p1 : List Int) (p2 : Graph_change) {x} (h : (f120v1 p1 p2).run = some x) : Spec Tryz.prog 120 [V p1, .clo 121 [R 0]] [mkVar (R 2), B p2] (V x) [mkVar (R 2), B p2] :=
  Prg.ok Tryz.func120 (res := fun x => V x) (outs := fun x => [mkVar (R 2), B p2]) (by kernel_rfl) (by kernel_rfl) rfl h

def f85v1 (p1 : Graph_change) : Pg Bool :=
brr (decide ((L p1.Graph.Depots : Int) ≤ 3)) (
cl (f110.ok p1.Graph.Depots) fun y2 =>
brr y2 (
cl (f120v1.ok p1.Graph.Depots p1) fun y3 =>
.ret ((!y3))) (
.ret (false))) (
.ret (false))

theorem f85v1.ok (p1 : Graph_change) {x} (h : (f85v1 p1).run = some x) : Spec Tryz.prog 85 [R 0] [B p1] (V x) [B p1] :=
  Prg.ok Tryz.func85 (res := fun x => V x) (outs := fun x => [B p1]) (by kernel_rfl) (by kernel_rfl) rfl h

def f46v1 (p1 : Graph) : Pg Bool :=
join1 (.reg 1) (
cl (f75.ok p1.Vertices) fun y3 =>
brr (!y3) (
retA' true) (
cl (f77.ok p1.Edges) fun y4 =>
retA' (!y4))) (.cut .nat fun x5 => ([(1, R 101), (14, V x5)], [(101, B p1)])) fun x5 =>
brr x5 (
.ret (false)) (
cl (f82.ok p1.Vertices) fun y6 =>
brr (!y6) (
cl (f70v2.ok p1.Edges (Graph_change.mk p1)) fun y7 =>
brr (!y7) (
cl (f85v1.ok (Graph_change.mk ((Graph_change.mk p1).Graph))) fun y8 =>
.ret (y8)) (
.ret (false))) (
.ret (false)))

theorem f46v1.ok (p1 : Graph) {x} (h : (f46v1 p1).run = some x) : Spec Tryz.prog 46 [V p1] [] (V x) [] :=
  Prg.ok Tryz.func46 (res := fun x => V x) (outs := fun x => []) (by kernel_rfl) (by kernel_rfl) rfl h

def f47v1.l2 (p1 : Graph) (x14 : (List A3_Int) × (List (Int × Bool))) (v21 : Int) (l22 : List (List Edge)) : Pg (Nx (Int × (List (List Edge))) (Ex (List (List Edge)) Empty Empty)) :=
brr (decide (v21 < (L p1.Vertices : Int))) (
getR p1.Vertices v21 fun a23 =>
look x14.2 a23.ID (false : Bool) fun a24 b25 =>
brr a24 (
cl (f38.ok p1.Edges a23.ID l22 x14.1 x14.2) fun y26 =>
ck a23.ID 24 <|
st l22 a23.ID.toNat (fun x27 => y26) fun l28 =>
cont ((IntKind.i64.wrap (v21 + 1)), l28)) (
cont ((IntKind.i64.wrap (v21 + 1)), l22))) (
doneA l22)

def f47v1.l1 (p1 : Graph) (v6 : Int) (l7 : List A3_Int) (l8 : List (Int × Bool)) : Pg (Nx (Int × (List A3_Int) × (List (Int × Bool))) (Ex ((List A3_Int) × (List (Int × Bool))) Empty Empty)) :=
brr (decide (v6 < (L p1.Vertices : Int))) (
getR p1.Vertices v6 fun a9 =>
ck a9.ID 24 <|
st l7 a9.ID.toNat (fun x10 => (A3_Int.mk 0 (-1) 0)) fun l11 =>
brr (a9.Side == 3) (
mset l8 a9.ID true fun m12 =>
cont ((IntKind.i64.wrap (v6 + 1)), l11, m12)) (
cont ((IntKind.i64.wrap (v6 + 1)), l11, l8))) (
doneA (l7, l8))

def f47v1 (p1 : Graph) : Pg ((List (List Edge)) × (List A3_Int) × (List (Int × Bool))) :=
loop1 ((0 : Int), (List.replicate 24 (A3_Int.mk 0 0 0)), ([] : List (Int × Bool))) (fun s13 => f47v1.l1 p1 s13.1 s13.2.1 s13.2.2) (fun s13 => ([(1, R 101), (3, R 103), (13, V p1.Vertices), (14, V (L p1.Vertices : Int)), (15, V s13.1)], [(101, B p1), (103, .svar [Ar 24 (List.replicate 24 ([] : List Edge)), .mp 105, Ar 24 s13.2.1]), (105, MO false s13.2.2)])) (.cut (.ext 0) fun x14 => ([(1, R 101), (3, R 103)], [(101, B p1), (103, .svar [Ar 24 (List.replicate 24 ([] : List Edge)), .mp 105, Ar 24 x14.1]), (105, MO false x14.2)])) fun x14 =>
loop1 ((0 : Int), (List.replicate 24 ([] : List Edge))) (fun s29 => f47v1.l2 p1 x14 s29.1 s29.2) (fun s29 => ([(1, R 101), (3, R 103), (6, .bnd 86 (R 103)), (39, V p1.Vertices), (40, V (L p1.Vertices : Int)), (41, V s29.1)], [(101, B p1), (103, .svar [Ar 24 s29.2, .mp 105, Ar 24 x14.1]), (105, MO false x14.2)])) (.cut (.ext 2) fun x30 => ([(3, R 101)], [(101, .svar [Ar 24 x30, .mp 103, Ar 24 x14.1]), (103, MO false x14.2)])) fun x30 =>
.ret ((x30, x14.1, x14.2))

theorem f47v1.ok (p1 : Graph) {x} (h : (f47v1 p1).run = some x) : Spec Tryz.prog 47 [V p1] [] (R 0) [.svar [Ar 24 x.1, .mp 2, Ar 24 x.2.1], MO false x.2.2] :=
  Prg.ok Tryz.func47 (res := fun x => R 0) (outs := fun x => [.svar [Ar 24 x.1, .mp 2, Ar 24 x.2.1], MO false x.2.2]) (by kernel_rfl) (by kernel_rfl) rfl h

def f16v1.l2 (p1 : Graph) (x13 : List A3_Int) (v22 : Int) (l23 : List Named) : Pg (Nx (Int × (List Named)) (Ex (List Named) Empty Empty)) :=
brr (decide (v22 < (L p1.Vertices : Int))) (
getR p1.Vertices v22 fun a24 =>
ck a24.ID 24 <|
rd x13 a24.ID.toNat fun a25 =>
cl (f51.ok ([a25.x0, a25.x1, a25.x2] : List Int)) fun y26 =>
ap l23 ([(Named.mk a24.ID y26)] : List Named) fun l27 =>
cont ((IntKind.i64.wrap (v22 + 1)), l27)) (
doneA l23)

def f16v1.l1 (y3 : (List (List Edge)) × (List A3_Int) × (List (Int × Bool))) (y4 : (List (List Int)) × (List A3_Int) × (List (Int × Bool))) (y5 : List Int) (v8 : Int) (l9 : List A3_Int) : Pg (Nx (Int × (List A3_Int)) (Ex (List A3_Int) Empty Empty)) :=
brr (decide (v8 < (L y5 : Int))) (
getR y5 v8 fun a10 =>
cl (f50.ok a10 y3.1 l9 y4.2.2) fun y11 =>
cont ((IntKind.i64.wrap (v8 + 1)), y11)) (
doneA l9)

def f16v1 (p1 : Graph) : Pg ((List Named) × Int) :=
cl (f46v1.ok p1) fun y2 =>
brr (!y2) (
.ret ((([] : List Named), (140 : Int)))) (
cl (f47v1.ok p1) fun y3 =>
cl (f48.ok y3.1 y3.2.1 y3.2.2) fun y4 =>
cl (f49.ok y4.1) fun y5 =>
loop1 ((0 : Int), y4.2.1) (fun s12 => f16v1.l1 y3 y4 y5 s12.1 s12.2) (fun s12 => ([(1, R 101), (4, R 103), (20, V y5), (21, V (L y5 : Int)), (22, V s12.1)], [(101, B p1), (103, .svar [Ar 24 y3.1, .mp 105, Ar 24 s12.2]), (105, MO false y4.2.2)])) (.cut (.ext 0) fun x13 => ([(1, R 101), (4, R 103)], [(101, B p1), (103, .svar [Ar 24 y3.1, .mp 105, Ar 24 x13]), (105, MO false y4.2.2)])) fun x13 =>
loop1 ((0 : Int), ([] : List Named)) (fun s28 => f16v1.l2 p1 x13 s28.1 s28.2) (fun s28 => ([(4, R 101), (8, H Named 503), (31, V p1.Vertices), (32, V (L p1.Vertices : Int)), (33, V s28.1)], [(101, .svar [Ar 24 y3.1, .mp 103, Ar 24 x13]), (103, MO false y4.2.2), (503, O s28.2)])) (.cut (.ext 2) fun x29 => ([(8, H Named 101)], [(101, O x29)])) fun x29 =>
.ret ((x29, (0 : Int))))

theorem f16v1.ok (p1 : Graph) {x} (h : (f16v1 p1).run = some x) : Spec Tryz.prog 16 [V p1] [] (.tup [V x.1, V x.2]) [] :=
  Prg.ok Tryz.func16 (res := fun x => .tup [V x.1, V x.2]) (outs := fun x => []) (by kernel_rfl) (by kernel_rfl) rfl h

def f29v1 (p1 : Graph) : Pg ((List (List Int)) × Int) :=
cl (f46v1.ok p1) fun y2 =>
brr (!y2) (
.ret ((([] : List (List Int)), (140 : Int)))) (
cl (f47v1.ok p1) fun y3 =>
cl (f48.ok y3.1 y3.2.1 y3.2.2) fun y4 =>
.ret ((y4.1, (0 : Int))))

theorem f29v1.ok (p1 : Graph) {x} (h : (f29v1 p1).run = some x) : Spec Tryz.prog 29 [V p1] [] (.tup [V x.1, V x.2]) [] :=
  Prg.ok Tryz.func29 (res := fun x => .tup [V x.1, V x.2]) (outs := fun x => []) (by kernel_rfl) (by kernel_rfl) rfl h

def f63v1 (p1 : Edge) (p2 : Int) : Pg Unit :=
.ret (())

theorem f63v1.ok (p1 : Edge) (p2 : Int) {x} (h : (f63v1 p1 p2).run = some x) : Spec Tryz.prog 63 [V p1, R 0] [B p2] (V (p1.ID == p2)) [B p2] :=
  Prg.ok Tryz.func63 (res := fun x => V (p1.ID == p2)) (outs := fun x => [B p2]) (by kernel_rfl) (by kernel_rfl) rfl h

def f62v5.l1 (p1 : List Edge) (p2 : Int) (v5 : Int) : Pg (Nx Int (Ex (Int) Unit Empty)) :=
brr (decide (v5 < (L p1 : Int))) (
getR p1 v5 fun a6 =>
cl (f63v1.ok a6 p2) fun _ =>
brr (a6.ID == p2) (
doneA (v5)) (
cont (IntKind.i64.wrap (v5 + 1)))) (
doneB ())

def f62v5 (p1 : List Edge) (p2 : Int) : Pg Int :=
loop2 (0 : Int) (fun s8 => f62v5.l1 p1 p2 s8) (fun s8 => ([(0, V p1), (1, .clo 63 [R 0]), (7, V (L p1 : Int)), (8, V s8)], [(0, B p2)])) .inl (fun r9 =>
.ret r9) (.cut (.ext 0) fun _ => ([], [(0, B p2)])) fun _ =>
.ret (((-1) : Int))

theorem f62v5.ok (p1 : List Edge) (p2 : Int) {x} (h : (f62v5 p1 p2).run = some x) : Spec Tryz.prog 62 [V p1, .clo 63 [R 0]] [B p2] (V x) [B p2] :=
  Prg.ok Tryz.func62 (res := fun x => V x) (outs := fun x => [B p2]) (by kernel_rfl) (by kernel_rfl) rfl h

def f61v1 (p1 : Int) (p2 : Graph) (p3 : Int) (p4 : List (List Edge)) (p5 : List A3_Int) (p6 : List (Int × Bool)) : Pg Int :=
brr (p1 == (-1)) (
.ret ((L p2.Edges : Int))) (
ck (if 0 > p3 then 0 else p3) 24 <|
rd p4 ((if 0 > p3 then 0 else p3).toNat) fun a7 =>
cl (f62v5.ok a7 p1) fun y8 =>
.ret (y8))

theorem f61v1.ok (p1 : Int) (p2 : Graph) (p3 : Int) (p4 : List (List Edge)) (p5 : List A3_Int) (p6 : List (Int × Bool)) {x} (h : (f61v1 p1 p2 p3 p4 p5 p6).run = some x) : Spec Tryz.prog 61 [V p1, R 0, R 2, R 4] [B p2, mkVar (R 6), B p3, .svar [Ar 24 p4, .mp 8, Ar 24 p5], MO false p6] (V x) [B p2, mkVar (R 6), B p3, .svar [Ar 24 p4, .mp 8, Ar 24 p5], MO false p6] :=
  Prg.ok Tryz.func61 (res := fun x => V x) (outs := fun x => [B p2, mkVar (R 6), B p3, .svar [Ar 24 p4, .mp 8, Ar 24 p5], MO false p6]) (by kernel_rfl) (by kernel_rfl) rfl h

def f27v1 (p1 : Graph) (p2 p3 p4 : Int) : Pg (Bool × Int) :=
cl (f46v1.ok p1) fun y5 =>
brr (!y5) (
.ret ((false, (140 : Int)))) (
cl (f47v1.ok p1) fun y6 =>
join1 (.reg 5) (
brr (decide (p2 < 0)) (
retA' true) (
brr (decide (p2 ≥ 24)) (
retA' true) (
look y6.2.2 p2 (false : Bool) fun a7 b8 =>
brr (!a7) (
retA' true) (
cl (f61v1.ok p3 p1 p2 y6.1 y6.2.1 y6.2.2) fun y9 =>
brr (decide (y9 < 0)) (
retA' true) (
cl (f61v1.ok p4 p1 p2 y6.1 y6.2.1 y6.2.2) fun y10 =>
retA' (decide (y10 < 0))))))) (.cut .nat fun x11 => ([(2, V p3), (3, V p4), (11, .clo 61 [R 101, R 103, R 105]), (44, V x11)], [(101, B p1), (103, mkVar (R 107)), (105, B p2), (107, .svar [Ar 24 y6.1, .mp 109, Ar 24 y6.2.1]), (109, MO false y6.2.2)])) fun x11 =>
brr x11 (
.ret ((false, (140 : Int)))) (
cl (f61v1.ok p3 p1 p2 y6.1 y6.2.1 y6.2.2) fun y12 =>
cl (f61v1.ok p4 p1 p2 y6.1 y6.2.1 y6.2.2) fun y13 =>
.ret (((decide (y12 < y13)), (0 : Int)))))

theorem f27v1.ok (p1 : Graph) (p2 p3 p4 : Int) {x} (h : (f27v1 p1 p2 p3 p4).run = some x) : Spec Tryz.prog 27 [V p1, V p2, V p3, V p4] [] (.tup [V x.1, V x.2]) [] :=
  Prg.ok Tryz.func27 (res := fun x => .tup [V x.1, V x.2]) (outs := fun x => []) (by kernel_rfl) (by kernel_rfl) rfl h

def f21 (p1 : Graph) : Pg Graph :=
ap ([] : List Vertex) p1.Vertices fun l2 =>
ap ([] : List Edge) p1.Edges fun l3 =>
ap ([] : List Int) p1.Depots fun l4 =>
.ret ((Graph.mk l2 l3 l4))

theorem f21.ok (p1 : Graph) {x} (h : (f21 p1).run = some x) : Spec Tryz.prog 21 [V p1] [] (V x) [] :=
  Prg.ok Tryz.func21 (res := fun x => V x) (outs := fun x => []) (by kernel_rfl) (by kernel_rfl) rfl h

def f22 (p1 p2 : Int) : Pg Int :=
brr (decide (p1 < 0)) (
nzD p2 <|
.ret (((IntKind.i64.wrap (0 - (IntKind.i64.wrap (p1 + 1)))).tmod p2))) (
nzD p2 <|
.ret ((p1.tmod p2)))

theorem f22.ok (p1 p2 : Int) {x} (h : (f22 p1 p2).run = some x) : Spec Tryz.prog 22 [V p1, V p2] [] (V x) [] :=
  Prg.ok Tryz.func22 (res := fun x => V x) (outs := fun x => []) (by kernel_rfl) (by kernel_rfl) rfl h

def f21v1 (p1 : Graph) : Pg ((List Edge) × (List Int) × (List Vertex)) :=
ap ([] : List Vertex) p1.Vertices fun l2 =>
ap ([] : List Edge) p1.Edges fun l3 =>
ap ([] : List Int) p1.Depots fun l4 =>
.ret ((l3, l4, l2))

theorem f21v1.ok (p1 : Graph) {x} (h : (f21v1 p1).run = some x) : Spec Tryz.prog 21 [V p1] [] (.agg [H Vertex 0, V x.1, V x.2.1]) [O x.2.2] :=
  Prg.ok Tryz.func21 (res := fun x => .agg [H Vertex 0, V x.1, V x.2.1]) (outs := fun x => [O x.2.2]) (by kernel_rfl) (by kernel_rfl) rfl h

def f21v2 (p1 : Graph) : Pg ((List Int) × (List Vertex) × (List Edge)) :=
ap ([] : List Vertex) p1.Vertices fun l2 =>
ap ([] : List Edge) p1.Edges fun l3 =>
ap ([] : List Int) p1.Depots fun l4 =>
.ret ((l4, l2, l3))

theorem f21v2.ok (p1 : Graph) {x} (h : (f21v2 p1).run = some x) : Spec Tryz.prog 21 [V p1] [] (.agg [H Vertex 0, H Edge 2, V x.1]) [O x.2.1, O x.2.2] :=
  Prg.ok Tryz.func21 (res := fun x => .agg [H Vertex 0, H Edge 2, V x.1]) (outs := fun x => [O x.2.1, O x.2.2]) (by kernel_rfl) (by kernel_rfl) rfl h

def f45v2.l1 (p1 : List Vertex) (p3 : Int) (v5 : Int) : Pg (Nx Int (Ex (Int) Unit Empty)) :=
brr (decide (v5 < (L p1 : Int))) (
getR p1 v5 fun a6 =>
brr (a6.ID == p3) (
doneA (v5)) (
cont (IntKind.i64.wrap (v5 + 1)))) (
doneB ())

def f45v2 (p1 : List Vertex) (p2 : List Edge) (p3 : Int) : Pg Int :=
loop2 (0 : Int) (fun s7 => f45v2.l1 p1 p3 s7) (fun s7 => ([(1, V p3), (2, R 101), (5, V s7)], [(101, .varp [.sl (p1.map Cel.enc), .sl (p2.map Cel.enc), .nilsl])])) .inl (fun r8 =>
.ret r8) (.cut (.ext 0) fun _ => ([], [])) fun _ =>
.ret (((-1) : Int))

theorem f45v2.ok (p1 : List Vertex) (p2 : List Edge) (p3 : Int) {x} (h : (f45v2 p1 p2 p3).run = some x) : Spec Tryz.prog 45 [.aggp [.sl (p1.map Cel.enc), .sl (p2.map Cel.enc), .nilsl], V p3] [] (V x) [] :=
  Prg.ok Tryz.func45 (res := fun x => V x) (outs := fun x => []) (by kernel_rfl) (by kernel_rfl) rfl h

def f23v1 (p1 : List Vertex) (p2 : List Edge) (p3 : Int) : Pg Bool :=
cl (f45v2.ok p1 p2 p3) fun y4 =>
brr (decide (y4 ≥ 0)) (
getR p1 y4 fun a5 =>
.ret ((a5.Side == 3))) (
.ret (false))

theorem f23v1.ok (p1 : List Vertex) (p2 : List Edge) (p3 : Int) {x} (h : (f23v1 p1 p2 p3).run = some x) : Spec Tryz.prog 23 [.aggp [.sl (p1.map Cel.enc), .sl (p2.map Cel.enc), .nilsl], V p3] [] (V x) [] :=
  Prg.ok Tryz.func23 (res := fun x => V x) (outs := fun x => []) (by kernel_rfl) (by kernel_rfl) rfl h

def f45v3.l1 (p1 : Int) (p2 : List Vertex) (v5 : Int) : Pg (Nx Int (Ex (Int) Unit Empty)) :=
brr (decide (v5 < (L p2 : Int))) (
ck v5 (L p2) <|
rd p2 (at0 v5) fun a6 =>
brr (a6.ID == p1) (
doneA (v5)) (
cont (IntKind.i64.wrap (v5 + 1)))) (
doneB ())

def f45v3 (p1 : Int) (p2 : List Vertex) (p3 : List Edge) : Pg Int :=
loop2 (0 : Int) (fun s7 => f45v3.l1 p1 p2 s7) (fun s7 => ([(1, V p1), (2, R 101), (5, V s7)], [(0, O p2), (2, O p3), (101, .var [H Vertex 0, H Edge 2, .pv .nilsl])])) .inl (fun r8 =>
.ret r8) (.cut (.ext 0) fun _ => ([], [(0, O p2), (2, O p3)])) fun _ =>
.ret (((-1) : Int))

theorem f45v3.ok (p1 : Int) (p2 : List Vertex) (p3 : List Edge) {x} (h : (f45v3 p1 p2 p3).run = some x) : Spec Tryz.prog 45 [.agg [H Vertex 0, H Edge 2, .pv .nilsl], V p1] [O p2, O p3] (V x) [O p2, O p3] :=
  Prg.ok Tryz.func45 (res := fun x => V x) (outs := fun x => [O p2, O p3]) (by kernel_rfl) (by kernel_rfl) rfl h

def f23v2 (p1 : Int) (p2 : List Vertex) (p3 : List Edge) : Pg Bool :=
cl (f45v3.ok p1 p2 p3) fun y4 =>
brr (decide (y4 ≥ 0)) (
ck y4 (L p2) <|
rd p2 (at0 y4) fun a5 =>
.ret ((a5.Side == 3))) (
.ret (false))

theorem f23v2.ok (p1 : Int) (p2 : List Vertex) (p3 : List Edge) {x} (h : (f23v2 p1 p2 p3).run = some x) : Spec Tryz.prog 23 [.agg [H Vertex 0, H Edge 2, .pv .nilsl], V p1] [O p2, O p3] (V x) [O p2, O p3] :=
  Prg.ok Tryz.func23 (res := fun x => V x) (outs := fun x => [O p2, O p3]) (by kernel_rfl) (by kernel_rfl) rfl h

def f24.l1 (p1 p2 : List Named) (v8 : Int) : Pg (Nx Int (Ex (Bool) Unit Empty)) :=
brr (decide (v8 < (L p1 : Int))) (
getR p1 v8 fun a9 =>
getR p2 v8 fun a10 =>
brr (a9.ID != a10.ID) (
doneA (false)) (
getR p1 v8 fun a11 =>
getR p2 v8 fun a12 =>
cl (f20.ok a11.Label a12.Label) fun y13 =>
brr (!y13) (
doneA (false)) (
cont (IntKind.i64.wrap (v8 + 1))))) (
doneB ())

def f24 (p1 p2 : List Named) : Pg Bool :=
brr ((L p1 : Int) != (L p2 : Int)) (
.ret (false)) (
loop2 (0 : Int) (fun s14 => f24.l1 p1 p2 s14) (fun s14 => ([(0, V p1), (1, V p2), (5, V s14)], [])) .inl (fun r15 =>
.ret r15) (.cut (.ext 0) fun _ => ([], [])) fun _ =>
.ret (true))

theorem f24.ok (p1 p2 : List Named) {x} (h : (f24 p1 p2).run = some x) : Spec Tryz.prog 24 [V p1, V p2] [] (V x) [] :=
  Prg.ok Tryz.func24 (res := fun x => V x) (outs := fun x => []) (by kernel_rfl) (by kernel_rfl) rfl h

def f26.l1 (p1 : Graph) (y2 : (List Named) × Int) (v20 : Int) (l21 l22 : List Int) : Pg (Nx (Int × (List Int) × (List Int)) (Ex ((List Int) × (List Int) × Bool) ((List Int) × (List Int)) Empty)) :=
brr (decide (v20 < (L y2.1 : Int))) (
join1 (.reg 9) (
getR y2.1 v20 fun a25 =>
getR p1.Vertices v20 fun a26 =>
brr (a25.ID != a26.ID) (
retA' true) (
getR y2.1 v20 fun a27 =>
retA' ((L a27.Label : Int) != 3))) (.cut .nat fun x28 => ([(1, R 101), (2, R 103), (3, R 105), (5, R 107), (6, R 109), (7, V y2.1), (9, V v20), (53, V x28)], [(101, B p1), (103, BA 24 (List.replicate 24 (0 : Int))), (105, BA 24 (List.replicate 24 (0 : Int))), (107, BA 24 l21), (109, BA 24 l22)])) fun x28 =>
brr x28 (
doneA ((l21, l22, false))) (
getR y2.1 v20 fun a29 =>
getR y2.1 v20 fun a30 =>
getR a30.Label (0 : Int) fun a31 =>
ck a29.ID 24 <|
st l22 a29.ID.toNat (fun x32 => a31) fun l33 =>
getR y2.1 v20 fun a34 =>
getR y2.1 v20 fun a35 =>
getR a35.Label (1 : Int) fun a36 =>
ck a34.ID 24 <|
st l21 a34.ID.toNat (fun x37 => a36) fun l38 =>
cont ((IntKind.i64.wrap (v20 + 1)), l38, l33))) (
doneB (l21, l22))

def f26 (p1 : Graph) : Pg ((List Int) × (List Int) × Bool) :=
cl (f16v1.ok p1) fun y2 =>
join1 (.reg 4) (
brr (y2.2 != 0) (
retA' true) (
retA' ((L y2.1 : Int) != (L p1.Vertices : Int)))) (.cut .nat fun x3 => ([(1, R 101), (2, R 103), (3, R 105), (5, R 107), (6, R 109), (7, V y2.1), (24, V x3)], [(101, B p1), (103, BA 24 (List.replicate 24 (0 : Int))), (105, BA 24 (List.replicate 24 (0 : Int))), (107, BA 24 (List.replicate 24 (0 : Int))), (109, BA 24 (List.replicate 24 (0 : Int)))])) fun x3 =>
brr x3 (
.ret (((List.replicate 24 (0 : Int)), (List.replicate 24 (0 : Int)), false))) (
loop2 ((0 : Int), (List.replicate 24 (0 : Int)), (List.replicate 24 (0 : Int))) (fun s39 => f26.l1 p1 y2 s39.1 s39.2.1 s39.2.2) (fun s39 => ([(1, R 101), (2, R 103), (3, R 105), (5, R 107), (6, R 109), (7, V y2.1), (9, V s39.1)], [(101, B p1), (103, BA 24 (List.replicate 24 (0 : Int))), (105, BA 24 (List.replicate 24 (0 : Int))), (107, BA 24 s39.2.1), (109, BA 24 s39.2.2)])) .inl (fun r40 =>
.ret r40) (.cut (.ext 0) fun x41 => ([(2, R 101), (3, R 103), (5, R 105), (6, R 107)], [(101, BA 24 (List.replicate 24 (0 : Int))), (103, BA 24 (List.replicate 24 (0 : Int))), (105, BA 24 x41.1), (107, BA 24 x41.2)])) fun x41 =>
.ret ((x41.1, x41.2, true)))

theorem f26.ok (p1 : Graph) {x} (h : (f26 p1).run = some x) : Spec Tryz.prog 26 [V p1] [] (.tup [Ar 24 x.1, Ar 24 x.2.1, V x.2.2]) [] :=
  Prg.ok Tryz.func26 (res := fun x => .tup [Ar 24 x.1, Ar 24 x.2.1, V x.2.2]) (outs := fun x => []) (by kernel_rfl) (by kernel_rfl) rfl h

def f52 (p1 p2 p3 p4 p5 p6 : Int) (p7 : Bool) (p8 p9 p10 p11 : Int) : Pg Bool :=
join2 (.cond 8) (
brr (p1 == 1) (
retB' ((0 : Int), (0 : Int), p4, p5, p6, p7, p8, p9, p10, p11)) (
join2 (.cond 12) (
brr (p1 == 3) (
retB' (p2, p3, (0 : Int), (0 : Int), (0 : Int), false, (0 : Int), (0 : Int), p10, p11)) (
join1 (.cond 16) (
brr (p1 == 2) (
retA' (p1 == 2)) (
retA' (p1 == 4))) (.cut .nat fun x12 => ([(3, R 101), (7, V p1), (16, V x12)], [(101, .varp [.int .i64 0, .int .i64 p2, .int .i64 p3, .int .i64 p4, .int .i64 p5, .int .i64 p6, .bool p7, .int .i64 p8, .int .i64 p9, .int .i64 p10, .int .i64 p11, .nilsl, .nilsl])])) fun x12 =>
join2 (.cond 16) (
brr x12 (
retB' (p2, p3, (0 : Int), p11)) (
join1 (.cond 20) (
brr (p1 == 5) (
retA' (p1 == 5)) (
join1 (.cond 20) (
brr (p1 == 6) (
retA' (p1 == 6)) (
join1 (.cond 20) (
brr (p1 == 7) (
retA' (p1 == 7)) (
retA' (p1 == 9))) (.cut .nat fun x13 => ([(3, R 101), (7, V p1), (20, V x13)], [(101, .varp [.int .i64 0, .int .i64 p2, .int .i64 p3, .int .i64 p4, .int .i64 p5, .int .i64 p6, .bool p7, .int .i64 p8, .int .i64 p9, .int .i64 p10, .int .i64 p11, .nilsl, .nilsl])])) fun x13 =>
retA' x13)) (.cut .nat fun x14 => ([(3, R 101), (7, V p1), (20, V x14)], [(101, .varp [.int .i64 0, .int .i64 p2, .int .i64 p3, .int .i64 p4, .int .i64 p5, .int .i64 p6, .bool p7, .int .i64 p8, .int .i64 p9, .int .i64 p10, .int .i64 p11, .nilsl, .nilsl])])) fun x14 =>
retA' x14)) (.cut .nat fun x15 => ([(3, R 101), (7, V p1), (20, V x15)], [(101, .varp [.int .i64 0, .int .i64 p2, .int .i64 p3, .int .i64 p4, .int .i64 p5, .int .i64 p6, .bool p7, .int .i64 p8, .int .i64 p9, .int .i64 p10, .int .i64 p11, .nilsl, .nilsl])])) fun x15 =>
join2 (.cond 20) (
brr x15 (
retB' (p2, p3, (0 : Int), (0 : Int))) (
join2 (.cond 27) (
brr (p1 == 8) (
retB' ((0 : Int), (0 : Int), (0 : Int))) (
brr (p1 == 10) (
retB' (p2, p3, p10)) (
retA' (false)))) .inl (fun r16 =>
retA' r16) (.cut .nat fun x17 => ([(3, R 101)], [(101, .varp [.int .i64 0, .int .i64 x17.1, .int .i64 x17.2.1, .int .i64 p4, .int .i64 p5, .int .i64 p6, .bool p7, .int .i64 p8, .int .i64 p9, .int .i64 x17.2.2, .int .i64 p11, .nilsl, .nilsl])])) fun x17 =>
retB' (x17.1, x17.2.1, x17.2.2, p11))) .inl (fun r18 =>
retA' r18) (.cut .nat fun x19 => ([(3, R 101)], [(101, .varp [.int .i64 0, .int .i64 x19.1, .int .i64 x19.2.1, .int .i64 p4, .int .i64 p5, .int .i64 p6, .bool p7, .int .i64 p8, .int .i64 p9, .int .i64 x19.2.2.1, .int .i64 x19.2.2.2, .nilsl, .nilsl])])) fun x19 =>
retB' (x19.1, x19.2.1, x19.2.2.1, x19.2.2.2))) .inl (fun r20 =>
retA' r20) (.cut .nat fun x21 => ([(3, R 101)], [(101, .varp [.int .i64 0, .int .i64 x21.1, .int .i64 x21.2.1, .int .i64 p4, .int .i64 p5, .int .i64 p6, .bool p7, .int .i64 p8, .int .i64 p9, .int .i64 x21.2.2.1, .int .i64 x21.2.2.2, .nilsl, .nilsl])])) fun x21 =>
retB' (x21.1, x21.2.1, p4, p5, p6, p7, p8, p9, x21.2.2.1, x21.2.2.2))) .inl (fun r22 =>
retA' r22) (.cut .nat fun x23 => ([(3, R 101)], [(101, .varp [.int .i64 0, .int .i64 x23.1, .int .i64 x23.2.1, .int .i64 x23.2.2.1, .int .i64 x23.2.2.2.1, .int .i64 x23.2.2.2.2.1, .bool x23.2.2.2.2.2.1, .int .i64 x23.2.2.2.2.2.2.1, .int .i64 x23.2.2.2.2.2.2.2.1, .int .i64 x23.2.2.2.2.2.2.2.2.1, .int .i64 x23.2.2.2.2.2.2.2.2.2, .nilsl, .nilsl])])) fun x23 =>
retB' (x23.1, x23.2.1, x23.2.2.1, x23.2.2.2.1, x23.2.2.2.2.1, x23.2.2.2.2.2.1, x23.2.2.2.2.2.2.1, x23.2.2.2.2.2.2.2.1, x23.2.2.2.2.2.2.2.2.1, x23.2.2.2.2.2.2.2.2.2))) .inl (fun r24 =>
.ret r24) (.cut .nat fun x25 => ([(3, R 101)], [(101, .varp [.int .i64 0, .int .i64 x25.1, .int .i64 x25.2.1, .int .i64 x25.2.2.1, .int .i64 x25.2.2.2.1, .int .i64 x25.2.2.2.2.1, .bool x25.2.2.2.2.2.1, .int .i64 x25.2.2.2.2.2.2.1, .int .i64 x25.2.2.2.2.2.2.2.1, .int .i64 x25.2.2.2.2.2.2.2.2.1, .int .i64 x25.2.2.2.2.2.2.2.2.2, .nilsl, .nilsl])])) fun x25 =>
brr ((x25.1 == 0) && ((x25.2.1 == 0) && true)) (
let e26 : Bool := ((x25.2.2.1 == 0) && ((x25.2.2.2.1 == 0) && ((x25.2.2.2.2.1 == 0) && ((x25.2.2.2.2.2.1 == false) && ((x25.2.2.2.2.2.2.1 == 0) && ((x25.2.2.2.2.2.2.2.1 == 0) && true))))))
brr e26 (
brr (x25.2.2.2.2.2.2.2.2.1 == 0) (
brr (x25.2.2.2.2.2.2.2.2.2 == 0) (
brr ((0 : Int) == 0) (
.ret (((0 : Int) == 0))) (
.ret (false))) (
.ret (false))) (
.ret (false))) (
.ret (false))) (
.ret (false))

theorem f52.ok (p1 p2 p3 p4 p5 p6 : Int) (p7 : Bool) (p8 p9 p10 p11 : Int) {x} (h : (f52 p1 p2 p3 p4 p5 p6 p7 p8 p9 p10 p11).run = some x) : Spec Tryz.prog 52 [.aggp [.int .i64 p1, .int .i64 p2, .int .i64 p3, .int .i64 p4, .int .i64 p5, .int .i64 p6, .bool p7, .int .i64 p8, .int .i64 p9, .int .i64 p10, .int .i64 p11, .nilsl, .nilsl]] [] (V x) [] :=
  Prg.ok Tryz.func52 (res := fun x => V x) (outs := fun x => []) (by kernel_rfl) (by kernel_rfl) rfl h

def f53 (p1 : List Vertex) : Pg (List Vertex) :=
bothN p1 <|
ap ([] : List Vertex) p1 fun l2 =>
.ret (l2)

theorem f53.ok (p1 : List Vertex) {x} (h : (f53 p1).run = some x) : Spec Tryz.prog 53 [V p1] [] (V x) [] :=
  Prg.ok Tryz.func53 (res := fun x => V x) (outs := fun x => []) (by kernel_rfl) (by kernel_rfl) rfl h

def f54 (p1 : List Edge) : Pg (List Edge) :=
bothN p1 <|
ap ([] : List Edge) p1 fun l2 =>
.ret (l2)

theorem f54.ok (p1 : List Edge) {x} (h : (f54 p1).run = some x) : Spec Tryz.prog 54 [V p1] [] (V x) [] :=
  Prg.ok Tryz.func54 (res := fun x => V x) (outs := fun x => []) (by kernel_rfl) (by kernel_rfl) rfl h

def f57 : Pg (List (Int × FnV)) :=
mset ([] : List (Int × FnV)) (1 : Int) (FnV.mk 92) fun m1 =>
mset m1 (2 : Int) (FnV.mk 94) fun m2 =>
mset m2 (3 : Int) (FnV.mk 98) fun m3 =>
mset m3 (4 : Int) (FnV.mk 101) fun m4 =>
mset m4 (5 : Int) (FnV.mk 103) fun m5 =>
mset m5 (6 : Int) (FnV.mk 106) fun m6 =>
mset m6 (7 : Int) (FnV.mk 107) fun m7 =>
mset m7 (8 : Int) (FnV.mk 109) fun m8 =>
mset m8 (9 : Int) (FnV.mk 112) fun m9 =>
mset m9 (10 : Int) (FnV.mk 114) fun m10 =>
.ret (m10)

theorem f57.ok {x} (h : (f57).run = some x) : Spec Tryz.prog 57 [] [] (.mp 0) [MO false x] :=
  Prg.ok Tryz.func57 (res := fun x => .mp 0) (outs := fun x => [MO false x]) (by kernel_rfl) (by kernel_rfl) rfl h

def f127 (p1 : Edge) (p2 : Int) : Pg Int :=
cl (f128.ok p1.ID p2) fun y3 =>
.ret (y3)

theorem f127.ok (p1 : Edge) (p2 : Int) {x} (h : (f127 p1 p2).run = some x) : Spec Tryz.prog 127 [V p1, V p2] [] (V x) [] :=
  Prg.ok Tryz.func127 (res := fun x => V x) (outs := fun x => []) (by kernel_rfl) (by kernel_rfl) rfl h

def f126.l1 (p1 : List Edge) (p2 : Int) (v6 v7 : Int) : Pg (Nx (Int × Int) (Ex Int Empty Empty)) :=
brr (decide (v6 < v7)) (
let e8 : Int := (IntKind.i64.wrap ((IntKind.u64.wrap (IntKind.i64.wrap (v6 + v7))).fdiv (2 ^ (min (1 : Int).toNat IntKind.u64.bits))))
getR p1 e8 fun a9 =>
cl (f127.ok a9 p2) fun y10 =>
brr (decide (y10 < 0)) (
cont ((IntKind.i64.wrap (e8 + 1)), v7)) (
cont (v6, e8))) (
doneA v6)

def f126 (p1 : List Edge) (p2 : Int) : Pg (Int × Bool) :=
loop1 ((0 : Int), (L p1 : Int)) (fun s11 => f126.l1 p1 p2 s11.1 s11.2) (fun s11 => ([(0, V p1), (1, V p2), (2, .clo 127 []), (8, V (L p1 : Int)), (9, V s11.1), (10, V s11.2)], [])) (.cut (.ext 0) fun x12 => ([(0, V p1), (1, V p2), (2, .clo 127 []), (8, V (L p1 : Int)), (9, V x12)], [])) fun x12 =>
brr (decide (x12 < (L p1 : Int))) (
getR p1 x12 fun a13 =>
cl (f127.ok a13 p2) fun y14 =>
.ret ((x12, (y14 == 0)))) (
.ret ((x12, false)))

theorem f126.ok (p1 : List Edge) (p2 : Int) {x} (h : (f126 p1 p2).run = some x) : Spec Tryz.prog 126 [V p1, V p2, .clo 127 []] [] (.tup [V x.1, V x.2]) [] :=
  Prg.ok Tryz.func126 (res := fun x => .tup [V x.1, V x.2]) (outs := fun x => []) (by kernel_rfl) (by kernel_rfl) rfl h

def f99 (p1 : Int) (p2 : Graph_change) : Pg (Int × Bool) :=
cl (f126.ok p2.Graph.Edges p1) fun y3 =>
.ret ((y3.1, y3.2))

theorem f99.ok (p1 : Int) (p2 : Graph_change) {x} (h : (f99 p1 p2).run = some x) : Spec Tryz.prog 99 [R 0, V p1] [B p2] (.tup [V x.1, V x.2]) [B p2] :=
  Prg.ok Tryz.func99 (res := fun x => .tup [V x.1, V x.2]) (outs := fun x => [B p2]) (by kernel_rfl) (by kernel_rfl) rfl h

def f95 (p1 : Bool) : Pg Unit :=
brr (!p1) (
.no) (
.ret (()))

theorem f95.ok (p1 : Bool) {x} (h : (f95 p1).run = some x) : Spec Tryz.prog 95 [V p1] [] (.tup []) [] :=
  Prg.ok Tryz.func95 (res := fun x => .tup []) (outs := fun x => []) (by kernel_rfl) (by kernel_rfl) rfl h

def f54v1 (p1 : List Edge) : Pg (List Edge) :=
bothN p1 <|
ap ([] : List Edge) p1 fun l2 =>
.ret (l2)

theorem f54v1.ok (p1 : List Edge) {x} (h : (f54v1 p1).run = some x) : Spec Tryz.prog 54 [V p1] [] (H Edge 0) [O x] :=
  Prg.ok Tryz.func54 (res := fun x => H Edge 0) (outs := fun x => [O x]) (by kernel_rfl) (by kernel_rfl) rfl h

def f126v1.l1 (p1 : Int) (p2 : List Edge) (v6 v7 : Int) : Pg (Nx (Int × Int) (Ex Int Empty Empty)) :=
brr (decide (v6 < v7)) (
let e8 : Int := (IntKind.i64.wrap ((IntKind.u64.wrap (IntKind.i64.wrap (v6 + v7))).fdiv (2 ^ (min (1 : Int).toNat IntKind.u64.bits))))
ck e8 (L p2) <|
rd p2 (at0 e8) fun a9 =>
cl (f127.ok a9 p1) fun y10 =>
brr (decide (y10 < 0)) (
cont ((IntKind.i64.wrap (e8 + 1)), v7)) (
cont (v6, e8))) (
doneA v6)

def f126v1 (p1 : Int) (p2 : List Edge) : Pg (Int × Bool) :=
loop1 ((0 : Int), (L p2 : Int)) (fun s11 => f126v1.l1 p1 p2 s11.1 s11.2) (fun s11 => ([(0, H Edge 0), (1, V p1), (2, .clo 127 []), (8, V (L p2 : Int)), (9, V s11.1), (10, V s11.2)], [(0, O p2)])) (.cut (.ext 0) fun x12 => ([(0, H Edge 0), (1, V p1), (2, .clo 127 []), (8, V (L p2 : Int)), (9, V x12)], [(0, O p2)])) fun x12 =>
brr (decide (x12 < (L p2 : Int))) (
ck x12 (L p2) <|
rd p2 (at0 x12) fun a13 =>
cl (f127.ok a13 p1) fun y14 =>
.ret ((x12, (y14 == 0)))) (
.ret ((x12, false)))

theorem f126v1.ok (p1 : Int) (p2 : List Edge) {x} (h : (f126v1 p1 p2).run = some x) : Spec Tryz.prog 126 [H Edge 0, V p1, .clo 127 []] [O p2] (.tup [V x.1, V x.2]) [O p2] :=
  Prg.ok Tryz.func126 (res := fun x => .tup [V x.1, V x.2]) (outs := fun x => [O p2]) (by kernel_rfl) (by kernel_rfl) rfl h

def f99v1 (p1 : Int) (p2 : List Vertex) (p3 : List Int) (p4 : List Edge) : Pg (Int × Bool) :=
cl (f126v1.ok p1 p4) fun y5 =>
.ret ((y5.1, y5.2))

theorem f99v1.ok (p1 : Int) (p2 : List Vertex) (p3 : List Int) (p4 : List Edge) {x} (h : (f99v1 p1 p2 p3 p4).run = some x) : Spec Tryz.prog 99 [R 0, V p1] [.var [V p2, H Edge 2, V p3], O p4] (.tup [V x.1, V x.2]) [.var [V p2, H Edge 2, V p3], O p4] :=
  Prg.ok Tryz.func99 (res := fun x => .tup [V x.1, V x.2]) (outs := fun x => [.var [V p2, H Edge 2, V p3], O p4]) (by kernel_rfl) (by kernel_rfl) rfl h

def f102v1 (p1 p2 : Int) (p3 : List Edge) : Pg (List Edge) :=
ck3 p1 p2 (L p3 : Int) (L p3) <|
brr (p1 == p2) .no (
front p1 (L p3) <|
bLo p2 (L p3) <|
apI p3 p1 p2 fun l1 =>
bB (L l1 : Int) (L p3 : Int) (L p3) <|
clr l1 (Edge.mk 0 0 0 false 0 0) (L l1 : Int) (L p3 : Int) fun l2 =>
.ret l2)

theorem f102v1.ok (p1 p2 : Int) (p3 : List Edge) {x} (h : (f102v1 p1 p2 p3).run = some x) : Spec Tryz.prog 102 [H Edge 0, V p1, V p2] [O p3] (H Edge 2) [.dead, O x] :=
  Prg.ok Tryz.func102 (res := fun x => H Edge 2) (outs := fun x => [.dead, O x]) (by kernel_rfl) (by kernel_rfl) rfl h

def f101v1 (p1 p2 p3 p4 p5 p6 : Int) (p7 : Bool) (p8 p9 p10 p11 : Int) (p12 : List Vertex) (p13 : List Int) (p14 : List Edge) : Pg (List Edge) :=
cl (f99v1.ok p10 p12 p13 p14) fun y15 =>
cl (f95.ok y15.2) fun _ =>
cl (f102v1.ok y15.1 (IntKind.i64.wrap (y15.1 + 1)) p14) fun y17 =>
.ret (y17)

theorem f101v1.ok (p1 p2 p3 p4 p5 p6 : Int) (p7 : Bool) (p8 p9 p10 p11 : Int) (p12 : List Vertex) (p13 : List Int) (p14 : List Edge) {x} (h : (f101v1 p1 p2 p3 p4 p5 p6 p7 p8 p9 p10 p11 p12 p13 p14).run = some x) : Spec Tryz.prog 101 [R 0, .aggp [.int .i64 p1, .int .i64 p2, .int .i64 p3, .int .i64 p4, .int .i64 p5, .int .i64 p6, .bool p7, .int .i64 p8, .int .i64 p9, .int .i64 p10, .int .i64 p11, .nilsl, .nilsl]] [.var [V p12, H Edge 2, V p13], O p14] (.tup []) [.var [V p12, H Edge 4, V p13], .dead, O x] :=
  Prg.ok Tryz.func101 (res := fun x => .tup []) (outs := fun x => [.var [V p12, H Edge 4, V p13], .dead, O x]) (by kernel_rfl) (by kernel_rfl) rfl h

def f56v1 (p1 p2 p3 p4 p5 p6 : Int) (p7 : Bool) (p8 p9 p10 p11 : Int) (p12 : List Vertex) (p13 : List Int) (p14 : List Edge) : Pg (List Edge) :=
cl (f57.ok) fun y15 =>
lookF y15 p1 101 <|
cl (f101v1.ok p1 p2 p3 p4 p5 p6 p7 p8 p9 p10 p11 p12 p13 p14) fun y16 =>
.ret (y16)

theorem f56v1.ok (p1 p2 p3 p4 p5 p6 : Int) (p7 : Bool) (p8 p9 p10 p11 : Int) (p12 : List Vertex) (p13 : List Int) (p14 : List Edge) {x} (h : (f56v1 p1 p2 p3 p4 p5 p6 p7 p8 p9 p10 p11 p12 p13 p14).run = some x) : Spec Tryz.prog 56 [R 0, R 2] [.varp [.int .i64 p1, .int .i64 p2, .int .i64 p3, .int .i64 p4, .int .i64 p5, .int .i64 p6, .bool p7, .int .i64 p8, .int .i64 p9, .int .i64 p10, .int .i64 p11, .nilsl, .nilsl], mkVar (R 4), .var [V p12, H Edge 6, V p13], O p14] (.tup []) [.varp [.int .i64 p1, .int .i64 p2, .int .i64 p3, .int .i64 p4, .int .i64 p5, .int .i64 p6, .bool p7, .int .i64 p8, .int .i64 p9, .int .i64 p10, .int .i64 p11, .nilsl, .nilsl], mkVar (R 4), .var [V p12, H Edge 8, V p13], .dead, O x] :=
  Prg.ok Tryz.func56 (res := fun x => .tup []) (outs := fun x => [.varp [.int .i64 p1, .int .i64 p2, .int .i64 p3, .int .i64 p4, .int .i64 p5, .int .i64 p6, .bool p7, .int .i64 p8, .int .i64 p9, .int .i64 p10, .int .i64 p11, .nilsl, .nilsl], mkVar (R 4), .var [V p12, H Edge 8, V p13], .dead, O x]) (by kernel_rfl) (by kernel_rfl) rfl h

theorem try_store {w : World} {b : Nat} {x : Bool} (hb : w.heap[b]? = some (.cells #[.bool x] 4 (0, 0))) (y : Bool) : (storeVar 4 ⟨b, 0, none⟩ (.bool y)).run Tryz.prog w = .ok () (w.setRow b #[.bool y]) := by
  have h4 : Tryz.prog.cellsOf 4 = 1 := by kernel_rfl
  refine run_storeVar_part (P := Tryz.prog) hb (y := .bool y) (fun v hv => ?_) (by rw [h4]; rfl) (.inl (by rw [h4]; decide)) (by rw [h4]; simp)
  have : v = .bool y := by simpa [Value.cells] using hv
  subst this; rfl
theorem try_load {w : World} {b : Nat} {x : Bool} (hb : w.heap[b]? = some (.cells #[.bool x] 4 (0, 0))) : (loadVar 4 ⟨b, 0, none⟩).run Tryz.prog w = .ok (.bool x) w := by
  have hc : w.cell? ⟨b, 0, none⟩ = some (.bool x) := by unfold World.cell?; rw [hb]; rfl
  obtain ⟨y, h1, h2, _⟩ := run_loadVar_cells (P := Tryz.prog) (M := ⟨fun _ => .frozen, fun _ => (0, none), [], 0⟩) (w := w) (t := 4) (b := b) (off := 0) (cs := [.bool x]) (x := fun _ => .bool x) (v := .pv (.bool x)) (by kernel_rfl)
    (fun j p h => by
      match j, h with
      | 0, h => exact hc)
    (fun j p h => by
      match j, h with
      | 0, h => cases h; exact .bool x)
  rw [rel_bool h2] at h1
  exact h1

set_option maxHeartbeats 1000000 in
theorem tryDefer {w : World} {b : Nat} {x : Bool} (hb : w.heap[b]? = some (.cells #[.bool x] 4 (0, 0))) :
    CallsD Tryz.prog 91 #[.pointer (some ⟨b, 0, none⟩)] .returning w fun e u' w' => (∃ v, e = .returned v) ∧ u' = .returning ∧ w' = w.setRow b #[.bool true] := by
  refine callsD_of_wpS (fn := Tryz.f91) Tryz.func91 rfl fun c0 cs hm => ?_
  refine wpS_seq (wpS_region ?_)
  show wpOpsS _ _ _ [0, 1] _ _ _
  refine opRSx (w' := w) ⟨#[.pointer (some ⟨b, 0, none⟩), undef, undef, undef, .nilIface, undef, undef, undef, undef, undef, undef, undef, undef, undef, undef, undef, undef, undef, undef], []⟩ rfl rfl (by kernel_rfl) (by simp [recoverD, hm]) (by kernel_rfl) ?_
  refine opVSx (v := .nilIface) (w' := w) ⟨#[.pointer (some ⟨b, 0, none⟩), .nilIface, undef, undef, .nilIface, undef, undef, undef, undef, undef, undef, undef, undef, undef, undef, undef, undef, undef, undef], []⟩ rfl rfl (by kernel_rfl) (by kernel_rfl) ?_
  show Code.wpS _ _ _ _ _ _
  refine wpS_of_wp ?_
  refine wp_seq (wp_seq (wp_region ?_))
  show wpOps _ _ _ [0, 1, 2, 3, 4, 5, 6] _ _
  refine opVx (v := .nilIface) (w' := w) ⟨#[.pointer (some ⟨b, 0, none⟩), .nilIface, undef, undef, .nilIface, undef, .nilIface, undef, undef, undef, undef, undef, undef, undef, undef, undef, undef, undef, undef], []⟩ rfl rfl (by kernel_rfl) (by kernel_rfl) ?_
  refine opVx (v := .tuple #[.int .i64 0, .bool false]) (w' := w) ⟨#[.pointer (some ⟨b, 0, none⟩), .nilIface, undef, undef, .nilIface, undef, .nilIface, .tuple #[.int .i64 0, .bool false], undef, undef, undef, undef, undef, undef, undef, undef, undef, undef, undef], []⟩ rfl rfl (by kernel_rfl) (by kernel_rfl) ?_
  refine opVx (v := .tuple #[.int .i64 0, .bool false]) (w' := w) ⟨#[.pointer (some ⟨b, 0, none⟩), .nilIface, undef, undef, .nilIface, .tuple #[.int .i64 0, .bool false], .nilIface, .tuple #[.int .i64 0, .bool false], undef, undef, undef, undef, undef, undef, undef, undef, undef, undef, undef], []⟩ rfl rfl (by kernel_rfl) (by kernel_rfl) ?_
  refine opVx (v := .int .i64 0) (w' := w) ⟨#[.pointer (some ⟨b, 0, none⟩), .nilIface, undef, undef, .nilIface, .tuple #[.int .i64 0, .bool false], .nilIface, .tuple #[.int .i64 0, .bool false], .int .i64 0, undef, undef, undef, undef, undef, undef, undef, undef, undef, undef], []⟩ rfl rfl (by kernel_rfl) (by kernel_rfl) ?_
  refine opVx (v := .bool false) (w' := w) ⟨#[.pointer (some ⟨b, 0, none⟩), .nilIface, undef, undef, .nilIface, .tuple #[.int .i64 0, .bool false], .nilIface, .tuple #[.int .i64 0, .bool false], .int .i64 0, .bool false, undef, undef, undef, undef, undef, undef, undef, undef, undef], []⟩ rfl rfl (by kernel_rfl) (by kernel_rfl) ?_
  refine opVx (v := .int .i64 0) (w' := w) ⟨#[.pointer (some ⟨b, 0, none⟩), .nilIface, .int .i64 0, undef, .nilIface, .tuple #[.int .i64 0, .bool false], .nilIface, .tuple #[.int .i64 0, .bool false], .int .i64 0, .bool false, undef, undef, undef, undef, undef, undef, undef, undef, undef], []⟩ rfl rfl (by kernel_rfl) (by kernel_rfl) ?_
  refine opVx (v := .bool false) (w' := w) ⟨#[.pointer (some ⟨b, 0, none⟩), .nilIface, .int .i64 0, .bool false, .nilIface, .tuple #[.int .i64 0, .bool false], .nilIface, .tuple #[.int .i64 0, .bool false], .int .i64 0, .bool false, undef, undef, undef, undef, undef, undef, undef, undef, undef], []⟩ rfl rfl (by kernel_rfl) (by kernel_rfl) ?_
  show Code.wp _ _ _ _ _
  refine wp_seq (wp_region ?_)
  show wpOps _ _ _ [0, 1, 2, 3, 4, 5] _ _
  refine opVx (v := .nilIface) (w' := w) ⟨#[.pointer (some ⟨b, 0, none⟩), .nilIface, .int .i64 0, .bool false, .nilIface, .tuple #[.int .i64 0, .bool false], .nilIface, .tuple #[.int .i64 0, .bool false], .int .i64 0, .bool false, .nilIface, undef, undef, undef, undef, undef, undef, undef, undef], []⟩ rfl rfl (by kernel_rfl) (by kernel_rfl) ?_
  refine opVx (v := .bool false) (w' := w) ⟨#[.pointer (some ⟨b, 0, none⟩), .nilIface, .int .i64 0, .bool false, .nilIface, .tuple #[.int .i64 0, .bool false], .nilIface, .tuple #[.int .i64 0, .bool false], .int .i64 0, .bool false, .nilIface, .bool false, undef, undef, undef, undef, undef, undef, undef], []⟩ rfl rfl (by kernel_rfl) (by kernel_rfl) ?_
  refine opVx (v := .bool false) (w' := w) ⟨#[.pointer (some ⟨b, 0, none⟩), .nilIface, .int .i64 0, .bool false, .nilIface, .tuple #[.int .i64 0, .bool false], .nilIface, .tuple #[.int .i64 0, .bool false], .int .i64 0, .bool false, .nilIface, .bool false, .bool false, undef, undef, undef, undef, undef, undef], []⟩ rfl rfl (by kernel_rfl) (by kernel_rfl) ?_
  refine opSkx ⟨#[.pointer (some ⟨b, 0, none⟩), .nilIface, .int .i64 0, .bool false, .nilIface, .tuple #[.int .i64 0, .bool false], .nilIface, .tuple #[.int .i64 0, .bool false], .int .i64 0, .bool false, .nilIface, .bool false, .bool false, undef, undef, undef, undef, undef, undef], []⟩ rfl (by kernel_rfl) (by kernel_rfl) ?_
  refine opSkx ⟨#[.pointer (some ⟨b, 0, none⟩), .nilIface, .int .i64 0, .bool false, .nilIface, .tuple #[.int .i64 0, .bool false], .nilIface, .tuple #[.int .i64 0, .bool false], .int .i64 0, .bool false, .nilIface, .bool false, .bool false, undef, undef, undef, undef, undef, undef], []⟩ rfl (by kernel_rfl) (by kernel_rfl) ?_
  refine opVx (v := .bool false) (w' := w) ⟨#[.pointer (some ⟨b, 0, none⟩), .nilIface, .int .i64 0, .bool false, .nilIface, .tuple #[.int .i64 0, .bool false], .nilIface, .tuple #[.int .i64 0, .bool false], .int .i64 0, .bool false, .nilIface, .bool false, .bool false, undef, undef, .bool false, undef, undef, undef], []⟩ rfl rfl (by kernel_rfl) (by kernel_rfl) ?_
  show Code.wp _ _ _ _ _
  refine wp_cond_false (by kernel_rfl) (wp_skip ?_)
  show Code.wp _ _ _ _ _
  refine wp_region ?_
  show wpOps _ _ _ [0, 1, 2] _ _
  refine opVx (v := .nilIface) (w' := w) ⟨#[.pointer (some ⟨b, 0, none⟩), .nilIface, .int .i64 0, .bool false, .nilIface, .tuple #[.int .i64 0, .bool false], .nilIface, .tuple #[.int .i64 0, .bool false], .int .i64 0, .bool false, .nilIface, .bool false, .bool false, undef, undef, .bool false, undef, .nilIface, undef], []⟩ rfl rfl (by kernel_rfl) (by kernel_rfl) ?_
  refine opVx (v := .bool true) (w' := w) ⟨#[.pointer (some ⟨b, 0, none⟩), .nilIface, .int .i64 0, .bool false, .nilIface, .tuple #[.int .i64 0, .bool false], .nilIface, .tuple #[.int .i64 0, .bool false], .int .i64 0, .bool false, .nilIface, .bool false, .bool false, undef, undef, .bool false, undef, .nilIface, .bool true], []⟩ rfl rfl (by kernel_rfl) (by kernel_rfl) ?_
  refine opS rfl rfl (w' := w.setRow b #[.bool true]) ?_ ?_
  · simp [execOp, Instr.storeAt, Instr.sureAddr, Act.eval, try_store hb]
  exact ⟨rfl, .returning, by rw [← hm], .tuple #[], by kernel_rfl, ⟨_, rfl⟩, rfl, rfl⟩


set_option maxHeartbeats 1000000 in
theorem tryOk56 {caps : List AV} {ext outs : List AObj} {r : AV} (h : Spec Tryz.prog 56 caps ext r outs) : Spec Tryz.prog 55 [.clo 56 caps] ext (.pv (.bool true)) outs := by
  intro M w vs hsz hrel hext hn1 hn2
  obtain ⟨v, rfl⟩ : ∃ v, vs = #[v] := by
    match vs, hsz with
    | ⟨[v]⟩, _ => exact ⟨v, rfl⟩
  have hv := hrel 0 v (.clo 56 caps) rfl rfl
  cases hv with | clo _ cv _ h1 h2 =>
  refine calls_of_wp_defers (fn := Tryz.f55) Tryz.func55 rfl ?_
  refine wp_seq (wp_region ?_)
  show wpOps _ _ _ [0] _ _
  refine opV rfl rfl (v := .pointer (some ⟨w.heap.size, 0, none⟩)) (w' := w.alloc (.cells #[.bool false] 4)) (by kernel_rfl) ?_
  show Code.wp _ _ _ _ _
  refine wp_seq (wp_region ?_)
  show wpOps _ _ _ [0, 1] _ _
  refine opV rfl rfl (v := .func (.func 91) #[] #[.pointer (some ⟨w.heap.size, 0, none⟩)]) (w' := w.alloc (.cells #[.bool false] 4)) (by kernel_rfl) ?_
  refine opD rfl rfl (d := ⟨.fn (.func 91) #[.pointer (some ⟨w.heap.size, 0, none⟩)], #[]⟩) (w' := w.alloc (.cells #[.bool false] 4)) (by kernel_rfl) ?_
  show Code.wp _ _ _ _ _
  refine wp_seq (wp_region ?_)
  show wpOps _ _ _ [0, 1] _ _
  refine opV rfl rfl (v := .func (.func 56) #[] cv) (w' := w.alloc (.cells #[.bool false] 4)) (by kernel_rfl) ?_
  have E1 : Ext M w ⟨updN M.κ w.heap.size .outer, M.β, M.φ, M.F0⟩ (w.alloc (.cells #[.bool false] 4)) := Ext.fresh .outer _
  have hcn : ∀ x ∈ caps, ∀ n ∈ x.nms, evenBelow ext.length n := fun x hx n hn => hn1 _ (List.mem_singleton.2 rfl) n (by simp only [AV.nms]; exact nmsL_mem hx hn)
  have hc := h ⟨updN M.κ w.heap.size .outer, M.β, M.φ, M.F0⟩ (w.alloc (.cells #[.bool false] 4)) cv h1 (fun i v x e1 e2 => (h2 i v x e1 e2).mono E1 fun _ _ => rfl)
    (fun k o ho => (hext k o ho).mono E1 rfl (fun _ _ => rfl) fun b hb _ => ⟨updN_ne _ _ (by omega), RowKit.Below.heap_alloc w _ b hb⟩) hcn hn2
  refine opC rfl rfl (f := 56) (args := #[] ++ cv) (w' := w.alloc (.cells #[.bool false] 4)) (by kernel_rfl) (by rw [Array.empty_append]; exact hc) fun e w2 hR => ?_
  obtain ⟨v2, M2, rfl, E2, hr, ho, hβ, hnr, hno, hle⟩ := hR
  refine ⟨v2, rfl, ?_⟩
  have hlt : w.heap.size < (w.alloc (.cells #[.bool false] 4)).heap.size := by show _ < (w.heap.push _).size; simp
  have hk2 : M2.κ w.heap.size = .outer := E2.out _ hlt (updN_self _ _ _)
  have hb2 : w2.heap[w.heap.size]? = some (.cells #[.bool false] 4 (0, 0)) :=
    (E2.keep _ hlt (by intro n; rw [show Mm.κ _ _ = Cls.outer from updN_self _ _ _]; intro e; cases e)).trans (new_block w _)
  generalize hbk : w.heap.size = b at *
  show Code.wp _ _ _ _ _
  refine wp_seq (wp_region ?_)
  show wpOps _ _ _ [0] _ _
  refine opS rfl rfl (w' := w2.setRow b #[.bool true]) ?_ ?_
  · simp [execOp, Instr.storeAt, Instr.sureAddr, Act.eval, Act.put, try_store hb2]
  show Code.wp _ _ _ _ _
  refine wp_ret ?_
  have hb3 : (w2.setRow b #[.bool true]).heap[b]? = some (.cells #[.bool true] 4 (0, 0)) := setRow_heap _ _ _ _ _ _ hb2
  show Leaves _ _ _ _ [⟨.fn (.func 91) #[.pointer (some ⟨b, 0, none⟩)], #[]⟩] .returning _
  refine leaves_cons (f := 91) (args := #[.pointer (some ⟨b, 0, none⟩)]) (by simp) (by kernel_rfl) ?_
  refine CallsD.mono (tryDefer hb3) fun e u' w4 hR => ?_
  obtain ⟨⟨v4, rfl⟩, rfl, rfl⟩ := hR
  have hb4 : ((w2.setRow b #[.bool true]).setRow b #[.bool true]).heap[b]? = some (.cells #[.bool true] 4 (0, 0)) := setRow_heap _ _ _ _ _ _ hb3
  show Leaves _ _ _ _ [] .returning _
  refine ⟨.bool true, ?_, ?_⟩
  · simp [results, Act.put, asAddr, try_load hb4]
  have hn4 : ∀ k, k ≠ b → ((w2.setRow b #[.bool true]).setRow b #[.bool true]).heap[k]? = w2.heap[k]? := fun k hk => by rw [setRow_other _ _ _ _ hk, setRow_other _ _ _ _ hk]
  have L : Lft M2 w2 M2 ((w2.setRow b #[.bool true]).setRow b #[.bool true]) := Lft.outer hk2 hb2 hb4 rfl hn4
  have E := E1.trans E2
  refine ⟨.bool true, M2, rfl, ?_, .pv _ _ (.bool true), fun k o hk => ORel.outer L hk2 hn4 (ho k o hk), fun k hk => hβ k hk, by simp [AV.nms], hno, hle⟩
  exact ⟨E.os, E.tape, E.output, by have := E.size; simpa using this, fun k hk hk' => by rw [hn4 k (by omega)]; exact E.keep k hk hk', E.fro, E.out, fun k c T fr hh => by
    obtain ⟨c', g1, g2⟩ := E.shp k c T fr hh
    exact ⟨c', by rw [hn4 k (by have := heap_lt hh; omega)]; exact g1, g2⟩, E.fam, E.low, E.f0⟩

def f55v1 (p1 p2 p3 p4 p5 p6 : Int) (p7 : Bool) (p8 p9 p10 p11 : Int) (p12 : List Vertex) (p13 : List Int) (p14 : List Edge) : Pg (List Edge) := f56v1 p1 p2 p3 p4 p5 p6 p7 p8 p9 p10 p11 p12 p13 p14
theorem f55v1.ok (p1 p2 p3 p4 p5 p6 : Int) (p7 : Bool) (p8 p9 p10 p11 : Int) (p12 : List Vertex) (p13 : List Int) (p14 : List Edge) {x} (h : (f55v1 p1 p2 p3 p4 p5 p6 p7 p8 p9 p10 p11 p12 p13 p14).run = some x) : Spec Tryz.prog 55 [.clo 56 [R 0, R 2]] [.varp [.int .i64 p1, .int .i64 p2, .int .i64 p3, .int .i64 p4, .int .i64 p5, .int .i64 p6, .bool p7, .int .i64 p8, .int .i64 p9, .int .i64 p10, .int .i64 p11, .nilsl, .nilsl], mkVar (R 4), .var [V p12, H Edge 6, V p13], O p14] (.pv (.bool true)) [.varp [.int .i64 p1, .int .i64 p2, .int .i64 p3, .int .i64 p4, .int .i64 p5, .int .i64 p6, .bool p7, .int .i64 p8, .int .i64 p9, .int .i64 p10, .int .i64 p11, .nilsl, .nilsl], mkVar (R 4), .var [V p12, H Edge 8, V p13], .dead, O x] :=
  tryOk56 (f56v1.ok p1 p2 p3 p4 p5 p6 p7 p8 p9 p10 p11 p12 p13 p14 h)

def f17 (p1 : Graph) (p2 p3 p4 p5 p6 p7 : Int) (p8 : Bool) (p9 p10 p11 p12 : Int) : Pg (Graph × Int) :=
join1 (.reg 1) (
cl (f46v1.ok p1) fun y14 =>
brr (!y14) (
retA' true) (
cl (f52.ok p2 p3 p4 p5 p6 p7 p8 p9 p10 p11 p12) fun y15 =>
retA' (!y15))) (.cut .nat fun x16 => ([(2, R 101), (3, R 103), (4, R 105), (14, V x16)], [(101, B p1), (103, .varp [.int .i64 p2, .int .i64 p3, .int .i64 p4, .int .i64 p5, .int .i64 p6, .int .i64 p7, .bool p8, .int .i64 p9, .int .i64 p10, .int .i64 p11, .int .i64 p12, .nilsl, .nilsl]), (105, .varp [.nilsl, .nilsl, .nilsl])])) fun x16 =>
brr x16 (
.ret (((Graph.mk [] [] []), (30 : Int)))) (
cl (f53.ok p1.Vertices) fun y17 =>
cl (f54v1.ok p1.Edges) fun y18 =>
cl (f51.ok p1.Depots) fun y19 =>
cl (f55v1.ok p2 p3 p4 p5 p6 p7 p8 p9 p10 p11 p12 y17 y19 y18) fun y20 =>
brr (!true) (
.ret (((Graph.mk [] [] []), (30 : Int)))) (
.ret (((Graph.mk y17 y20 y19), (0 : Int)))))

theorem f17.ok (p1 : Graph) (p2 p3 p4 p5 p6 p7 : Int) (p8 : Bool) (p9 p10 p11 p12 : Int) {x} (h : (f17 p1 p2 p3 p4 p5 p6 p7 p8 p9 p10 p11 p12).run = some x) : Spec Tryz.prog 17 [V p1, .aggp [.int .i64 p2, .int .i64 p3, .int .i64 p4, .int .i64 p5, .int .i64 p6, .int .i64 p7, .bool p8, .int .i64 p9, .int .i64 p10, .int .i64 p11, .int .i64 p12, .nilsl, .nilsl]] [] (.tup [V x.1, V x.2]) [] :=
  Prg.ok Tryz.func17 (res := fun x => .tup [V x.1, V x.2]) (outs := fun x => []) (by kernel_rfl) (by kernel_rfl) rfl h

def f5.l2 (p4 : List Int) (p5 p6 : Int) (y7 : Bool) (y8 : Graph) (y9 : (List Named) × Int) (x24 : List Vertex) (v37 : Int) (l38 : List Edge) : Pg (Nx (Int × (List Edge)) (Ex (List Edge) Empty Empty)) :=
brr ((decide (v37 < (L l38 : Int))) && (decide (v37 < (L p4 : Int)))) (
ck v37 (L l38) <|
rd l38 (at0 v37) fun a39 =>
getR p4 v37 fun a40 =>
cl (f22.ok a40 (9 : Int)) fun y41 =>
ck v37 (L l38) <|
st l38 (at0 v37) (fun x42 => (Edge.mk x42.ID x42.From x42.To x42.Directed x42.Weight y41)) fun l43 =>
join1 (.reg 20) (
brr (!a39.Directed) (
retA' true) (
brr (a39.From == a39.To) (
retA' true) (
cl (f23v2.ok a39.From x24 l43) fun y44 =>
brr (!y44) (
retA' true) (
cl (f23v2.ok a39.To x24 l43) fun y45 =>
retA' (!y45))))) (.cut .nat fun x46 => ([(3, V p4), (4, V p5), (5, V p6), (13, V y7), (14, R 101), (15, V y9.1), (17, R 103), (19, V v37), (133, V x46)], [(101, B y8), (103, .var [H Vertex 105, H Edge 107, .pv .nilsl]), (105, O x24), (107, O l43)])) fun x46 =>
brr x46 (
getR p4 v37 fun a47 =>
cl (f22.ok a47 (50 : Int)) fun y48 =>
ck v37 (L l43) <|
st l43 (at0 v37) (fun x49 => (Edge.mk x49.ID x49.From x49.To x49.Directed y48 x49.Cap)) fun l50 =>
cont ((IntKind.i64.wrap (v37 + 1)), l50)) (
cont ((IntKind.i64.wrap (v37 + 1)), l43))) (
doneA l38)

def f5.l1 (p4 : List Int) (v16 : Int) (l17 : List Vertex) : Pg (Nx (Int × (List Vertex)) (Ex (List Vertex) Empty Empty)) :=
brr ((decide (v16 < (L l17 : Int))) && (decide (v16 < (L p4 : Int)))) (
ck v16 (L l17) <|
rd l17 (at0 v16) fun a18 =>
brr (a18.Side != 3) (
getR p4 v16 fun a19 =>
cl (f22.ok a19 (3 : Int)) fun y20 =>
ck v16 (L l17) <|
st l17 (at0 v16) (fun x21 => (Vertex.mk x21.ID y20)) fun l22 =>
cont ((IntKind.i64.wrap (v16 + 1)), l22)) (
cont ((IntKind.i64.wrap (v16 + 1)), l17))) (
doneA l17)

def f5 (p1 : Int) (p2 : List A5_Int) (p3 : Int) (p4 : List Int) (p5 p6 : Int) : Pg Bool :=
cl (f6.ok) fun y7 =>
brr (!y7) (
.ret (false)) (
cl (f7.ok p1 p2 false p3) fun y8 =>
cl (f16v1.ok y8) fun y9 =>
brr (y9.2 != 0) (
.ret (false)) (
cl (f21v2.ok y8) fun y10 =>
loop1 ((0 : Int), y10.2.1) (fun s23 => f5.l1 p4 s23.1 s23.2) (fun s23 => ([(3, V p4), (4, V p5), (5, V p6), (13, V y7), (14, R 101), (15, V y9.1), (17, R 103), (18, V s23.1)], [(101, B y8), (103, .var [H Vertex 105, H Edge 107, .pv .nilsl]), (105, O s23.2), (107, O y10.2.2)])) (.cut (.ext 0) fun x24 => ([(3, V p4), (4, V p5), (5, V p6), (13, V y7), (14, R 101), (15, V y9.1), (17, R 103)], [(101, B y8), (103, .var [H Vertex 105, H Edge 107, .pv .nilsl]), (105, O x24), (107, O y10.2.2)])) fun x24 =>
loop1 ((0 : Int), y10.2.2) (fun s51 => f5.l2 p4 p5 p6 y7 y8 y9 x24 s51.1 s51.2) (fun s51 => ([(3, V p4), (4, V p5), (5, V p6), (13, V y7), (14, R 101), (15, V y9.1), (17, R 103), (19, V s51.1)], [(101, B y8), (103, .var [H Vertex 105, H Edge 107, .pv .nilsl]), (105, O x24), (107, O s51.2)])) (.cut (.ext 2) fun x52 => ([(4, V p5), (5, V p6), (13, V y7), (14, R 101), (15, V y9.1), (17, R 103)], [(101, B y8), (103, .var [H Vertex 105, H Edge 107, .pv .nilsl]), (105, O x24), (107, O x52)])) fun x52 =>
cl (f16.ok x24 x52) fun y53 =>
join1 (.reg 23) (
brr (y53.2 != 0) (
retA' true) (
cl (f24.ok y9.1 y53.1) fun y54 =>
retA' (!y54))) (.cut .nat fun x55 => ([(4, V p5), (5, V p6), (13, V y7), (14, R 101), (15, V y9.1), (156, V x55)], [(101, B y8)])) fun x55 =>
brr x55 (
.ret (false)) (
cl (f22.ok p5 (L y8.Vertices : Int)) fun y56 =>
getR y8.Vertices y56 fun a57 =>
cl (f25.ok y8 a57.ID) fun y58 =>
cl (f26.ok y8) fun y59 =>
brr (!y59.2.2) (
.ret (false)) (
cl (f23.ok y8 a57.ID) fun y60 =>
brr ((!y60) || ((L y58 : Int) == 0)) (
.ret (y7)) (
cl (f22.ok p6 (L y58 : Int)) fun y61 =>
getR y58 y61 fun a62 =>
ck a57.ID 24 <|
rd y59.1 a57.ID.toNat fun a63 =>
cl (f27v1.ok y8 a57.ID a62.ID a63) fun y64 =>
brr (y64.2 != 0) (
.ret (false)) (
join1 (.reg 36) (
brr y64.1 (
retA' true) (
ck a57.ID 24 <|
rd y59.1 a57.ID.toNat fun a65 =>
retA' (a62.ID == a65))) (.cut .nat fun x66 => ([(13, V y7), (14, R 101), (15, V y9.1), (28, V a62.ID), (215, V x66)], [(101, B y8)])) fun x66 =>
brr x66 (
.ret (y7)) (
cl (f17.ok y8 (4 : Int) (0 : Int) (0 : Int) (0 : Int) (0 : Int) (0 : Int) false (0 : Int) (0 : Int) a62.ID (0 : Int)) fun y67 =>
cl (f16v1.ok y67.1) fun y68 =>
brr ((y7 && (y67.2 == 0)) && (y68.2 == 0)) (
cl (f24.ok y68.1 y9.1) fun y69 =>
.ret (y69)) (
.ret (false)))))))))

theorem f5.ok (p1 : Int) (p2 : List A5_Int) (p3 : Int) (p4 : List Int) (p5 p6 : Int) {x} (h : (f5 p1 p2 p3 p4 p5 p6).run = some x) : Spec Tryz.prog 5 [V p1, V p2, V p3, V p4, V p5, V p6] [] (V x) [] :=
  Prg.ok Tryz.func5 (res := fun x => V x) (outs := fun x => []) (by kernel_rfl) (by kernel_rfl) rfl h

end Go.Fx.Gen
