/- Plain programs, and the proofs that the code computes them; printed by a program of our own. -/
import Derived.Test.YtiecopfelbfkiaaGreatFxZ
import Derived.Test.YtiecopfelbfkiaaGreatFxY
import Derived.Test.YtiecopfelbfkiaaGreatProg
set_option linter.unusedVariables false
set_option maxRecDepth 100000
namespace Go.Fx.Gen
open Go.Proofs Go.Fx
abbrev Pg := Prg Tryz.prog

structure A5_Int where
  x0 : Int
  x1 : Int
  x2 : Int
  x3 : Int
  x4 : Int

instance : Cel A5_Int := ⟨fun v => [.int .i64 v.x0, .int .i64 v.x1, .int .i64 v.x2, .int .i64 v.x3, .int .i64 v.x4], 5, fun _ => rfl⟩
instance : Val A5_Int := ⟨fun v => .aggp (Cel.enc v)⟩

structure Vertex where
  ID : Int
  Side : Int

instance : Cel Vertex := ⟨fun v => [.int .i64 v.ID, .int .i64 v.Side], 2, fun _ => rfl⟩
instance : Val Vertex := ⟨fun v => .aggp (Cel.enc v)⟩

structure Edge where
  ID : Int
  From : Int
  To : Int
  Directed : Bool
  Weight : Int
  Cap : Int

instance : Cel Edge := ⟨fun v => [.int .i64 v.ID, .int .i64 v.From, .int .i64 v.To, .bool v.Directed, .int .i64 v.Weight, .int .i64 v.Cap], 6, fun _ => rfl⟩
instance : Val Edge := ⟨fun v => .aggp (Cel.enc v)⟩

structure Named where
  ID : Int
  Label : List Int

instance : Cel Named := ⟨fun v => [.int .i64 v.ID, .sl (v.Label.map Cel.enc)], 2, fun _ => rfl⟩
instance : Val Named := ⟨fun v => .aggp (Cel.enc v)⟩

structure View where
  Vertex : Vertex
  Depots : List Int
  Edges : List Edge
  Labels : List Named

instance : Cel View := ⟨fun v => [.int .i64 v.Vertex.ID, .int .i64 v.Vertex.Side, .sl (v.Depots.map Cel.enc), .sl (v.Edges.map Cel.enc), .sl (v.Labels.map Cel.enc)], 5, fun _ => rfl⟩
instance : Val View := ⟨fun v => .aggp (Cel.enc v)⟩

structure A3_Int where
  x0 : Int
  x1 : Int
  x2 : Int

instance : Cel A3_Int := ⟨fun v => [.int .i64 v.x0, .int .i64 v.x1, .int .i64 v.x2], 3, fun _ => rfl⟩
instance : Val A3_Int := ⟨fun v => .aggp (Cel.enc v)⟩

structure NamedR where
  ID : Int
  Label : Ref
instance [Fm] : Cel NamedR := ⟨fun v => [.int .i64 v.ID, .fh Fm.f v.Label.i v.Label.off v.Label.len 1], 2, fun _ => rfl⟩

/-- The labels, with the members that they lead to. -/
def named1 (M : List (List Int)) (x : NamedR) : Option Named := (M[x.Label.i]?).bind fun l => if x.Label.off + x.Label.len ≤ l.length then some ⟨x.ID, (l.drop x.Label.off).take x.Label.len⟩ else none
def named (M : List (List Int)) (o : List NamedR) : Option (List Named) := o.mapM (named1 M)

theorem mapM_get' {α β : Type} {f : α → Option β} : ∀ {l : List α} {r : List β}, l.mapM f = some r → r.length = l.length ∧ ∀ (i : Nat) (x : α) (y : β), l[i]? = some x → r[i]? = some y → f x = some y
  | [], r, h => by rw [List.mapM_nil] at h; cases h; simp
  | a :: l, r, h => by
    rw [List.mapM_cons] at h
    simp only [bind, Option.bind_eq_some_iff, pure, Option.some.injEq] at h
    obtain ⟨b, h1, c, h2, rfl⟩ := h
    obtain ⟨g1, g2⟩ := mapM_get' h2
    refine ⟨by simp [g1], fun i x y hx hy => ?_⟩
    cases i with
    | zero => simp at hx hy; subst hx; subst hy; exact h1
    | succ i => exact g2 i x y (by simpa using hx) (by simpa using hy)

theorem named_tell [Fm] {M : List (List Int)} {o : List NamedR} {y : List Named} (h : named M o = some y) : TellO Fm.f 1 (M.map (List.map Cel.enc)) (O o) (O y) := by
  obtain ⟨g1, g2⟩ := mapM_get' h
  have key : ∀ (i : Nat) (x : NamedR) (z : Named), o[i]? = some x → y[i]? = some z → ∃ l, M[x.Label.i]? = some l ∧ x.Label.off + x.Label.len ≤ l.length ∧ z = ⟨x.ID, (l.drop x.Label.off).take x.Label.len⟩ := by
    intro i x z hx hz
    have := g2 i x z hx hz
    unfold named1 at this
    rw [Option.bind_eq_some_iff] at this
    obtain ⟨l, h1, h2⟩ := this
    split at h2
    · cases h2; exact ⟨l, h1, by assumption, rfl⟩
    · cases h2
  refine .sl false 2 _ _ ⟨by simp [g1], fun i r r' h1 h2 => ?_, fun i r r' j p p' h1 h2 h3 h4 => ?_⟩
  · rw [List.getElem?_map, Option.map_eq_some_iff] at h1 h2
    obtain ⟨x, _, rfl⟩ := h1
    obtain ⟨z, _, rfl⟩ := h2
    rfl
  · rw [List.getElem?_map, Option.map_eq_some_iff] at h1 h2
    obtain ⟨x, hx, rfl⟩ := h1
    obtain ⟨z, hz, rfl⟩ := h2
    obtain ⟨l, k1, k2, rfl⟩ := key i x z hx hz
    match j with
    | 0 => simp [Cel.enc] at h3 h4; subst h3; subst h4; exact .same _
    | 1 =>
      simp only [Cel.enc, List.getElem?_cons_succ, List.getElem?_cons_zero, Option.some.injEq] at h3 h4
      subst h3; subst h4
      have := Tell.fh (f := Fm.f) (sz := 1) (mem := M.map (List.map Cel.enc)) x.Label.i x.Label.off x.Label.len (l.map Cel.enc) (mem_ok k1) (by rw [List.length_map]; exact k2)
      rw [cut_map] at this
      exact this
    | j + 2 => simp [Cel.enc] at h3

/-- The end: the labels are told as data. -/
def tellN [Fm] {β : Type} (m : Nat) (M : List (List Int)) (o : List NamedR) (k : List Named → Pg β) : Pg β :=
  .tell (named M o) m Fm.f 1 (M.map (List.map Cel.enc)) (O o) (fun y => O y) (fun _ h => named_tell h) k
theorem r_tellN [Fm] {β : Type} {m : Nat} {M : List (List Int)} {o : List NamedR} {k : List Named → Pg β} : (tellN m M o k).run = bd (named M o) fun y => (k y).run := rfl
theorem tellN_s [Fm] {β : Type} {m : Nat} {M : List (List Int)} {o : List NamedR} {y : List Named} (h : named M o = some y) {k : List Named → Pg β} : (tellN m M o k).run = (k y).run := by
  show bd (named M o) _ = _
  rw [h]; rfl


structure Graph where
  Vertices : List Vertex
  Edges : List Edge
  Depots : List Int

instance : Cel Graph := ⟨fun v => [.sl (v.Vertices.map Cel.enc), .sl (v.Edges.map Cel.enc), .sl (v.Depots.map Cel.enc)], 3, fun _ => rfl⟩
instance : Val Graph := ⟨fun v => .aggp (Cel.enc v)⟩

structure Graph_change where
  Graph : Graph

instance : Cel Graph_change := ⟨fun v => [.sl (v.Graph.Vertices.map Cel.enc), .sl (v.Graph.Edges.map Cel.enc), .sl (v.Graph.Depots.map Cel.enc)], 3, fun _ => rfl⟩
instance : Val Graph_change := ⟨fun v => .aggp (Cel.enc v)⟩

noncomputable def f15 : Pg Unit :=
.ret (())

theorem f15.ok {x} (h : (f15).run = some x) : Spec Tryz.prog 15 [] [] (.aggp [.sl (([(Vertex.mk 0 0), (Vertex.mk 1 0), (Vertex.mk 2 0), (Vertex.mk 3 0), (Vertex.mk 5 0)] : List Vertex).map Cel.enc), .sl (([(Edge.mk 0 2 1 false 0 0), (Edge.mk 4 1 3 false 0 0), (Edge.mk 6 3 2 false 0 0), (Edge.mk 7 5 5 false 0 0)] : List Edge).map Cel.enc), .nilsl]) [] :=
  Prg.ok Tryz.func15 (res := fun x => .aggp [.sl (([(Vertex.mk 0 0), (Vertex.mk 1 0), (Vertex.mk 2 0), (Vertex.mk 3 0), (Vertex.mk 5 0)] : List Vertex).map Cel.enc), .sl (([(Edge.mk 0 2 1 false 0 0), (Edge.mk 4 1 3 false 0 0), (Edge.mk 6 3 2 false 0 0), (Edge.mk 7 5 5 false 0 0)] : List Edge).map Cel.enc), .nilsl]) (outs := fun x => []) (by kernel_rfl) (by kernel_rfl) rfl h

noncomputable def f47 (p1 : Vertex) : Pg Unit :=
.ret (())

theorem f47.ok (p1 : Vertex) {x} (h : (f47 p1).run = some x) : Spec Tryz.prog 47 [V p1] [] (V p1.ID) [] :=
  Prg.ok Tryz.func47 (res := fun x => V p1.ID) (outs := fun x => []) (by kernel_rfl) (by kernel_rfl) rfl h

noncomputable def f46.l1 (p1 : List Vertex) (v6 : Int) : Pg (Nx Int (Ex (Bool) Unit Empty)) :=
brr (decide (v6 < (L p1 : Int))) (
getR p1 (IntKind.i64.wrap (v6 - 1)) fun a7 =>
cl (f47.ok a7) fun _ =>
getR p1 v6 fun a9 =>
cl (f47.ok a9) fun _ =>
brr (decide (a7.ID ≥ a9.ID)) (
doneA (false)) (
cont (IntKind.i64.wrap (v6 + 1)))) (
doneB ())

noncomputable def f46 (p1 : List Vertex) : Pg Bool :=
loop2 (1 : Int) (fun s11 => f46.l1 p1 s11) (fun s11 => ([(0, V p1), (1, .clo 47 []), (5, V s11)], [])) .inl (fun r12 =>
.ret r12) (.cut (.ext 0) fun _ => ([], [])) fun _ =>
.ret (true)

theorem f46.ok (p1 : List Vertex) {x} (h : (f46 p1).run = some x) : Spec Tryz.prog 46 [V p1, .clo 47 []] [] (V x) [] :=
  Prg.ok Tryz.func46 (res := fun x => V x) (outs := fun x => []) (by kernel_rfl) (by kernel_rfl) rfl h

noncomputable def f49 (p1 : Edge) : Pg Unit :=
.ret (())

theorem f49.ok (p1 : Edge) {x} (h : (f49 p1).run = some x) : Spec Tryz.prog 49 [V p1] [] (V p1.ID) [] :=
  Prg.ok Tryz.func49 (res := fun x => V p1.ID) (outs := fun x => []) (by kernel_rfl) (by kernel_rfl) rfl h

noncomputable def f48.l1 (p1 : List Edge) (v6 : Int) : Pg (Nx Int (Ex (Bool) Unit Empty)) :=
brr (decide (v6 < (L p1 : Int))) (
getR p1 (IntKind.i64.wrap (v6 - 1)) fun a7 =>
cl (f49.ok a7) fun _ =>
getR p1 v6 fun a9 =>
cl (f49.ok a9) fun _ =>
brr (decide (a7.ID ≥ a9.ID)) (
doneA (false)) (
cont (IntKind.i64.wrap (v6 + 1)))) (
doneB ())

noncomputable def f48 (p1 : List Edge) : Pg Bool :=
loop2 (1 : Int) (fun s11 => f48.l1 p1 s11) (fun s11 => ([(0, V p1), (1, .clo 49 []), (5, V s11)], [])) .inl (fun r12 =>
.ret r12) (.cut (.ext 0) fun _ => ([], [])) fun _ =>
.ret (true)

theorem f48.ok (p1 : List Edge) {x} (h : (f48 p1).run = some x) : Spec Tryz.prog 48 [V p1, .clo 49 []] [] (V x) [] :=
  Prg.ok Tryz.func48 (res := fun x => V x) (outs := fun x => []) (by kernel_rfl) (by kernel_rfl) rfl h

noncomputable def f70 (p1 p2 p3 : Int) : Pg Unit :=
.ret (())

theorem f70.ok (p1 p2 p3 : Int) {x} (h : (f70 p1 p2 p3).run = some x) : Spec Tryz.prog 70 [V p1, V p2, V p3] [] (V ((decide (p2 ≤ p1)) && (decide (p1 ≤ p3)))) [] :=
  Prg.ok Tryz.func70 (res := fun x => V ((decide (p2 ≤ p1)) && (decide (p1 ≤ p3)))) (outs := fun x => []) (by kernel_rfl) (by kernel_rfl) rfl h

noncomputable def f55 (p1 : Vertex) : Pg Bool :=
cl (f70.ok p1.ID (0 : Int) (23 : Int)) fun _ =>
brr ((decide ((0 : Int) ≤ p1.ID)) && (decide (p1.ID ≤ (23 : Int)))) (
cl (f70.ok p1.Side (0 : Int) (3 : Int)) fun _ =>
.ret (((decide ((0 : Int) ≤ p1.Side)) && (decide (p1.Side ≤ (3 : Int)))))) (
.ret (false))

theorem f55.ok (p1 : Vertex) {x} (h : (f55 p1).run = some x) : Spec Tryz.prog 55 [V p1] [] (V x) [] :=
  Prg.ok Tryz.func55 (res := fun x => V x) (outs := fun x => []) (by kernel_rfl) (by kernel_rfl) rfl h

noncomputable def f54 (p1 : Vertex) : Pg Bool :=
cl (f55.ok p1) fun y2 =>
.ret ((!y2))

theorem f54.ok (p1 : Vertex) {x} (h : (f54 p1).run = some x) : Spec Tryz.prog 54 [V p1] [] (V x) [] :=
  Prg.ok Tryz.func54 (res := fun x => V x) (outs := fun x => []) (by kernel_rfl) (by kernel_rfl) rfl h

noncomputable def f88.l1 (p1 : List Vertex) (v4 : Int) : Pg (Nx Int (Ex (Int) Unit Empty)) :=
brr (decide (v4 < (L p1 : Int))) (
getR p1 v4 fun a5 =>
cl (f54.ok a5) fun y6 =>
brr y6 (
doneA (v4)) (
cont (IntKind.i64.wrap (v4 + 1)))) (
doneB ())

noncomputable def f88 (p1 : List Vertex) : Pg Int :=
loop2 (0 : Int) (fun s7 => f88.l1 p1 s7) (fun s7 => ([(0, V p1), (1, .clo 54 []), (7, V (L p1 : Int)), (8, V s7)], [])) .inl (fun r8 =>
.ret r8) (.cut (.ext 0) fun _ => ([], [])) fun _ =>
.ret (((-1) : Int))

theorem f88.ok (p1 : List Vertex) {x} (h : (f88 p1).run = some x) : Spec Tryz.prog 88 [V p1, .clo 54 []] [] (V x) [] :=
  Prg.ok Tryz.func88 (res := fun x => V x) (outs := fun x => []) (by kernel_rfl) (by kernel_rfl) rfl h

noncomputable def f53 (p1 : List Vertex) : Pg Bool :=
cl (f88.ok p1) fun y2 =>
.ret ((decide (y2 ≥ 0)))

theorem f53.ok (p1 : List Vertex) {x} (h : (f53 p1).run = some x) : Spec Tryz.prog 53 [V p1, .clo 54 []] [] (V x) [] :=
  Prg.ok Tryz.func53 (res := fun x => V x) (outs := fun x => []) (by kernel_rfl) (by kernel_rfl) rfl h

noncomputable def f51 (p1 : Edge) : Pg Bool :=
cl (f70.ok p1.ID (0 : Int) (39 : Int)) fun _ =>
brr ((decide ((0 : Int) ≤ p1.ID)) && (decide (p1.ID ≤ (39 : Int)))) (
cl (f70.ok p1.From (0 : Int) (23 : Int)) fun _ =>
brr ((decide ((0 : Int) ≤ p1.From)) && (decide (p1.From ≤ (23 : Int)))) (
cl (f70.ok p1.To (0 : Int) (23 : Int)) fun _ =>
brr ((decide ((0 : Int) ≤ p1.To)) && (decide (p1.To ≤ (23 : Int)))) (
cl (f70.ok p1.Weight ((-1000) : Int) (1000 : Int)) fun _ =>
brr ((decide (((-1000) : Int) ≤ p1.Weight)) && (decide (p1.Weight ≤ (1000 : Int)))) (
cl (f70.ok p1.Cap (0 : Int) (1000 : Int)) fun _ =>
.ret (((decide ((0 : Int) ≤ p1.Cap)) && (decide (p1.Cap ≤ (1000 : Int)))))) (
.ret (false))) (
.ret (false))) (
.ret (false))) (
.ret (false))

theorem f51.ok (p1 : Edge) {x} (h : (f51 p1).run = some x) : Spec Tryz.prog 51 [V p1] [] (V x) [] :=
  Prg.ok Tryz.func51 (res := fun x => V x) (outs := fun x => []) (by kernel_rfl) (by kernel_rfl) rfl h

noncomputable def f103 (p1 : Int) : Pg Unit :=
.ret (())

theorem f103.ok (p1 : Int) {x} (h : (f103 p1).run = some x) : Spec Tryz.prog 103 [V p1] [] (V (p1 != p1)) [] :=
  Prg.ok Tryz.func103 (res := fun x => V (p1 != p1)) (outs := fun x => []) (by kernel_rfl) (by kernel_rfl) rfl h

noncomputable def f95 (p1 p2 : Int) : Pg Int :=
cl (f103.ok p1) fun _ =>
cl (f103.ok p2) fun _ =>
brr (p1 != p1) (
brr (p2 != p2) (
.ret ((0 : Int))) (
.ret (((-1) : Int)))) (
brr (p2 != p2) (
.ret ((1 : Int))) (
brr (decide (p1 < p2)) (
.ret (((-1) : Int))) (
brr (decide (p1 > p2)) (
.ret ((1 : Int))) (
.ret ((0 : Int))))))

theorem f95.ok (p1 p2 : Int) {x} (h : (f95 p1 p2).run = some x) : Spec Tryz.prog 95 [V p1, V p2] [] (V x) [] :=
  Prg.ok Tryz.func95 (res := fun x => V x) (outs := fun x => []) (by kernel_rfl) (by kernel_rfl) rfl h

noncomputable def f99 (p1 : Vertex) (p2 : Int) : Pg Int :=
cl (f95.ok p1.ID p2) fun y3 =>
.ret (y3)

theorem f99.ok (p1 : Vertex) (p2 : Int) {x} (h : (f99 p1 p2).run = some x) : Spec Tryz.prog 99 [V p1, V p2] [] (V x) [] :=
  Prg.ok Tryz.func99 (res := fun x => V x) (outs := fun x => []) (by kernel_rfl) (by kernel_rfl) rfl h

noncomputable def f98.l1 (p1 : List Vertex) (p2 : Int) (v6 v7 : Int) : Pg (Nx (Int × Int) (Ex Int Empty Empty)) :=
brr (decide (v6 < v7)) (
let e8 : Int := (IntKind.i64.wrap ((IntKind.u64.wrap (IntKind.i64.wrap (v6 + v7))).fdiv (2 ^ (min (1 : Int).toNat IntKind.u64.bits))))
getR p1 e8 fun a9 =>
cl (f99.ok a9 p2) fun y10 =>
brr (decide (y10 < 0)) (
cont ((IntKind.i64.wrap (e8 + 1)), v7)) (
cont (v6, e8))) (
doneA v6)

noncomputable def f98 (p1 : List Vertex) (p2 : Int) : Pg (Int × Bool) :=
loop1 ((0 : Int), (L p1 : Int)) (fun s11 => f98.l1 p1 p2 s11.1 s11.2) (fun s11 => ([(0, V p1), (1, V p2), (2, .clo 99 []), (8, V (L p1 : Int)), (9, V s11.1), (10, V s11.2)], [])) (.cut (.ext 0) fun x12 => ([(0, V p1), (1, V p2), (2, .clo 99 []), (8, V (L p1 : Int)), (9, V x12)], [])) fun x12 =>
brr (decide (x12 < (L p1 : Int))) (
getR p1 x12 fun a13 =>
cl (f99.ok a13 p2) fun y14 =>
.ret ((x12, (y14 == 0)))) (
.ret ((x12, false)))

theorem f98.ok (p1 : List Vertex) (p2 : Int) {x} (h : (f98 p1 p2).run = some x) : Spec Tryz.prog 98 [V p1, V p2, .clo 99 []] [] (.tup [V x.1, V x.2]) [] :=
  Prg.ok Tryz.func98 (res := fun x => .tup [V x.1, V x.2]) (outs := fun x => []) (by kernel_rfl) (by kernel_rfl) rfl h

noncomputable def f79 (p1 : Int) (p2 : List Vertex) (p3 : List Edge) : Pg (Int × Bool) :=
cl (f98.ok p2 p1) fun y4 =>
.ret ((y4.1, y4.2))

theorem f79.ok (p1 : Int) (p2 : List Vertex) (p3 : List Edge) {x} (h : (f79 p1 p2 p3).run = some x) : Spec Tryz.prog 79 [R 0, V p1] [.varp [.sl (p2.map Cel.enc), .sl (p3.map Cel.enc), .nilsl]] (.tup [V x.1, V x.2]) [.varp [.sl (p2.map Cel.enc), .sl (p3.map Cel.enc), .nilsl]] :=
  Prg.ok Tryz.func79 (res := fun x => .tup [V x.1, V x.2]) (outs := fun x => [.varp [.sl (p2.map Cel.enc), .sl (p3.map Cel.enc), .nilsl]]) (by kernel_rfl) (by kernel_rfl) rfl h

noncomputable def f52 (p1 : Int) (p2 : List Vertex) (p3 : List Edge) : Pg Bool :=
cl (f79.ok p1 p2 p3) fun y4 =>
.ret (y4.2)

theorem f52.ok (p1 : Int) (p2 : List Vertex) (p3 : List Edge) {x} (h : (f52 p1 p2 p3).run = some x) : Spec Tryz.prog 52 [R 0, V p1] [.varp [.sl (p2.map Cel.enc), .sl (p3.map Cel.enc), .nilsl]] (V x) [.varp [.sl (p2.map Cel.enc), .sl (p3.map Cel.enc), .nilsl]] :=
  Prg.ok Tryz.func52 (res := fun x => V x) (outs := fun x => [.varp [.sl (p2.map Cel.enc), .sl (p3.map Cel.enc), .nilsl]]) (by kernel_rfl) (by kernel_rfl) rfl h

noncomputable def f50 (p1 : Edge) (p2 : List Vertex) (p3 : List Edge) : Pg Bool :=
cl (f51.ok p1) fun y4 =>
brr (!y4) (
.ret (true)) (
cl (f52.ok p1.From p2 p3) fun y5 =>
brr (!y5) (
.ret (true)) (
cl (f52.ok p1.To p2 p3) fun y6 =>
.ret ((!y6))))

theorem f50.ok (p1 : Edge) (p2 : List Vertex) (p3 : List Edge) {x} (h : (f50 p1 p2 p3).run = some x) : Spec Tryz.prog 50 [V p1, R 0] [mkVar (R 2), .varp [.sl (p2.map Cel.enc), .sl (p3.map Cel.enc), .nilsl]] (V x) [mkVar (R 2), .varp [.sl (p2.map Cel.enc), .sl (p3.map Cel.enc), .nilsl]] :=
  Prg.ok Tryz.func50 (res := fun x => V x) (outs := fun x => [mkVar (R 2), .varp [.sl (p2.map Cel.enc), .sl (p3.map Cel.enc), .nilsl]]) (by kernel_rfl) (by kernel_rfl) rfl h

noncomputable def f85.l1 (p1 : List Edge) (p2 : List Vertex) (p3 : List Edge) (v6 : Int) : Pg (Nx Int (Ex (Int) Unit Empty)) :=
brr (decide (v6 < (L p1 : Int))) (
getR p1 v6 fun a7 =>
cl (f50.ok a7 p2 p3) fun y8 =>
brr y8 (
doneA (v6)) (
cont (IntKind.i64.wrap (v6 + 1)))) (
doneB ())

noncomputable def f85 (p1 : List Edge) (p2 : List Vertex) (p3 : List Edge) : Pg Int :=
loop2 (0 : Int) (fun s9 => f85.l1 p1 p2 p3 s9) (fun s9 => ([(0, V p1), (1, .clo 50 [R 0]), (7, V (L p1 : Int)), (8, V s9)], [(0, mkVar (R 2)), (2, .varp [.sl (p2.map Cel.enc), .sl (p3.map Cel.enc), .nilsl])])) .inl (fun r10 =>
.ret r10) (.cut (.ext 0) fun _ => ([], [(0, mkVar (R 2)), (2, .varp [.sl (p2.map Cel.enc), .sl (p3.map Cel.enc), .nilsl])])) fun _ =>
.ret (((-1) : Int))

theorem f85.ok (p1 : List Edge) (p2 : List Vertex) (p3 : List Edge) {x} (h : (f85 p1 p2 p3).run = some x) : Spec Tryz.prog 85 [V p1, .clo 50 [R 0]] [mkVar (R 2), .varp [.sl (p2.map Cel.enc), .sl (p3.map Cel.enc), .nilsl]] (V x) [mkVar (R 2), .varp [.sl (p2.map Cel.enc), .sl (p3.map Cel.enc), .nilsl]] :=
  Prg.ok Tryz.func85 (res := fun x => V x) (outs := fun x => [mkVar (R 2), .varp [.sl (p2.map Cel.enc), .sl (p3.map Cel.enc), .nilsl]]) (by kernel_rfl) (by kernel_rfl) rfl h

noncomputable def f43 (p1 : List Edge) (p2 : List Vertex) (p3 : List Edge) : Pg Bool :=
cl (f85.ok p1 p2 p3) fun y4 =>
.ret ((decide (y4 ≥ 0)))

theorem f43.ok (p1 : List Edge) (p2 : List Vertex) (p3 : List Edge) {x} (h : (f43 p1 p2 p3).run = some x) : Spec Tryz.prog 43 [V p1, .clo 50 [R 0]] [mkVar (R 2), .varp [.sl (p2.map Cel.enc), .sl (p3.map Cel.enc), .nilsl]] (V x) [mkVar (R 2), .varp [.sl (p2.map Cel.enc), .sl (p3.map Cel.enc), .nilsl]] :=
  Prg.ok Tryz.func43 (res := fun x => V x) (outs := fun x => [mkVar (R 2), .varp [.sl (p2.map Cel.enc), .sl (p3.map Cel.enc), .nilsl]]) (by kernel_rfl) (by kernel_rfl) rfl h

noncomputable def f77 (p1 : Int) : Pg Unit :=
.ret (())

theorem f77.ok (p1 : Int) {x} (h : (f77 p1).run = some x) : Spec Tryz.prog 77 [V p1] [] (V p1) [] :=
  Prg.ok Tryz.func77 (res := fun x => V p1) (outs := fun x => []) (by kernel_rfl) (by kernel_rfl) rfl h

noncomputable def f76.l1 (p1 : List Int) (v6 : Int) : Pg (Nx Int (Ex (Bool) Unit Empty)) :=
brr (decide (v6 < (L p1 : Int))) (
getR p1 (IntKind.i64.wrap (v6 - 1)) fun a7 =>
cl (f77.ok a7) fun _ =>
getR p1 v6 fun a9 =>
cl (f77.ok a9) fun _ =>
brr (decide (a7 ≥ a9)) (
doneA (false)) (
cont (IntKind.i64.wrap (v6 + 1)))) (
doneB ())

noncomputable def f76 (p1 : List Int) : Pg Bool :=
loop2 (1 : Int) (fun s11 => f76.l1 p1 s11) (fun s11 => ([(0, V p1), (1, .clo 77 []), (5, V s11)], [])) .inl (fun r12 =>
.ret r12) (.cut (.ext 0) fun _ => ([], [])) fun _ =>
.ret (true)

theorem f76.ok (p1 : List Int) {x} (h : (f76 p1).run = some x) : Spec Tryz.prog 76 [V p1, .clo 77 []] [] (V x) [] :=
  Prg.ok Tryz.func76 (res := fun x => V x) (outs := fun x => []) (by kernel_rfl) (by kernel_rfl) rfl h

noncomputable def f89 (p1 : Int) (p2 : List Vertex) (p3 : List Edge) : Pg Bool :=
cl (f52.ok p1 p2 p3) fun y4 =>
.ret ((!y4))

theorem f89.ok (p1 : Int) (p2 : List Vertex) (p3 : List Edge) {x} (h : (f89 p1 p2 p3).run = some x) : Spec Tryz.prog 89 [V p1, R 0] [mkVar (R 2), .varp [.sl (p2.map Cel.enc), .sl (p3.map Cel.enc), .nilsl]] (V x) [mkVar (R 2), .varp [.sl (p2.map Cel.enc), .sl (p3.map Cel.enc), .nilsl]] :=
  Prg.ok Tryz.func89 (res := fun x => V x) (outs := fun x => [mkVar (R 2), .varp [.sl (p2.map Cel.enc), .sl (p3.map Cel.enc), .nilsl]]) (by kernel_rfl) (by kernel_rfl) rfl h

noncomputable def f100.l1 (p1 : List Int) (p2 : List Vertex) (p3 : List Edge) (v6 : Int) : Pg (Nx Int (Ex (Int) Unit Empty)) :=
brr (decide (v6 < (L p1 : Int))) (
getR p1 v6 fun a7 =>
cl (f89.ok a7 p2 p3) fun y8 =>
brr y8 (
doneA (v6)) (
cont (IntKind.i64.wrap (v6 + 1)))) (
doneB ())

noncomputable def f100 (p1 : List Int) (p2 : List Vertex) (p3 : List Edge) : Pg Int :=
loop2 (0 : Int) (fun s9 => f100.l1 p1 p2 p3 s9) (fun s9 => ([(0, V p1), (1, .clo 89 [R 0]), (7, V (L p1 : Int)), (8, V s9)], [(0, mkVar (R 2)), (2, .varp [.sl (p2.map Cel.enc), .sl (p3.map Cel.enc), .nilsl])])) .inl (fun r10 =>
.ret r10) (.cut (.ext 0) fun _ => ([], [(0, mkVar (R 2)), (2, .varp [.sl (p2.map Cel.enc), .sl (p3.map Cel.enc), .nilsl])])) fun _ =>
.ret (((-1) : Int))

theorem f100.ok (p1 : List Int) (p2 : List Vertex) (p3 : List Edge) {x} (h : (f100 p1 p2 p3).run = some x) : Spec Tryz.prog 100 [V p1, .clo 89 [R 0]] [mkVar (R 2), .varp [.sl (p2.map Cel.enc), .sl (p3.map Cel.enc), .nilsl]] (V x) [mkVar (R 2), .varp [.sl (p2.map Cel.enc), .sl (p3.map Cel.enc), .nilsl]] :=
  Prg.ok Tryz.func100 (res := fun x => V x) (outs := fun x => [mkVar (R 2), .varp [.sl (p2.map Cel.enc), .sl (p3.map Cel.enc), .nilsl]]) (by kernel_rfl) (by kernel_rfl) rfl h

noncomputable def f83 (p1 : List Int) (p2 : List Vertex) (p3 : List Edge) : Pg Bool :=
cl (f100.ok p1 p2 p3) fun y4 =>
.ret ((decide (y4 ≥ 0)))

theorem f83.ok (p1 : List Int) (p2 : List Vertex) (p3 : List Edge) {x} (h : (f83 p1 p2 p3).run = some x) : Spec Tryz.prog 83 [V p1, .clo 89 [R 0]] [mkVar (R 2), .varp [.sl (p2.map Cel.enc), .sl (p3.map Cel.enc), .nilsl]] (V x) [mkVar (R 2), .varp [.sl (p2.map Cel.enc), .sl (p3.map Cel.enc), .nilsl]] :=
  Prg.ok Tryz.func83 (res := fun x => V x) (outs := fun x => [mkVar (R 2), .varp [.sl (p2.map Cel.enc), .sl (p3.map Cel.enc), .nilsl]]) (by kernel_rfl) (by kernel_rfl) rfl h

noncomputable def f56 (p1 : List Vertex) (p2 : List Edge) : Pg Bool :=
brr (decide ((0 : Int) ≤ 3)) (
cl (f76.ok ([] : List Int)) fun y3 =>
brr y3 (
cl (f83.ok ([] : List Int) p1 p2) fun y4 =>
.ret ((!y4))) (
.ret (false))) (
.ret (false))

theorem f56.ok (p1 : List Vertex) (p2 : List Edge) {x} (h : (f56 p1 p2).run = some x) : Spec Tryz.prog 56 [R 0] [.varp [.sl (p1.map Cel.enc), .sl (p2.map Cel.enc), .nilsl]] (V x) [.varp [.sl (p1.map Cel.enc), .sl (p2.map Cel.enc), .nilsl]] :=
  Prg.ok Tryz.func56 (res := fun x => V x) (outs := fun x => [.varp [.sl (p1.map Cel.enc), .sl (p2.map Cel.enc), .nilsl]]) (by kernel_rfl) (by kernel_rfl) rfl h

noncomputable def f24 (p1 : List Vertex) (p2 : List Edge) : Pg Bool :=
join1 (.reg 1) (
cl (f46.ok p1) fun y4 =>
brr (!y4) (
retA' true) (
cl (f48.ok p2) fun y5 =>
retA' (!y5))) (.cut .nat fun x6 => ([(1, R 101), (14, V x6)], [(101, .varp [.sl (p1.map Cel.enc), .sl (p2.map Cel.enc), .nilsl])])) fun x6 =>
brr x6 (
.ret (false)) (
cl (f53.ok p1) fun y7 =>
brr (!y7) (
cl (f43.ok p2 p1 p2) fun y8 =>
brr (!y8) (
cl (f56.ok p1 p2) fun y9 =>
.ret (y9)) (
.ret (false))) (
.ret (false)))

theorem f24.ok (p1 : List Vertex) (p2 : List Edge) {x} (h : (f24 p1 p2).run = some x) : Spec Tryz.prog 24 [.aggp [.sl (p1.map Cel.enc), .sl (p2.map Cel.enc), .nilsl]] [] (V x) [] :=
  Prg.ok Tryz.func24 (res := fun x => V x) (outs := fun x => []) (by kernel_rfl) (by kernel_rfl) rfl h

noncomputable def f45 (p1 : Edge) (p2 : Int) : Pg Int :=
brr (p2 == p1.From) (
.ret (p1.To)) (
brr (p2 == p1.To) (
.ret (p1.From)) (
.ret (((-1) : Int))))

theorem f45.ok (p1 : Edge) (p2 : Int) {x} (h : (f45 p1 p2).run = some x) : Spec Tryz.prog 45 [V p1, V p2] [] (V x) [] :=
  Prg.ok Tryz.func45 (res := fun x => V x) (outs := fun x => []) (by kernel_rfl) (by kernel_rfl) rfl h

noncomputable def f57.l1 (p2 : List Edge) (p3 : Int) (v10 : Int) (l11 : List Edge) : Pg (Nx (Int × (List Edge)) (Ex (List Edge) Empty Empty)) :=
brr (decide (v10 < (L p2 : Int))) (
getR p2 v10 fun a12 =>
join1 (.reg 4) (
brr (a12.From == p3) (
retA' true) (
retA' (a12.To == p3))) (.cut .nat fun x13 => ([(1, V p3), (4, H Edge 101), (6, R 103), (8, V p2), (9, V (L p2 : Int)), (10, V v10), (23, V x13)], [(101, O l11), (103, B a12)])) fun x13 =>
brr x13 (
ap l11 ([a12] : List Edge) fun l14 =>
cont ((IntKind.i64.wrap (v10 + 1)), l14)) (
cont ((IntKind.i64.wrap (v10 + 1)), l11))) (
doneA l11)

noncomputable def f57 (p1 : List Vertex) (p2 : List Edge) (p3 : Int) : Pg (List Edge) :=
loop1 ((0 : Int), ([] : List Edge)) (fun s15 => f57.l1 p2 p3 s15.1 s15.2) (fun s15 => ([(1, V p3), (4, H Edge 501), (8, V p2), (9, V (L p2 : Int)), (10, V s15.1)], [(501, O s15.2)])) (.cut (.ext 0) fun x16 => ([(4, H Edge 101)], [(101, O x16)])) fun x16 =>
.ret (x16)

theorem f57.ok (p1 : List Vertex) (p2 : List Edge) (p3 : Int) {x} (h : (f57 p1 p2 p3).run = some x) : Spec Tryz.prog 57 [.aggp [.sl (p1.map Cel.enc), .sl (p2.map Cel.enc), .nilsl], V p3] [] (V x) [] :=
  Prg.ok Tryz.func57 (res := fun x => V x) (outs := fun x => []) (by kernel_rfl) (by kernel_rfl) rfl h

noncomputable def f25.l1 [Fm] (a64 : Vertex) (a96 : Int) (y97 : List Edge) (v : Int) (M : List (List Int)) (m : List (Int × Ref)) (q : List Int) : Pg (Nx (Int × List (List Int) × List (Int × Ref) × List Int) (Ex (List (List Int) × List (Int × Ref) × List Int) Empty Empty)) :=
brr (decide (v < (L y97 : Int))) (
getR y97 v fun a110 =>
cl (f45.ok a110 a96) fun y111 =>
.ask (mapGet m y111).isSome (
lookR m y111 fun _ =>
brr (!true) .no (
cont ((IntKind.i64.wrap (v + 1)), M, m, q))) (
lookA m y111 <|
brr (!false) (
lookR m a96 fun r =>
ck (1 : Int) r.len <|
rdM M r.i (r.off + (1 : Int).toNat) fun a116 =>
bsM 81 M [a64.ID, (IntKind.i64.wrap (a116 + 1)), (-1)] <|
mset m y111 (Ref.mk (LM M) 0 3) fun m117 =>
ap q ([y111] : List Int) fun q118 =>
cont ((IntKind.i64.wrap (v + 1)), M ++ [[a64.ID, (IntKind.i64.wrap (a116 + 1)), (-1)]], m117, q118)) .no)) (
doneA (M, m, q))

noncomputable def f25.l2 [Fm] (p1 : List Vertex) (p2 : List Edge) (v62 : Int) (a64 : Vertex) (M : List (List Int)) (m : List (Int × Ref)) (q : List Int) : Pg (Nx (List (List Int) × List (Int × Ref) × List Int) (Ex (List (List Int) × List (Int × Ref)) Empty Empty)) :=
brr (decide ((L q : Int) > 0)) (
ck (0 : Int) (L q) <|
rd q (at0 (0 : Int)) fun a96 =>
cl (f57.ok p1 p2 a96) fun y97 =>
loop1 ((0 : Int), M, m, q) (fun s => f25.l1 a64 a96 y97 s.1 s.2.1 s.2.2.1 s.2.2.2) (fun s => ([(1, R 101), (3, .mp 103), (5, R 105), (8, H Int 107), (9, V a96), (21, V p1), (22, V (L p1 : Int)), (23, V v62), (54, V y97), (55, V (L y97 : Int)), (56, V s.1)], [(3, FM s.2.1), (101, .varp [.sl (p1.map Cel.enc), .sl (p2.map Cel.enc), .nilsl]), (103, MR s.2.2.1), (105, B a64), (107, O s.2.2.2)])) (.cut (.ext 4) fun x => ([(1, R 101), (3, .mp 103), (5, R 105), (8, H Int 107), (21, V p1), (22, V (L p1 : Int)), (23, V v62)], [(3, FM x.1), (101, .varp [.sl (p1.map Cel.enc), .sl (p2.map Cel.enc), .nilsl]), (103, MR x.2.1), (105, B a64), (107, O x.2.2)])) fun x =>
cutLoO x.2.2 (1 : Int) fun q121 =>
cont (x.1, x.2.1, q121)) (
doneA (M, m))

noncomputable def f25.l3 [Fm] (p1 : List Vertex) (p2 : List Edge) (v62 : Int) (M : List (List Int)) (m : List (Int × Ref)) : Pg (Nx (Int × List (List Int) × List (Int × Ref)) (Ex (List (List Int) × List (Int × Ref)) Empty Empty)) :=
brr (decide (v62 < (L p1 : Int))) (
getR p1 v62 fun a64 =>
.ask (mapGet m a64.ID).isSome (
lookR m a64.ID fun _ =>
brr true (
cont ((IntKind.i64.wrap (v62 + 1)), M, m)) .no) (
lookA m a64.ID <|
brr false .no (
bsM 40 M [a64.ID, 0, (-1)] <|
mset m a64.ID (Ref.mk (LM M) 0 3) fun m67 =>
loop1 (M ++ [[a64.ID, 0, (-1)]], m67, ([a64.ID] : List Int)) (fun s => f25.l2 p1 p2 v62 a64 s.1 s.2.1 s.2.2) (fun s => ([(1, R 101), (3, .mp 103), (5, R 105), (8, H Int 107), (21, V p1), (22, V (L p1 : Int)), (23, V v62)], [(3, FM s.1), (101, .varp [.sl (p1.map Cel.enc), .sl (p2.map Cel.enc), .nilsl]), (103, MR s.2.1), (105, B a64), (107, O s.2.2)])) (.cut (.ext 2) fun x => ([(1, R 101), (3, .mp 103), (21, V p1), (22, V (L p1 : Int)), (23, V v62)], [(3, FM x.1), (101, .varp [.sl (p1.map Cel.enc), .sl (p2.map Cel.enc), .nilsl]), (103, MR x.2)])) fun x =>
cont ((IntKind.i64.wrap (v62 + 1)), x.1, x.2)))) (
doneA (M, m))

noncomputable def f25.l4 [Fm] (m : List (Int × Ref)) (M : List (List Int)) (key : Int) (r : Ref) (y97 : List Edge) (v : Int) : Pg (Nx Int (Ex (List (List Int)) Unit Empty)) :=
brr (decide (v < (L y97 : Int))) (
getR y97 v fun a =>
cl (f45.ok a key) fun y106 =>
lookR m y106 fun r2 =>
ck (1 : Int) r2.len <|
rdM M r2.i (r2.off + (1 : Int).toNat) fun a109 =>
ck (1 : Int) r.len <|
rdM M r.i (r.off + (1 : Int).toNat) fun a112 =>
brr (a109 == (IntKind.i64.wrap (a112 - 1))) (
ck (2 : Int) r.len <|
stM M r.i (r.off + (2 : Int).toNat) a.ID fun M2 =>
doneA M2) (
cont (IntKind.i64.wrap (v + 1)))) (
doneB ())

noncomputable def f25.l5 [Fm] (p1 : List Vertex) (p2 : List Edge) (m : List (Int × Ref)) (seen : List Nat) (i : Nat) (M : List (List Int)) : Pg (Nx (List (List Int)) (Ex Empty Empty Empty)) :=
entM 103 m i fun key r =>
cl (f57.ok p1 p2 key) fun y97 =>
loop2 (0 : Int) (fun s => f25.l4 m M key r y97 s) (fun s => ([(1, R 101), (3, .mp 103), (15, V key), (16, avR r), (89, R 105), (97, V y97), (98, V (L y97 : Int)), (99, V s)], [(3, FM M), (101, .varp [.sl (p1.map Cel.enc), .sl (p2.map Cel.enc), .nilsl]), (103, MR m), (105, .it 103 (m.map mKey).length (i :: seen))])) (.cut (.ext 7) fun M2 => ([(1, R 101), (3, .mp 103), (89, R 105)], [(3, FM M2), (101, .varp [.sl (p1.map Cel.enc), .sl (p2.map Cel.enc), .nilsl]), (103, MR m), (105, .it 103 (m.map mKey).length (i :: seen))])) (fun M2 =>
cont M2) (.cut (.ext 8) fun _ => ([(1, R 101), (3, .mp 103), (89, R 105)], [(3, FM M), (101, .varp [.sl (p1.map Cel.enc), .sl (p2.map Cel.enc), .nilsl]), (103, MR m), (105, .it 103 (m.map mKey).length (i :: seen))])) fun _ =>
cont M

noncomputable def f25.fm [Fm] (p1 : List Vertex) (p2 : List Edge) : Pg (List (Int × List Int)) :=
loop1 ((0 : Int), ([] : List (List Int)), ([] : List (Int × Ref))) (fun s => f25.l3 p1 p2 s.1 s.2.1 s.2.2) (fun s => ([(1, R 101), (3, .mp 103), (21, V p1), (22, V (L p1 : Int)), (23, V s.1)], [(3, FM s.2.1), (101, .varp [.sl (p1.map Cel.enc), .sl (p2.map Cel.enc), .nilsl]), (103, MR s.2.2)])) (.cut (.ext 0) fun x => ([(1, R 101), (3, .mp 103)], [(3, FM x.1), (101, .varp [.sl (p1.map Cel.enc), .sl (p2.map Cel.enc), .nilsl]), (103, MR x.2)])) fun x =>
mloop0 (x.2.map mKey).length x.1 (fun seen i M => f25.l5 p1 p2 x.2 seen i M) (fun M seen => ([(1, R 101), (3, .mp 103), (89, R 105)], [(3, FM M), (101, .varp [.sl (p1.map Cel.enc), .sl (p2.map Cel.enc), .nilsl]), (103, MR x.2), (105, .it 103 (x.2.map mKey).length seen)])) fun M =>
tellG 103 M x.2 fun y =>
.ret y

theorem f25.l1.same (f g : Fm) (a64 a96 y97 v M m q) : (@f25.l1 f a64 a96 y97 v M m q).run = (@f25.l1 g a64 a96 y97 v M m q).run := by
  simp only [f25.l1, r_brr, r_getR, r_ask, r_lookR, r_lookA, r_ck, r_rdM, r_bsM, r_mset, r_ap, r_cl, r_ret, L_eq]
theorem f25.l2.same (f g : Fm) (p1 : List Vertex) (p2 : List Edge) (v62 a64 M m q) : (@f25.l2 f p1 p2 v62 a64 M m q).run = (@f25.l2 g p1 p2 v62 a64 M m q).run := by
  simp only [f25.l2, r_brr, r_ck, r_rd, r_cl, r_loop1, f25.l1.same f g, r_cutLoO, r_ret, L_eq]
theorem f25.l3.same (f g : Fm) (p1 : List Vertex) (p2 : List Edge) (v62 M m) : (@f25.l3 f p1 p2 v62 M m).run = (@f25.l3 g p1 p2 v62 M m).run := by
  simp only [f25.l3, r_brr, r_getR, r_ask, r_lookR, r_lookA, r_bsM, r_mset, r_loop1, f25.l2.same f g, r_ret, L_eq]
theorem f25.l4.same (f g : Fm) (m M key r y97 v) : (@f25.l4 f m M key r y97 v).run = (@f25.l4 g m M key r y97 v).run := by
  simp only [f25.l4, r_brr, r_getR, r_lookR, r_ck, r_rdM, r_stM, r_cl, r_ret, L_eq]
theorem f25.l5.same (f g : Fm) (p1 : List Vertex) (p2 : List Edge) (m seen seen2 i M) : (@f25.l5 f p1 p2 m seen i M).run = (@f25.l5 g p1 p2 m seen2 i M).run := by
  simp only [f25.l5, r_entM, r_cl, r_loop2, f25.l4.same f g, r_ret]
theorem f25.same (f g : Fm) (p1 : List Vertex) (p2 : List Edge) : (@f25.fm f p1 p2).run = (@f25.fm g p1 p2).run := by
  simp only [f25.fm, r_loop1, f25.l3.same f g, r_mloop0, r_tellG, r_ret]
  refine congrArg (bd _) (funext fun e => ?_)
  cases e with
  | a x =>
    simp only [ex3]
    have : (fun (i : Nat) (s : List (List Int)) => runAll fun seen => (@f25.l5 f p1 p2 x.2 seen i s).run) = fun i s => runAll fun seen => (@f25.l5 g p1 p2 x.2 seen i s).run := by
      funext i s
      rw [runAll_const (c := (@f25.l5 g p1 p2 x.2 [] i s).run) (fun seen => f25.l5.same f g p1 p2 x.2 seen [] i s), runAll_const (c := (@f25.l5 g p1 p2 x.2 [] i s).run) (fun seen => f25.l5.same g g p1 p2 x.2 seen [] i s)]
    rw [this]
  | b x => cases x
  | c x => cases x
noncomputable abbrev f25  (p1 : List Vertex) (p2 : List Edge) : Pg (List (Int × List Int)) := @f25.fm ⟨0⟩ p1 p2
theorem f25.ok  (p1 : List Vertex) (p2 : List Edge) {x} (h : (f25 p1 p2).run = some x) : Spec Tryz.prog 25 [.aggp [.sl (p1.map Cel.enc), .sl (p2.map Cel.enc), .nilsl]] [] (.mp 0) [MO false x] :=
  Prg.okF (p := fun f => @f25.fm ⟨f⟩ p1 p2) Tryz.func25 1 (res := fun _ => .mp 0) (outs := fun x => [MO false x]) (by kernel_rfl) (by kernel_rfl) rfl (fun f => (f25.same ⟨f⟩ ⟨0⟩ p1 p2).trans h)

noncomputable def f6.l1 (p1 : List Vertex) (y4 : List (Int × (List Int))) (v13 : Int) (l14 : List Named) : Pg (Nx (Int × (List Named)) (Ex (List Named) Empty Empty)) :=
brr (decide (v13 < (L p1 : Int))) (
getR p1 v13 fun a15 =>
look y4 a15.ID ([] : List Int) fun a16 b17 =>
ap l14 ([(Named.mk a15.ID a16)] : List Named) fun l18 =>
cont ((IntKind.i64.wrap (v13 + 1)), l18)) (
doneA l14)

noncomputable def f6 (p1 : List Vertex) (p2 : List Edge) : Pg ((List Named) × Int) :=
cl (f24.ok p1 p2) fun y3 =>
brr (!y3) (
.ret ((([] : List Named), (70 : Int)))) (
cl (f25.ok p1 p2) fun y4 =>
loop1 ((0 : Int), ([] : List Named)) (fun s19 => f6.l1 p1 y4 s19.1 s19.2) (fun s19 => ([(4, .mp 101), (5, H Named 501), (14, V p1), (15, V (L p1 : Int)), (16, V s19.1)], [(101, MO false y4), (501, O s19.2)])) (.cut (.ext 0) fun x20 => ([(5, H Named 101)], [(101, O x20)])) fun x20 =>
.ret ((x20, (0 : Int))))

theorem f6.ok (p1 : List Vertex) (p2 : List Edge) {x} (h : (f6 p1 p2).run = some x) : Spec Tryz.prog 6 [.aggp [.sl (p1.map Cel.enc), .sl (p2.map Cel.enc), .nilsl]] [] (.tup [V x.1, V x.2]) [] :=
  Prg.ok Tryz.func6 (res := fun x => .tup [V x.1, V x.2]) (outs := fun x => []) (by kernel_rfl) (by kernel_rfl) rfl h

noncomputable def f82 (p1 : Vertex) (p2 : Int) : Pg Unit :=
.ret (())

theorem f82.ok (p1 : Vertex) (p2 : Int) {x} (h : (f82 p1 p2).run = some x) : Spec Tryz.prog 82 [V p1, R 0] [B p2] (V (p1.ID == p2)) [B p2] :=
  Prg.ok Tryz.func82 (res := fun x => V (p1.ID == p2)) (outs := fun x => [B p2]) (by kernel_rfl) (by kernel_rfl) rfl h

noncomputable def f88v1.l1 (p1 : List Vertex) (p2 : Int) (v5 : Int) : Pg (Nx Int (Ex (Int) Unit Empty)) :=
brr (decide (v5 < (L p1 : Int))) (
getR p1 v5 fun a6 =>
cl (f82.ok a6 p2) fun _ =>
brr (a6.ID == p2) (
doneA (v5)) (
cont (IntKind.i64.wrap (v5 + 1)))) (
doneB ())

noncomputable def f88v1 (p1 : List Vertex) (p2 : Int) : Pg Int :=
loop2 (0 : Int) (fun s8 => f88v1.l1 p1 p2 s8) (fun s8 => ([(0, V p1), (1, .clo 82 [R 0]), (7, V (L p1 : Int)), (8, V s8)], [(0, B p2)])) .inl (fun r9 =>
.ret r9) (.cut (.ext 0) fun _ => ([], [(0, B p2)])) fun _ =>
.ret (((-1) : Int))

theorem f88v1.ok (p1 : List Vertex) (p2 : Int) {x} (h : (f88v1 p1 p2).run = some x) : Spec Tryz.prog 88 [V p1, .clo 82 [R 0]] [B p2] (V x) [B p2] :=
  Prg.ok Tryz.func88 (res := fun x => V x) (outs := fun x => [B p2]) (by kernel_rfl) (by kernel_rfl) rfl h

noncomputable def f53v1 (p1 : List Vertex) (p2 : Int) : Pg Bool :=
cl (f88v1.ok p1 p2) fun y3 =>
.ret ((decide (y3 ≥ 0)))

theorem f53v1.ok (p1 : List Vertex) (p2 : Int) {x} (h : (f53v1 p1 p2).run = some x) : Spec Tryz.prog 53 [V p1, .clo 82 [R 0]] [B p2] (V x) [B p2] :=
  Prg.ok Tryz.func53 (res := fun x => V x) (outs := fun x => [B p2]) (by kernel_rfl) (by kernel_rfl) rfl h

noncomputable def f81 (p1 : Int) (p2 : List Vertex) (p3 : List Edge) : Pg Bool :=
cl (f53v1.ok p2 p1) fun y4 =>
.ret ((!y4))

theorem f81.ok (p1 : Int) (p2 : List Vertex) (p3 : List Edge) {x} (h : (f81 p1 p2 p3).run = some x) : Spec Tryz.prog 81 [V p1, R 0] [.varp [.sl (p2.map Cel.enc), .sl (p3.map Cel.enc), .nilsl]] (V x) [.varp [.sl (p2.map Cel.enc), .sl (p3.map Cel.enc), .nilsl]] :=
  Prg.ok Tryz.func81 (res := fun x => V x) (outs := fun x => [.varp [.sl (p2.map Cel.enc), .sl (p3.map Cel.enc), .nilsl]]) (by kernel_rfl) (by kernel_rfl) rfl h

noncomputable def f100v1.l1 (p1 : List Int) (p2 : List Vertex) (p3 : List Edge) (v6 : Int) : Pg (Nx Int (Ex (Int) Unit Empty)) :=
brr (decide (v6 < (L p1 : Int))) (
getR p1 v6 fun a7 =>
cl (f81.ok a7 p2 p3) fun y8 =>
brr y8 (
doneA (v6)) (
cont (IntKind.i64.wrap (v6 + 1)))) (
doneB ())

noncomputable def f100v1 (p1 : List Int) (p2 : List Vertex) (p3 : List Edge) : Pg Int :=
loop2 (0 : Int) (fun s9 => f100v1.l1 p1 p2 p3 s9) (fun s9 => ([(0, V p1), (1, .clo 81 [R 0]), (7, V (L p1 : Int)), (8, V s9)], [(0, .varp [.sl (p2.map Cel.enc), .sl (p3.map Cel.enc), .nilsl])])) .inl (fun r10 =>
.ret r10) (.cut (.ext 0) fun _ => ([], [(0, .varp [.sl (p2.map Cel.enc), .sl (p3.map Cel.enc), .nilsl])])) fun _ =>
.ret (((-1) : Int))

theorem f100v1.ok (p1 : List Int) (p2 : List Vertex) (p3 : List Edge) {x} (h : (f100v1 p1 p2 p3).run = some x) : Spec Tryz.prog 100 [V p1, .clo 81 [R 0]] [.varp [.sl (p2.map Cel.enc), .sl (p3.map Cel.enc), .nilsl]] (V x) [.varp [.sl (p2.map Cel.enc), .sl (p3.map Cel.enc), .nilsl]] :=
  Prg.ok Tryz.func100 (res := fun x => V x) (outs := fun x => [.varp [.sl (p2.map Cel.enc), .sl (p3.map Cel.enc), .nilsl]]) (by kernel_rfl) (by kernel_rfl) rfl h

noncomputable def f83v1 (p1 : List Int) (p2 : List Vertex) (p3 : List Edge) : Pg Bool :=
cl (f100v1.ok p1 p2 p3) fun y4 =>
.ret ((decide (y4 ≥ 0)))

theorem f83v1.ok (p1 : List Int) (p2 : List Vertex) (p3 : List Edge) {x} (h : (f83v1 p1 p2 p3).run = some x) : Spec Tryz.prog 83 [V p1, .clo 81 [R 0]] [.varp [.sl (p2.map Cel.enc), .sl (p3.map Cel.enc), .nilsl]] (V x) [.varp [.sl (p2.map Cel.enc), .sl (p3.map Cel.enc), .nilsl]] :=
  Prg.ok Tryz.func83 (res := fun x => V x) (outs := fun x => [.varp [.sl (p2.map Cel.enc), .sl (p3.map Cel.enc), .nilsl]]) (by kernel_rfl) (by kernel_rfl) rfl h

noncomputable def f33 (p1 : List Vertex) (p2 : List Edge) (p3 : List Int) : Pg Bool :=
cl (f24.ok p1 p2) fun y4 =>
brr y4 (
cl (f83v1.ok p3 p1 p2) fun y5 =>
.ret ((!y5))) (
.ret (false))

theorem f33.ok (p1 : List Vertex) (p2 : List Edge) (p3 : List Int) {x} (h : (f33 p1 p2 p3).run = some x) : Spec Tryz.prog 33 [.aggp [.sl (p1.map Cel.enc), .sl (p2.map Cel.enc), .nilsl], V p3] [] (V x) [] :=
  Prg.ok Tryz.func33 (res := fun x => V x) (outs := fun x => []) (by kernel_rfl) (by kernel_rfl) rfl h

noncomputable def f12 (p1 : List Vertex) (p2 : List Edge) (p3 p4 : Int) : Pg (Bool × Int) :=
cl (f33.ok p1 p2 ([p3, p4] : List Int)) fun y5 =>
brr (!y5) (
.ret ((false, (70 : Int)))) (
cl (f25.ok p1 p2) fun y6 =>
look y6 p3 ([] : List Int) fun a7 b8 =>
getR a7 (0 : Int) fun a9 =>
look y6 p4 ([] : List Int) fun a10 b11 =>
getR a10 (0 : Int) fun a12 =>
.ret (((a9 == a12), (0 : Int))))

theorem f12.ok (p1 : List Vertex) (p2 : List Edge) (p3 p4 : Int) {x} (h : (f12 p1 p2 p3 p4).run = some x) : Spec Tryz.prog 12 [.aggp [.sl (p1.map Cel.enc), .sl (p2.map Cel.enc), .nilsl], V p3, V p4] [] (.tup [V x.1, V x.2]) [] :=
  Prg.ok Tryz.func12 (res := fun x => .tup [V x.1, V x.2]) (outs := fun x => []) (by kernel_rfl) (by kernel_rfl) rfl h

noncomputable def f45v1 (p1 : Edge) (p2 : Int) : Pg Int :=
brr (p2 == p1.From) (
.ret (p1.To)) (
brr (p2 == p1.To) (
.ret (p1.From)) (
.ret (((-1) : Int))))

theorem f45v1.ok (p1 : Edge) (p2 : Int) {x} (h : (f45v1 p1 p2).run = some x) : Spec Tryz.prog 45 [V p1, V p2] [] (V x) [] :=
  Prg.ok Tryz.func45 (res := fun x => V x) (outs := fun x => []) (by kernel_rfl) (by kernel_rfl) rfl h

noncomputable def f38.l1 (p2 : List Edge) (p3 p4 : Int) (v7 : Int) : Pg (Nx Int (Ex (Int) Unit Empty)) :=
brr (decide (v7 < (L p2 : Int))) (
getR p2 v7 fun a8 =>
brr (a8.ID == p4) (
cl (f45v1.ok a8 p3) fun y9 =>
doneA (y9)) (
cont (IntKind.i64.wrap (v7 + 1)))) (
doneB ())

noncomputable def f38 (p1 : List Vertex) (p2 : List Edge) (p3 p4 : Int) : Pg Int :=
loop2 (0 : Int) (fun s10 => f38.l1 p2 p3 p4 s10) (fun s10 => ([(1, V p3), (2, V p4), (10, V p2), (11, V (L p2 : Int)), (12, V s10)], [])) .inl (fun r11 =>
.ret r11) (.cut (.ext 0) fun _ => ([], [])) fun _ =>
.ret (((-1) : Int))

theorem f38.ok (p1 : List Vertex) (p2 : List Edge) (p3 p4 : Int) {x} (h : (f38 p1 p2 p3 p4).run = some x) : Spec Tryz.prog 38 [.aggp [.sl (p1.map Cel.enc), .sl (p2.map Cel.enc), .nilsl], V p3, V p4] [] (V x) [] :=
  Prg.ok Tryz.func38 (res := fun x => V x) (outs := fun x => []) (by kernel_rfl) (by kernel_rfl) rfl h

noncomputable def f39v1.l1 (v8 v9 : Int) (l10 : List Int) : Pg (Nx (Int × Int × (List Int)) (Ex (List Int) Empty Empty)) :=
brr (decide (v8 < v9)) (
ck v9 (L l10) <|
rd l10 (at0 v9) fun a11 =>
ck v8 (L l10) <|
rd l10 (at0 v8) fun a12 =>
ck v8 (L l10) <|
st l10 (at0 v8) (fun x13 => a11) fun l14 =>
ck v9 (L l14) <|
st l14 (at0 v9) (fun x15 => a12) fun l16 =>
cont ((IntKind.i64.wrap (v8 + 1)), (IntKind.i64.wrap (v9 - 1)), l16)) (
doneA (l10))

noncomputable def f39v1 (p1 : List Int) : Pg (List Int) :=
loop1 ((0 : Int), (IntKind.i64.wrap ((L p1 : Int) - 1)), p1) (fun s17 => f39v1.l1 s17.1 s17.2.1 s17.2.2) (fun s17 => ([(0, H Int 0), (2, V s17.1), (3, V s17.2.1)], [(0, O s17.2.2)])) .inl fun r18 =>
.ret r18

theorem f39v1.ok (p1 : List Int) {x} (h : (f39v1 p1).run = some x) : Spec Tryz.prog 39 [H Int 0] [O p1] (.tup []) [O x] :=
  Prg.ok Tryz.func39 (res := fun x => .tup []) (outs := fun x => [O x]) (by kernel_rfl) (by kernel_rfl) rfl h

noncomputable def f16.l1 (p1 : List Vertex) (p2 : List Edge) (y6 : List (Int × (List Int))) (v51 v52 : Int) (l53 l54 : List Int) : Pg (Nx (Int × Int × (List Int) × (List Int)) (Ex ((List Int) × (List Int)) Empty Empty)) :=
brr (v51 != v52) (
look y6 v51 ([] : List Int) fun a55 b56 =>
getR a55 (1 : Int) fun a57 =>
look y6 v52 ([] : List Int) fun a58 b59 =>
getR a58 (1 : Int) fun a60 =>
brr (decide (a57 ≥ a60)) (
look y6 v51 ([] : List Int) fun a61 b62 =>
getR a61 (2 : Int) fun a63 =>
ap l53 ([a63] : List Int) fun l64 =>
look y6 v51 ([] : List Int) fun a65 b66 =>
getR a65 (2 : Int) fun a67 =>
cl (f38.ok p1 p2 v51 a67) fun y68 =>
cont (y68, v52, l64, l54)) (
look y6 v52 ([] : List Int) fun a69 b70 =>
getR a69 (2 : Int) fun a71 =>
ap l54 ([a71] : List Int) fun l72 =>
look y6 v52 ([] : List Int) fun a73 b74 =>
getR a73 (2 : Int) fun a75 =>
cl (f38.ok p1 p2 v52 a75) fun y76 =>
cont (v51, y76, l53, l72))) (
doneA (l53, l54))

noncomputable def f16 (p1 : List Vertex) (p2 : List Edge) (p3 p4 : Int) : Pg ((List Int) × Int) :=
cl (f12.ok p1 p2 p3 p4) fun y5 =>
brr ((y5.2 != 0) || (!y5.1)) (
.ret ((([] : List Int), (70 : Int)))) (
cl (f25.ok p1 p2) fun y6 =>
loop1 (p3, p4, ([] : List Int), ([] : List Int)) (fun s77 => f16.l1 p1 p2 y6 s77.1 s77.2.1 s77.2.2.1 s77.2.2.2) (fun s77 => ([(1, V s77.1), (2, V s77.2.1), (3, R 101), (10, .mp 103), (11, H Int 501), (12, H Int 503)], [(101, .varp [.sl (p1.map Cel.enc), .sl (p2.map Cel.enc), .nilsl]), (103, MO false y6), (501, O s77.2.2.1), (503, O s77.2.2.2)])) (.cut (.ext 0) fun x78 => ([(11, H Int 101), (12, H Int 103)], [(101, O x78.1), (103, O x78.2)])) fun x78 =>
cl (f39v1.ok x78.2) fun y79 =>
ap x78.1 y79 fun l80 =>
.ret ((l80, (0 : Int))))

theorem f16.ok (p1 : List Vertex) (p2 : List Edge) (p3 p4 : Int) {x} (h : (f16 p1 p2 p3 p4).run = some x) : Spec Tryz.prog 16 [.aggp [.sl (p1.map Cel.enc), .sl (p2.map Cel.enc), .nilsl], V p3, V p4] [] (.tup [V x.1, V x.2]) [] :=
  Prg.ok Tryz.func16 (res := fun x => .tup [V x.1, V x.2]) (outs := fun x => []) (by kernel_rfl) (by kernel_rfl) rfl h

noncomputable def f17.l1 (p1 : List Vertex) (p3 : Int) (y5 : List (Int × (List Int))) (v22 : Int) (l23 : List Int) : Pg (Nx (Int × (List Int)) (Ex (List Int) Empty Empty)) :=
brr (decide (v22 < (L p1 : Int))) (
getR p1 v22 fun a24 =>
look y5 a24.ID ([] : List Int) fun a25 b26 =>
getR a25 (0 : Int) fun a27 =>
look y5 p3 ([] : List Int) fun a28 b29 =>
getR a28 (0 : Int) fun a30 =>
brr (a27 == a30) (
ap l23 ([a24.ID] : List Int) fun l31 =>
cont ((IntKind.i64.wrap (v22 + 1)), l31)) (
cont ((IntKind.i64.wrap (v22 + 1)), l23))) (
doneA l23)

noncomputable def f17 (p1 : List Vertex) (p2 : List Edge) (p3 : Int) : Pg ((List Int) × Int) :=
cl (f33.ok p1 p2 ([p3] : List Int)) fun y4 =>
brr (!y4) (
.ret ((([] : List Int), (70 : Int)))) (
cl (f25.ok p1 p2) fun y5 =>
loop1 ((0 : Int), ([] : List Int)) (fun s32 => f17.l1 p1 p3 y5 s32.1 s32.2) (fun s32 => ([(1, V p3), (6, .mp 101), (7, H Int 501), (18, V p1), (19, V (L p1 : Int)), (20, V s32.1)], [(101, MO false y5), (501, O s32.2)])) (.cut (.ext 0) fun x33 => ([(7, H Int 101)], [(101, O x33)])) fun x33 =>
.ret ((x33, (0 : Int))))

theorem f17.ok (p1 : List Vertex) (p2 : List Edge) (p3 : Int) {x} (h : (f17 p1 p2 p3).run = some x) : Spec Tryz.prog 17 [.aggp [.sl (p1.map Cel.enc), .sl (p2.map Cel.enc), .nilsl], V p3] [] (.tup [V x.1, V x.2]) [] :=
  Prg.ok Tryz.func17 (res := fun x => .tup [V x.1, V x.2]) (outs := fun x => []) (by kernel_rfl) (by kernel_rfl) rfl h

noncomputable def f79v1 (p1 : Int) (p2 : List Int) : Pg (Int × Bool) :=
cl (f98.ok ([] : List Vertex) p1) fun y3 =>
.ret ((y3.1, y3.2))

theorem f79v1.ok (p1 : Int) (p2 : List Int) {x} (h : (f79v1 p1 p2).run = some x) : Spec Tryz.prog 79 [R 0, V p1] [.varp [.nilsl, .nilsl, .sl (p2.map Cel.enc)]] (.tup [V x.1, V x.2]) [.varp [.nilsl, .nilsl, .sl (p2.map Cel.enc)]] :=
  Prg.ok Tryz.func79 (res := fun x => .tup [V x.1, V x.2]) (outs := fun x => [.varp [.nilsl, .nilsl, .sl (p2.map Cel.enc)]]) (by kernel_rfl) (by kernel_rfl) rfl h

noncomputable def f52v1 (p1 : Int) (p2 : List Int) : Pg Bool :=
cl (f79v1.ok p1 p2) fun y3 =>
.ret (y3.2)

theorem f52v1.ok (p1 : Int) (p2 : List Int) {x} (h : (f52v1 p1 p2).run = some x) : Spec Tryz.prog 52 [R 0, V p1] [.varp [.nilsl, .nilsl, .sl (p2.map Cel.enc)]] (V x) [.varp [.nilsl, .nilsl, .sl (p2.map Cel.enc)]] :=
  Prg.ok Tryz.func52 (res := fun x => V x) (outs := fun x => [.varp [.nilsl, .nilsl, .sl (p2.map Cel.enc)]]) (by kernel_rfl) (by kernel_rfl) rfl h

noncomputable def f50v1 (p1 : Edge) (p2 : List Int) : Pg Bool :=
cl (f51.ok p1) fun y3 =>
brr (!y3) (
.ret (true)) (
cl (f52v1.ok p1.From p2) fun y4 =>
brr (!y4) (
.ret (true)) (
cl (f52v1.ok p1.To p2) fun y5 =>
.ret ((!y5))))

theorem f50v1.ok (p1 : Edge) (p2 : List Int) {x} (h : (f50v1 p1 p2).run = some x) : Spec Tryz.prog 50 [V p1, R 0] [mkVar (R 2), .varp [.nilsl, .nilsl, .sl (p2.map Cel.enc)]] (V x) [mkVar (R 2), .varp [.nilsl, .nilsl, .sl (p2.map Cel.enc)]] :=
  Prg.ok Tryz.func50 (res := fun x => V x) (outs := fun x => [mkVar (R 2), .varp [.nilsl, .nilsl, .sl (p2.map Cel.enc)]]) (by kernel_rfl) (by kernel_rfl) rfl h

noncomputable def f85v1.l1 (p1 : List Edge) (p2 : List Int) (v5 : Int) : Pg (Nx Int (Ex (Int) Unit Empty)) :=
brr (decide (v5 < (L p1 : Int))) (
getR p1 v5 fun a6 =>
cl (f50v1.ok a6 p2) fun y7 =>
brr y7 (
doneA (v5)) (
cont (IntKind.i64.wrap (v5 + 1)))) (
doneB ())

noncomputable def f85v1 (p1 : List Edge) (p2 : List Int) : Pg Int :=
loop2 (0 : Int) (fun s8 => f85v1.l1 p1 p2 s8) (fun s8 => ([(0, V p1), (1, .clo 50 [R 0]), (7, V (L p1 : Int)), (8, V s8)], [(0, mkVar (R 2)), (2, .varp [.nilsl, .nilsl, .sl (p2.map Cel.enc)])])) .inl (fun r9 =>
.ret r9) (.cut (.ext 0) fun _ => ([], [(0, mkVar (R 2)), (2, .varp [.nilsl, .nilsl, .sl (p2.map Cel.enc)])])) fun _ =>
.ret (((-1) : Int))

theorem f85v1.ok (p1 : List Edge) (p2 : List Int) {x} (h : (f85v1 p1 p2).run = some x) : Spec Tryz.prog 85 [V p1, .clo 50 [R 0]] [mkVar (R 2), .varp [.nilsl, .nilsl, .sl (p2.map Cel.enc)]] (V x) [mkVar (R 2), .varp [.nilsl, .nilsl, .sl (p2.map Cel.enc)]] :=
  Prg.ok Tryz.func85 (res := fun x => V x) (outs := fun x => [mkVar (R 2), .varp [.nilsl, .nilsl, .sl (p2.map Cel.enc)]]) (by kernel_rfl) (by kernel_rfl) rfl h

noncomputable def f43v1 (p1 : List Edge) (p2 : List Int) : Pg Bool :=
cl (f85v1.ok p1 p2) fun y3 =>
.ret ((decide (y3 ≥ 0)))

theorem f43v1.ok (p1 : List Edge) (p2 : List Int) {x} (h : (f43v1 p1 p2).run = some x) : Spec Tryz.prog 43 [V p1, .clo 50 [R 0]] [mkVar (R 2), .varp [.nilsl, .nilsl, .sl (p2.map Cel.enc)]] (V x) [mkVar (R 2), .varp [.nilsl, .nilsl, .sl (p2.map Cel.enc)]] :=
  Prg.ok Tryz.func43 (res := fun x => V x) (outs := fun x => [mkVar (R 2), .varp [.nilsl, .nilsl, .sl (p2.map Cel.enc)]]) (by kernel_rfl) (by kernel_rfl) rfl h

noncomputable def f89v1 (p1 : Int) (p2 : List Int) : Pg Bool :=
cl (f52v1.ok p1 p2) fun y3 =>
.ret ((!y3))

theorem f89v1.ok (p1 : Int) (p2 : List Int) {x} (h : (f89v1 p1 p2).run = some x) : Spec Tryz.prog 89 [V p1, R 0] [mkVar (R 2), .varp [.nilsl, .nilsl, .sl (p2.map Cel.enc)]] (V x) [mkVar (R 2), .varp [.nilsl, .nilsl, .sl (p2.map Cel.enc)]] :=
  Prg.ok Tryz.func89 (res := fun x => V x) (outs := fun x => [mkVar (R 2), .varp [.nilsl, .nilsl, .sl (p2.map Cel.enc)]]) (by kernel_rfl) (by kernel_rfl) rfl h

noncomputable def f100v2.l1 (p1 p2 : List Int) (v5 : Int) : Pg (Nx Int (Ex (Int) Unit Empty)) :=
brr (decide (v5 < (L p1 : Int))) (
getR p1 v5 fun a6 =>
cl (f89v1.ok a6 p2) fun y7 =>
brr y7 (
doneA (v5)) (
cont (IntKind.i64.wrap (v5 + 1)))) (
doneB ())

noncomputable def f100v2 (p1 p2 : List Int) : Pg Int :=
loop2 (0 : Int) (fun s8 => f100v2.l1 p1 p2 s8) (fun s8 => ([(0, V p1), (1, .clo 89 [R 0]), (7, V (L p1 : Int)), (8, V s8)], [(0, mkVar (R 2)), (2, .varp [.nilsl, .nilsl, .sl (p2.map Cel.enc)])])) .inl (fun r9 =>
.ret r9) (.cut (.ext 0) fun _ => ([], [(0, mkVar (R 2)), (2, .varp [.nilsl, .nilsl, .sl (p2.map Cel.enc)])])) fun _ =>
.ret (((-1) : Int))

theorem f100v2.ok (p1 p2 : List Int) {x} (h : (f100v2 p1 p2).run = some x) : Spec Tryz.prog 100 [V p1, .clo 89 [R 0]] [mkVar (R 2), .varp [.nilsl, .nilsl, .sl (p2.map Cel.enc)]] (V x) [mkVar (R 2), .varp [.nilsl, .nilsl, .sl (p2.map Cel.enc)]] :=
  Prg.ok Tryz.func100 (res := fun x => V x) (outs := fun x => [mkVar (R 2), .varp [.nilsl, .nilsl, .sl (p2.map Cel.enc)]]) (by kernel_rfl) (by kernel_rfl) rfl h

noncomputable def f83v2 (p1 p2 : List Int) : Pg Bool :=
cl (f100v2.ok p1 p2) fun y3 =>
.ret ((decide (y3 ≥ 0)))

theorem f83v2.ok (p1 p2 : List Int) {x} (h : (f83v2 p1 p2).run = some x) : Spec Tryz.prog 83 [V p1, .clo 89 [R 0]] [mkVar (R 2), .varp [.nilsl, .nilsl, .sl (p2.map Cel.enc)]] (V x) [mkVar (R 2), .varp [.nilsl, .nilsl, .sl (p2.map Cel.enc)]] :=
  Prg.ok Tryz.func83 (res := fun x => V x) (outs := fun x => [mkVar (R 2), .varp [.nilsl, .nilsl, .sl (p2.map Cel.enc)]]) (by kernel_rfl) (by kernel_rfl) rfl h

noncomputable def f56v1 (p1 : List Int) : Pg Bool :=
brr (decide ((L p1 : Int) ≤ 3)) (
cl (f76.ok p1) fun y2 =>
brr y2 (
cl (f83v2.ok p1 p1) fun y3 =>
.ret ((!y3))) (
.ret (false))) (
.ret (false))

theorem f56v1.ok (p1 : List Int) {x} (h : (f56v1 p1).run = some x) : Spec Tryz.prog 56 [R 0] [.varp [.nilsl, .nilsl, .sl (p1.map Cel.enc)]] (V x) [.varp [.nilsl, .nilsl, .sl (p1.map Cel.enc)]] :=
  Prg.ok Tryz.func56 (res := fun x => V x) (outs := fun x => [.varp [.nilsl, .nilsl, .sl (p1.map Cel.enc)]]) (by kernel_rfl) (by kernel_rfl) rfl h

noncomputable def f24v1 (p1 : List Int) : Pg Bool :=
join1 (.reg 1) (
cl (f46.ok ([] : List Vertex)) fun y3 =>
brr (!y3) (
retA' true) (
cl (f48.ok ([] : List Edge)) fun y4 =>
retA' (!y4))) (.cut .nat fun x5 => ([(1, R 101), (14, V x5)], [(101, .varp [.nilsl, .nilsl, .sl (p1.map Cel.enc)])])) fun x5 =>
brr x5 (
.ret (false)) (
cl (f53.ok ([] : List Vertex)) fun y6 =>
brr (!y6) (
cl (f43v1.ok ([] : List Edge) p1) fun y7 =>
brr (!y7) (
cl (f56v1.ok p1) fun y8 =>
.ret (y8)) (
.ret (false))) (
.ret (false)))

theorem f24v1.ok (p1 : List Int) {x} (h : (f24v1 p1).run = some x) : Spec Tryz.prog 24 [.aggp [.nilsl, .nilsl, .sl (p1.map Cel.enc)]] [] (V x) [] :=
  Prg.ok Tryz.func24 (res := fun x => V x) (outs := fun x => []) (by kernel_rfl) (by kernel_rfl) rfl h

noncomputable def f25v1 (p1 : List Int) : Pg (List (Int × (List Int))) := .no
theorem f25v1.ok (p1 : List Int) {x} (h : (f25v1 p1).run = some x) : Spec Tryz.prog 25 [.aggp [.nilsl, .nilsl, .sl (p1.map Cel.enc)]] [] (.mp 0) [MO false x] := by cases h

noncomputable def f6v1.l1 : Pg (Nx Unit (Ex Unit Empty Empty)) :=
brr (decide ((0 : Int) < 0)) (
.no) (
doneA ())

noncomputable def f6v1 (p1 : List Int) : Pg Int :=
cl (f24v1.ok p1) fun y2 =>
brr (!y2) (
.ret ((70 : Int))) (
cl (f25v1.ok p1) fun y3 =>
loop1 () (fun _ => f6v1.l1) (fun _ => ([(4, .mp 101), (5, .pv .nilsl), (14, .pv .nilsl), (15, V (0 : Int)), (16, V (0 : Int))], [(101, MO false y3)])) (.cut (.ext 0) fun _ => ([(5, .pv .nilsl)], [])) fun _ =>
.ret ((0 : Int)))

theorem f6v1.ok (p1 : List Int) {x} (h : (f6v1 p1).run = some x) : Spec Tryz.prog 6 [.aggp [.nilsl, .nilsl, .sl (p1.map Cel.enc)]] [] (.tup [V ([] : List Named), V x]) [] :=
  Prg.ok Tryz.func6 (res := fun x => .tup [V ([] : List Named), V x]) (outs := fun x => []) (by kernel_rfl) (by kernel_rfl) rfl h

noncomputable def f35.l1 (p1 : List Vertex) (p3 : Int) (v5 : Int) : Pg (Nx Int (Ex (Int) Unit Empty)) :=
brr (decide (v5 < (L p1 : Int))) (
getR p1 v5 fun a6 =>
brr (a6.ID == p3) (
doneA (v5)) (
cont (IntKind.i64.wrap (v5 + 1)))) (
doneB ())

noncomputable def f35 (p1 : List Vertex) (p2 : List Edge) (p3 : Int) : Pg Int :=
loop2 (0 : Int) (fun s7 => f35.l1 p1 p3 s7) (fun s7 => ([(1, V p3), (2, R 101), (5, V s7)], [(101, .varp [.sl (p1.map Cel.enc), .sl (p2.map Cel.enc), .nilsl])])) .inl (fun r8 =>
.ret r8) (.cut (.ext 0) fun _ => ([], [])) fun _ =>
.ret (((-1) : Int))

theorem f35.ok (p1 : List Vertex) (p2 : List Edge) (p3 : Int) {x} (h : (f35 p1 p2 p3).run = some x) : Spec Tryz.prog 35 [.aggp [.sl (p1.map Cel.enc), .sl (p2.map Cel.enc), .nilsl], V p3] [] (V x) [] :=
  Prg.ok Tryz.func35 (res := fun x => V x) (outs := fun x => []) (by kernel_rfl) (by kernel_rfl) rfl h

noncomputable def f36.l1 (p1 : List Vertex) (p2 : List Edge) (p3 : Int) (v16 : Int) (l17 : List Edge) : Pg (Nx (Int × (List Edge)) (Ex (List Edge) Empty Empty)) :=
brr (decide (v16 < (L p2 : Int))) (
join1 (.reg 5) (
getR p2 v16 fun a19 =>
brr (a19.From == p3) (
retA' true) (
getR p2 v16 fun a20 =>
retA' (a20.To == p3))) (.cut .nat fun x21 => ([(1, V p3), (2, R 101), (5, H Edge 103), (6, V v16), (31, V x21)], [(101, .varp [.sl (p1.map Cel.enc), .sl (p2.map Cel.enc), .nilsl]), (103, O l17)])) fun x21 =>
brr x21 (
getR p2 v16 fun a22 =>
ap l17 ([a22] : List Edge) fun l23 =>
cont ((IntKind.i64.wrap (v16 + 1)), l23)) (
cont ((IntKind.i64.wrap (v16 + 1)), l17))) (
doneA l17)

noncomputable def f36 (p1 : List Vertex) (p2 : List Edge) (p3 : Int) : Pg (List Edge) :=
loop1 ((0 : Int), ([] : List Edge)) (fun s24 => f36.l1 p1 p2 p3 s24.1 s24.2) (fun s24 => ([(1, V p3), (2, R 101), (5, H Edge 501), (6, V s24.1)], [(101, .varp [.sl (p1.map Cel.enc), .sl (p2.map Cel.enc), .nilsl]), (501, O s24.2)])) (.cut (.ext 0) fun x25 => ([(5, H Edge 101)], [(101, O x25)])) fun x25 =>
.ret (x25)

theorem f36.ok (p1 : List Vertex) (p2 : List Edge) (p3 : Int) {x} (h : (f36 p1 p2 p3).run = some x) : Spec Tryz.prog 36 [.aggp [.sl (p1.map Cel.enc), .sl (p2.map Cel.enc), .nilsl], V p3] [] (V x) [] :=
  Prg.ok Tryz.func36 (res := fun x => V x) (outs := fun x => []) (by kernel_rfl) (by kernel_rfl) rfl h

noncomputable def f37 (p1 : Edge) (p2 : Int) : Pg Int :=
brr (p1.From == p2) (
.ret (p1.To)) (
brr (p1.To == p2) (
.ret (p1.From)) (
.ret (((-1) : Int))))

theorem f37.ok (p1 : Edge) (p2 : Int) {x} (h : (f37 p1 p2).run = some x) : Spec Tryz.prog 37 [V p1, V p2] [] (V x) [] :=
  Prg.ok Tryz.func37 (res := fun x => V x) (outs := fun x => []) (by kernel_rfl) (by kernel_rfl) rfl h

noncomputable def f14.l1 (p3 : List Named) (p4 : Int) (y7 : List Edge) (v40 : Int) (v46 : Bool) (v47 : Int) : Pg (Nx (Bool × Int) (Ex Bool Empty Empty)) :=
brr (decide (v47 < (L y7 : Int))) (
brr v46 (
cont (true, (IntKind.i64.wrap (v47 + 1)))) (
getR y7 v47 fun a48 =>
cl (f37.ok a48 p4) fun y49 =>
getR p3 v40 fun a50 =>
cont ((y49 == a50.ID), (IntKind.i64.wrap (v47 + 1))))) (
doneA v46)

noncomputable def f14.l2 (p3 : List Named) (p4 : Int) (l6 : List Int) (y7 : List Edge) (x9 : Int × Int) (v40 : Int) (l41 : List Named) : Pg (Nx (Int × (List Named)) (Ex (List Named) Empty Empty)) :=
brr (decide (v40 < (L p3 : Int))) (
getR p3 v40 fun a42 =>
loop1 ((a42.ID == p4), (0 : Int)) (fun s51 => f14.l1 p3 p4 y7 v40 s51.1 s51.2) (fun s51 => ([(1, V p3), (2, V p4), (6, R 101), (8, R 103), (9, V v40), (10, V s51.1), (11, V s51.2)], [(101, .varp [.int .i64 0, .int .i64 0, .nilsl, .nilsl, .nilsl]), (103, .var [V x9.1, V x9.2, H Int 105, V y7, H Named 107]), (105, O l6), (107, O l41)])) (.cut (.ext 2) fun x52 => ([(1, V p3), (2, V p4), (6, R 101), (8, R 103), (9, V v40), (10, V x52)], [(101, .varp [.int .i64 0, .int .i64 0, .nilsl, .nilsl, .nilsl]), (103, .var [V x9.1, V x9.2, H Int 105, V y7, H Named 107]), (105, O l6), (107, O l41)])) fun x52 =>
brr x52 (
getR p3 v40 fun a53 =>
getR p3 v40 fun a54 =>
ap ([] : List Int) a54.Label fun l55 =>
ap l41 ([(Named.mk a53.ID l55)] : List Named) fun l56 =>
cont ((IntKind.i64.wrap (v40 + 1)), l56)) (
cont ((IntKind.i64.wrap (v40 + 1)), l41))) (
doneA l41)

noncomputable def f14 (p1 : List Vertex) (p2 : List Edge) (p3 : List Named) (p4 : Int) : Pg View :=
cl (f35.ok p1 p2 p4) fun y5 =>
ap ([] : List Int) [] fun l6 =>
cl (f36.ok p1 p2 p4) fun y7 =>
join1 (.cond 24) (
brr (decide (y5 ≥ 0)) (
getR p1 y5 fun a8 =>
retA' (a8.ID, a8.Side)) (
retA' ((0 : Int), (0 : Int)))) (.cut .nat fun x9 => ([(1, V p3), (2, V p4), (6, R 101), (8, R 103)], [(101, .varp [.int .i64 0, .int .i64 0, .nilsl, .nilsl, .nilsl]), (103, .var [V x9.1, V x9.2, H Int 105, V y7, .pv .nilsl]), (105, O l6)])) fun x9 =>
loop1 ((0 : Int), ([] : List Named)) (fun s57 => f14.l2 p3 p4 l6 y7 x9 s57.1 s57.2) (fun s57 => ([(1, V p3), (2, V p4), (6, R 101), (8, R 103), (9, V s57.1)], [(101, .varp [.int .i64 0, .int .i64 0, .nilsl, .nilsl, .nilsl]), (103, .var [V x9.1, V x9.2, H Int 105, V y7, H Named 501]), (105, O l6), (501, O s57.2)])) (.cut (.ext 0) fun x58 => ([(6, R 101), (8, R 103)], [(101, .varp [.int .i64 0, .int .i64 0, .nilsl, .nilsl, .nilsl]), (103, .var [V x9.1, V x9.2, H Int 105, V y7, H Named 107]), (105, O l6), (107, O x58)])) fun x58 =>
.ret ((View.mk (Vertex.mk x9.1 x9.2) l6 y7 x58))

theorem f14.ok (p1 : List Vertex) (p2 : List Edge) (p3 : List Named) (p4 : Int) {x} (h : (f14 p1 p2 p3 p4).run = some x) : Spec Tryz.prog 14 [.aggp [.sl (p1.map Cel.enc), .sl (p2.map Cel.enc), .nilsl], V p3, V p4] [] (V x) [] :=
  Prg.ok Tryz.func14 (res := fun x => V x) (outs := fun x => []) (by kernel_rfl) (by kernel_rfl) rfl h

noncomputable def f40 (p1 p2 : Int) : Pg Int :=
brr (decide (p1 < 0)) (
nzD p2 <|
.ret (((IntKind.i64.wrap (0 - (IntKind.i64.wrap (p1 + 1)))).tmod p2))) (
nzD p2 <|
.ret ((p1.tmod p2)))

theorem f40.ok (p1 p2 : Int) {x} (h : (f40 p1 p2).run = some x) : Spec Tryz.prog 40 [V p1, V p2] [] (V x) [] :=
  Prg.ok Tryz.func40 (res := fun x => V x) (outs := fun x => []) (by kernel_rfl) (by kernel_rfl) rfl h

noncomputable def f18.l1 [Fm] (p1 : List Named) (p2 : List A3_Int) (i : Int) (M : List (List Int)) (o : List NamedR) : Pg (Nx (Int × List (List Int) × List NamedR) (Ex (List (List Int) × List NamedR) Empty Empty)) :=
brr (decide (i < (L p1 : Int))) (
getR p1 i fun a1 =>
getR p1 i fun a2 =>
apM M ([] : List Int) a2.Label fun l3 =>
ap o ([NamedR.mk a1.ID ⟨LM M, 0, L l3⟩] : List NamedR) fun l4 =>
cont ((IntKind.i64.wrap (i + 1)), M ++ [l3], l4)) (
doneA (M, o))

noncomputable def f18.l2 [Fm] (p2 : List A3_Int) (v : Int) (M : List (List Int)) (o : List NamedR) : Pg (Nx (Int × List (List Int) × List NamedR) (Ex (List (List Int) × List NamedR) Empty Empty)) :=
brr ((decide (v < (L p2 : Int))) && (decide (v < 4))) (
brr (decide ((L o : Int) > 0)) (
getR p2 v fun a32 =>
cl (f40.ok a32.x0 (L o : Int)) fun k =>
getR p2 v fun a34 =>
ck k (L o) <|
rd o (at0 k) fun a35 =>
cl (f40.ok a34.x1 (IntKind.i64.wrap ((a35.Label.len : Int) + 1))) fun n =>
ck k (L o) <|
rd o (at0 k) fun a37 =>
brr (n == (a37.Label.len : Int)) (
getR p2 v fun a38 =>
cl (f40.ok a38.x2 (L o : Int)) fun m =>
getR p2 v fun a40 =>
cl (f40.ok a40.x2 (5 : Int)) fun y41 =>
brr ((y41 == 0) && (decide (n > 0))) (
ck k (L o) <|
rd o (at0 k) fun a5 =>
bHi (IntKind.i64.wrap (n - 1)) a5.Label.len <|
ck k (L o) <|
st o (at0 k) (fun a => NamedR.mk a.ID ⟨a5.Label.i, a5.Label.off + 0, (IntKind.i64.wrap (n - 1)).toNat - 0⟩) fun o2 =>
cont (IntKind.i64.wrap (v + 1), M, o2)) (
ck m (L o) <|
rd o (at0 m) fun b =>
ck k (L o) <|
rd o (at0 k) fun a =>
ck k (L o) <|
st o (at0 k) (fun x => NamedR.mk x.ID b.Label) fun o2 =>
ck m (L o2) <|
st o2 (at0 m) (fun x => NamedR.mk x.ID a.Label) fun o3 =>
cont (IntKind.i64.wrap (v + 1), M, o3))) (
getR p2 v fun a42 =>
cl (f40.ok a42.x2 (3 : Int)) fun y43 =>
brr (y43 == 0) (
ck k (L o) <|
rd o (at0 k) fun a =>
getR p2 v fun a44 =>
cl (f40.ok a44.x2 (12 : Int)) fun y45 =>
ck n a.Label.len <|
stM M a.Label.i (a.Label.off + n.toNat) (IntKind.i64.wrap (y45 - 2)) fun M2 =>
cont (IntKind.i64.wrap (v + 1), M2, o)) (
ck k (L o) <|
rd o (at0 k) fun a =>
ck k (L o) <|
rd o (at0 k) fun b =>
ck n b.Label.len <|
rdM M b.Label.i (b.Label.off + n.toNat) fun a46 =>
getR p2 v fun a47 =>
cl (f40.ok a47.x2 (5 : Int)) fun y48 =>
ck n a.Label.len <|
stM M a.Label.i (a.Label.off + n.toNat) (IntKind.i64.wrap ((IntKind.i64.wrap (a46 + y48)) - 2)) fun M2 =>
cont (IntKind.i64.wrap (v + 1), M2, o)))) (
doneA (M, o))) (
doneA (M, o))

noncomputable def f18.fm [Fm] (p1 : List Named) (p2 : List A3_Int) : Pg (List Named) :=
loop1 ((0 : Int), ([] : List (List Int)), ([] : List NamedR)) (fun s => f18.l1 p1 p2 s.1 s.2.1 s.2.2) (fun s => ([(0, V p1), (1, V p2), (5, H NamedR 101), (6, V s.1)], [(3, FM s.2.1), (101, O s.2.2)])) (.cut (.ext 0) fun x => ([(1, V p2), (5, H NamedR 101)], [(3, FM x.1), (101, O x.2)])) fun x =>
loop1 ((0 : Int), x.1, x.2) (fun s => f18.l2 p2 s.1 s.2.1 s.2.2) (fun s => ([(1, V p2), (5, H NamedR 101), (7, V s.1)], [(3, FM s.2.1), (101, O s.2.2)])) (.cut (.ext 2) fun x => ([(5, H NamedR 101)], [(3, FM x.1), (101, O x.2)])) fun x =>
tellN 101 x.1 x.2 fun y =>
.ret y

theorem f18.l1.same (f g : Fm) (p1 p2) (i : Int) (M : List (List Int)) (o : List NamedR) : (@f18.l1 f p1 p2 i M o).run = (@f18.l1 g p1 p2 i M o).run := by
  simp only [f18.l1, r_brr, r_getR, r_apM, r_ap, r_ret, L_eq]
theorem f18.l2.same (f g : Fm) (p2) (i : Int) (M : List (List Int)) (o : List NamedR) : (@f18.l2 f p2 i M o).run = (@f18.l2 g p2 i M o).run := by
  simp only [f18.l2, r_brr, r_getR, r_rd, r_ck, r_cl, r_ret, L_eq, r_st, r_bHi, r_rdM, r_stM]
theorem f18.same (f g : Fm) (p1 p2) : (@f18.fm f p1 p2).run = (@f18.fm g p1 p2).run := by
  simp only [f18.fm, r_loop1, f18.l1.same f g, f18.l2.same f g, r_ret, r_tellN]
noncomputable abbrev f18 (p1 : List Named) (p2 : List A3_Int) : Pg (List Named) := @f18.fm ⟨0⟩ p1 p2
theorem f18.ok (p1 : List Named) (p2 : List A3_Int) {x} (h : (f18 p1 p2).run = some x) : Spec Tryz.prog 18 [V p1, V p2] [] (V x) [] :=
  Prg.okF (p := fun f => @f18.fm ⟨f⟩ p1 p2) Tryz.func18 1 (res := fun x => V x) (outs := fun x => []) (by kernel_rfl) (by kernel_rfl) rfl (fun f => (f18.same ⟨f⟩ ⟨0⟩ p1 p2).trans h)

noncomputable def f19.l1 (p1 : List Vertex) (p2 : List Edge) (p5 : List Int) (v9 v10 : Int) : Pg (Nx (Int × Int) (Ex (Bool) Int Empty)) :=
brr (decide (v10 < (L p5 : Int))) (
getR p5 v10 fun a11 =>
cl (f38.ok p1 p2 v9 a11) fun y12 =>
brr (decide (y12 < 0)) (
doneA (false)) (
cont (y12, (IntKind.i64.wrap (v10 + 1))))) (
doneB v9)

noncomputable def f19 (p1 : List Vertex) (p2 : List Edge) (p3 p4 : Int) (p5 : List Int) : Pg Bool :=
cl (f33.ok p1 p2 ([p3, p4] : List Int)) fun y6 =>
brr ((!y6) || (decide ((L p5 : Int) > 40))) (
.ret (false)) (
loop2 (p3, (0 : Int)) (fun s13 => f19.l1 p1 p2 p5 s13.1 s13.2) (fun s13 => ([(1, V s13.1), (2, V p4), (4, R 101), (22, V p5), (23, V (L p5 : Int)), (24, V s13.2)], [(101, .varp [.sl (p1.map Cel.enc), .sl (p2.map Cel.enc), .nilsl])])) .inl (fun r14 =>
.ret r14) (.cut (.ext 0) fun x15 => ([(1, V x15), (2, V p4)], [])) fun x15 =>
.ret ((x15 == p4)))

theorem f19.ok (p1 : List Vertex) (p2 : List Edge) (p3 p4 : Int) (p5 : List Int) {x} (h : (f19 p1 p2 p3 p4 p5).run = some x) : Spec Tryz.prog 19 [.aggp [.sl (p1.map Cel.enc), .sl (p2.map Cel.enc), .nilsl], V p3, V p4, V p5] [] (V x) [] :=
  Prg.ok Tryz.func19 (res := fun x => V x) (outs := fun x => []) (by kernel_rfl) (by kernel_rfl) rfl h

noncomputable def f84.l1 (p1 : List Int) (p2 : Int) (v4 : Int) : Pg (Nx Int (Ex (Int) Unit Empty)) :=
brr (decide (v4 < (L p1 : Int))) (
getR p1 v4 fun a5 =>
brr (p2 == a5) (
doneA (v4)) (
cont (IntKind.i64.wrap (v4 + 1)))) (
doneB ())

noncomputable def f84 (p1 : List Int) (p2 : Int) : Pg Int :=
loop2 (0 : Int) (fun s6 => f84.l1 p1 p2 s6) (fun s6 => ([(0, V p1), (1, V p2), (7, V (L p1 : Int)), (8, V s6)], [])) .inl (fun r7 =>
.ret r7) (.cut (.ext 0) fun _ => ([], [])) fun _ =>
.ret (((-1) : Int))

theorem f84.ok (p1 : List Int) (p2 : Int) {x} (h : (f84 p1 p2).run = some x) : Spec Tryz.prog 84 [V p1, V p2] [] (V x) [] :=
  Prg.ok Tryz.func84 (res := fun x => V x) (outs := fun x => []) (by kernel_rfl) (by kernel_rfl) rfl h

noncomputable def f41 (p1 : List Int) (p2 : Int) : Pg Bool :=
cl (f84.ok p1 p2) fun y3 =>
.ret ((decide (y3 ≥ 0)))

theorem f41.ok (p1 : List Int) (p2 : Int) {x} (h : (f41 p1 p2).run = some x) : Spec Tryz.prog 41 [V p1, V p2] [] (V x) [] :=
  Prg.ok Tryz.func41 (res := fun x => V x) (outs := fun x => []) (by kernel_rfl) (by kernel_rfl) rfl h

noncomputable def f84v1.l1 (p1 : List Int) (p2 : Int) (v4 : Int) : Pg (Nx Int (Ex (Int) Unit Empty)) :=
brr (decide (v4 < (L p1 : Int))) (
getR p1 v4 fun a5 =>
brr (p2 == a5) (
doneA (v4)) (
cont (IntKind.i64.wrap (v4 + 1)))) (
doneB ())

noncomputable def f84v1 (p1 : List Int) (p2 : Int) : Pg Int :=
loop2 (0 : Int) (fun s6 => f84v1.l1 p1 p2 s6) (fun s6 => ([(0, V p1), (1, V p2), (7, V (L p1 : Int)), (8, V s6)], [])) .inl (fun r7 =>
.ret r7) (.cut (.ext 0) fun _ => ([], [])) fun _ =>
.ret (((-1) : Int))

theorem f84v1.ok (p1 : List Int) (p2 : Int) {x} (h : (f84v1 p1 p2).run = some x) : Spec Tryz.prog 84 [V p1, V p2] [] (V x) [] :=
  Prg.ok Tryz.func84 (res := fun x => V x) (outs := fun x => []) (by kernel_rfl) (by kernel_rfl) rfl h

noncomputable def f41v1 (p1 : List Int) (p2 : Int) : Pg Bool :=
cl (f84v1.ok p1 p2) fun y3 =>
.ret ((decide (y3 ≥ 0)))

theorem f41v1.ok (p1 : List Int) (p2 : Int) {x} (h : (f41v1 p1 p2).run = some x) : Spec Tryz.prog 41 [V p1, V p2] [] (V x) [] :=
  Prg.ok Tryz.func41 (res := fun x => V x) (outs := fun x => []) (by kernel_rfl) (by kernel_rfl) rfl h

noncomputable def f42 (p1 : Edge) (p2 : List Int) : Pg Bool :=
cl (f41v1.ok p2 p1.From) fun y3 =>
cl (f41v1.ok p2 p1.To) fun y4 =>
.ret ((!(y3 == y4)))

theorem f42.ok (p1 : Edge) (p2 : List Int) {x} (h : (f42 p1 p2).run = some x) : Spec Tryz.prog 42 [V p1, R 0] [B p2] (V x) [B p2] :=
  Prg.ok Tryz.func42 (res := fun x => V x) (outs := fun x => [B p2]) (by kernel_rfl) (by kernel_rfl) rfl h

noncomputable def f85v2.l1 (p1 : List Edge) (p2 : List Int) (v5 : Int) : Pg (Nx Int (Ex (Int) Unit Empty)) :=
brr (decide (v5 < (L p1 : Int))) (
getR p1 v5 fun a6 =>
cl (f42.ok a6 p2) fun y7 =>
brr y7 (
doneA (v5)) (
cont (IntKind.i64.wrap (v5 + 1)))) (
doneB ())

noncomputable def f85v2 (p1 : List Edge) (p2 : List Int) : Pg Int :=
loop2 (0 : Int) (fun s8 => f85v2.l1 p1 p2 s8) (fun s8 => ([(0, V p1), (1, .clo 42 [R 0]), (7, V (L p1 : Int)), (8, V s8)], [(0, B p2)])) .inl (fun r9 =>
.ret r9) (.cut (.ext 0) fun _ => ([], [(0, B p2)])) fun _ =>
.ret (((-1) : Int))

theorem f85v2.ok (p1 : List Edge) (p2 : List Int) {x} (h : (f85v2 p1 p2).run = some x) : Spec Tryz.prog 85 [V p1, .clo 42 [R 0]] [B p2] (V x) [B p2] :=
  Prg.ok Tryz.func85 (res := fun x => V x) (outs := fun x => [B p2]) (by kernel_rfl) (by kernel_rfl) rfl h

noncomputable def f43v2 (p1 : List Edge) (p2 : List Int) : Pg Bool :=
cl (f85v2.ok p1 p2) fun y3 =>
.ret ((decide (y3 ≥ 0)))

theorem f43v2.ok (p1 : List Edge) (p2 : List Int) {x} (h : (f43v2 p1 p2).run = some x) : Spec Tryz.prog 43 [V p1, .clo 42 [R 0]] [B p2] (V x) [B p2] :=
  Prg.ok Tryz.func43 (res := fun x => V x) (outs := fun x => [B p2]) (by kernel_rfl) (by kernel_rfl) rfl h

noncomputable def f20.l1 (p5 : List Int) (v15 : Int) : Pg (Nx Int (Ex (Bool) Unit Empty)) :=
brr (decide (v15 < (L p5 : Int))) (
getR p5 v15 fun a16 =>
brr (decide (v15 > 0)) (
getR p5 (IntKind.i64.wrap (v15 - 1)) fun a17 =>
brr (decide (a17 ≥ a16)) (
doneA (false)) (
cont (IntKind.i64.wrap (v15 + 1)))) (
cont (IntKind.i64.wrap (v15 + 1)))) (
doneB ())

noncomputable def f20 (p1 : List Vertex) (p2 : List Edge) (p3 p4 : Int) (p5 : List Int) : Pg Bool :=
join1 (.reg 1) (
ap ([p3, p4] : List Int) p5 fun l8 =>
cl (f33.ok p1 p2 l8) fun y9 =>
brr (!y9) (
retA' true) (
cl (f41.ok p5 p3) fun y10 =>
brr (!y10) (
retA' true) (
cl (f41.ok p5 p4) fun y11 =>
retA' y11))) (.cut .nat fun x12 => ([(4, R 101), (7, R 103), (30, V x12)], [(101, .varp [.sl (p1.map Cel.enc), .sl (p2.map Cel.enc), .nilsl]), (103, B p5)])) fun x12 =>
brr x12 (
.ret (false)) (
loop2 (0 : Int) (fun s18 => f20.l1 p5 s18) (fun s18 => ([(4, R 101), (7, R 103), (31, V p5), (32, V (L p5 : Int)), (33, V s18)], [(101, .varp [.sl (p1.map Cel.enc), .sl (p2.map Cel.enc), .nilsl]), (103, B p5)])) .inl (fun r19 =>
.ret r19) (.cut (.ext 0) fun _ => ([(4, R 101), (7, R 103)], [(101, .varp [.sl (p1.map Cel.enc), .sl (p2.map Cel.enc), .nilsl]), (103, B p5)])) fun _ =>
cl (f43v2.ok p2 p5) fun y21 =>
.ret ((!y21)))

theorem f20.ok (p1 : List Vertex) (p2 : List Edge) (p3 p4 : Int) (p5 : List Int) {x} (h : (f20 p1 p2 p3 p4 p5).run = some x) : Spec Tryz.prog 20 [.aggp [.sl (p1.map Cel.enc), .sl (p2.map Cel.enc), .nilsl], V p3, V p4, V p5] [] (V x) [] :=
  Prg.ok Tryz.func20 (res := fun x => V x) (outs := fun x => []) (by kernel_rfl) (by kernel_rfl) rfl h

noncomputable def f21.l1 (p1 p2 : List Int) (v5 : Int) : Pg (Nx Int (Ex (Bool) Unit Empty)) :=
brr (decide (v5 < (L p1 : Int))) (
getR p1 v5 fun a6 =>
getR p2 v5 fun a7 =>
brr (a6 != a7) (
doneA (false)) (
cont (IntKind.i64.wrap (v5 + 1)))) (
doneB ())

noncomputable def f21 (p1 p2 : List Int) : Pg Bool :=
brr ((L p1 : Int) != (L p2 : Int)) (
.ret (false)) (
loop2 (0 : Int) (fun s8 => f21.l1 p1 p2 s8) (fun s8 => ([(0, V p1), (1, V p2), (5, V s8)], [])) .inl (fun r9 =>
.ret r9) (.cut (.ext 0) fun _ => ([], [])) fun _ =>
.ret (true))

theorem f21.ok (p1 p2 : List Int) {x} (h : (f21 p1 p2).run = some x) : Spec Tryz.prog 21 [V p1, V p2] [] (V x) [] :=
  Prg.ok Tryz.func21 (res := fun x => V x) (outs := fun x => []) (by kernel_rfl) (by kernel_rfl) rfl h

noncomputable def f9.l1 (p1 p2 : List Named) (v8 : Int) : Pg (Nx Int (Ex (Bool) Unit Empty)) :=
brr (decide (v8 < (L p1 : Int))) (
getR p1 v8 fun a9 =>
getR p2 v8 fun a10 =>
brr (a9.ID != a10.ID) (
doneA (false)) (
getR p1 v8 fun a11 =>
getR p2 v8 fun a12 =>
cl (f21.ok a11.Label a12.Label) fun y13 =>
brr (!y13) (
doneA (false)) (
cont (IntKind.i64.wrap (v8 + 1))))) (
doneB ())

noncomputable def f9 (p1 p2 : List Named) : Pg Bool :=
brr ((L p1 : Int) != (L p2 : Int)) (
.ret (false)) (
loop2 (0 : Int) (fun s14 => f9.l1 p1 p2 s14) (fun s14 => ([(0, V p1), (1, V p2), (5, V s14)], [])) .inl (fun r15 =>
.ret r15) (.cut (.ext 0) fun _ => ([], [])) fun _ =>
.ret (true))

theorem f9.ok (p1 p2 : List Named) {x} (h : (f9 p1 p2).run = some x) : Spec Tryz.prog 9 [V p1, V p2] [] (V x) [] :=
  Prg.ok Tryz.func9 (res := fun x => V x) (outs := fun x => []) (by kernel_rfl) (by kernel_rfl) rfl h

noncomputable def f34.l1 (p1 : View) (v7 : Int) (l8 : List (Int × (Option (List Int)))) : Pg (Nx (Int × (List (Int × (Option (List Int))))) (Ex (List (Int × (Option (List Int)))) Empty Empty)) :=
brr (decide (v7 < (L p1.Labels : Int))) (
getR p1.Labels v7 fun a9 =>
lookK l8 a9.ID fun a10 b11 =>
brr b11 (
cont ((IntKind.i64.wrap (v7 + 1)), l8)) (
msetO l8 a9.ID none fun m12 =>
brr ((L a9.Label : Int) == 3) (
msetO m12 a9.ID (some a9.Label) fun m13 =>
cont ((IntKind.i64.wrap (v7 + 1)), m13)) (
cont ((IntKind.i64.wrap (v7 + 1)), m12)))) (
doneA l8)

noncomputable def f34 (p1 : View) : Pg (List (Int × (Option (List Int)))) :=
loop1 ((0 : Int), ([] : List (Int × (Option (List Int))))) (fun s14 => f34.l1 p1 s14.1 s14.2) (fun s14 => ([(3, .mp 101), (10, V p1.Labels), (11, V (L p1.Labels : Int)), (12, V s14.1)], [(101, MO false s14.2)])) (.cut (.ext 0) fun x15 => ([(3, .mp 101)], [(101, MO false x15)])) fun x15 =>
.ret (x15)

theorem f34.ok (p1 : View) {x} (h : (f34 p1).run = some x) : Spec Tryz.prog 34 [V p1] [] (.mp 0) [MO false x] :=
  Prg.ok Tryz.func34 (res := fun x => .mp 0) (outs := fun x => [MO false x]) (by kernel_rfl) (by kernel_rfl) rfl h

noncomputable def f86 (p1 : Int) : Pg Unit :=
.ret (())

theorem f86.ok (p1 : Int) {x} (h : (f86 p1).run = some x) : Spec Tryz.prog 86 [V p1] [] (V ((decide (p1 ≥ 0)) && (decide (p1 < 24)))) [] :=
  Prg.ok Tryz.func86 (res := fun x => V ((decide (p1 ≥ 0)) && (decide (p1 < 24)))) (outs := fun x => []) (by kernel_rfl) (by kernel_rfl) rfl h

noncomputable def f87 (p1 : Edge) (p2 : Int) (p3 : View) : Pg Bool :=
join1 (.reg 1) (
brr (decide (p1.ID > p2)) (
brr (decide (p1.ID < 40)) (
brr (decide (p1.Weight ≥ (-1000))) (
retA' (decide (p1.Weight ≤ 1000))) (
retA' false)) (
retA' false)) (
retA' false)) (.cut .nat fun x4 => ([(1, R 0), (2, R 2), (3, R 4), (4, R 101), (6, V x4)], [(0, B p2), (2, mkVar (.clo 86 [])), (4, B p3), (101, B p1)])) fun x4 =>
brr (!x4) (
.ret (true)) (
cl (f86.ok p1.From) fun _ =>
brr (!((decide (p1.From ≥ 0)) && (decide (p1.From < 24)))) (
.ret (true)) (
cl (f86.ok p1.To) fun _ =>
brr (!((decide (p1.To ≥ 0)) && (decide (p1.To < 24)))) (
.ret (true)) (
brr (p1.From != p3.Vertex.ID) (
.ret ((p1.To != p3.Vertex.ID))) (
.ret (false)))))

theorem f87.ok (p1 : Edge) (p2 : Int) (p3 : View) {x} (h : (f87 p1 p2 p3).run = some x) : Spec Tryz.prog 87 [V p1, R 0, R 2, R 4] [B p2, mkVar (.clo 86 []), B p3] (V x) [B p1.ID, mkVar (.clo 86 []), B p3] :=
  Prg.ok Tryz.func87 (res := fun x => V x) (outs := fun x => [B p1.ID, mkVar (.clo 86 []), B p3]) (by kernel_rfl) (by kernel_rfl) rfl h

noncomputable def f85v3.l1 (p1 : List Edge) (p3 : View) (v6 l7 : Int) : Pg (Nx (Int × Int) (Ex (Int × Int) Int Empty)) :=
brr (decide (v6 < (L p1 : Int))) (
getR p1 v6 fun a8 =>
cl (f87.ok a8 l7 p3) fun y9 =>
brr y9 (
doneA ((v6, a8.ID))) (
cont ((IntKind.i64.wrap (v6 + 1)), a8.ID))) (
doneB l7)

noncomputable def f85v3 (p1 : List Edge) (p2 : Int) (p3 : View) : Pg (Int × Int) :=
loop2 ((0 : Int), p2) (fun s10 => f85v3.l1 p1 p3 s10.1 s10.2) (fun s10 => ([(0, V p1), (1, .clo 87 [R 0, R 2, R 4]), (7, V (L p1 : Int)), (8, V s10.1)], [(0, B s10.2), (2, mkVar (.clo 86 [])), (4, B p3)])) .inl (fun r11 =>
.ret r11) (.cut (.ext 0) fun x12 => ([], [(0, B x12), (2, mkVar (.clo 86 [])), (4, B p3)])) fun x12 =>
.ret ((((-1) : Int), x12))

theorem f85v3.ok (p1 : List Edge) (p2 : Int) (p3 : View) {x} (h : (f85v3 p1 p2 p3).run = some x) : Spec Tryz.prog 85 [V p1, .clo 87 [R 0, R 2, R 4]] [B p2, mkVar (.clo 86 []), B p3] (V x.1) [B x.2, mkVar (.clo 86 []), B p3] :=
  Prg.ok Tryz.func85 (res := fun x => V x.1) (outs := fun x => [B x.2, mkVar (.clo 86 []), B p3]) (by kernel_rfl) (by kernel_rfl) rfl h

noncomputable def f43v3 (p1 : List Edge) (p2 : Int) (p3 : View) : Pg (Bool × Int) :=
cl (f85v3.ok p1 p2 p3) fun y4 =>
.ret (((decide (y4.1 ≥ 0)), y4.2))

theorem f43v3.ok (p1 : List Edge) (p2 : Int) (p3 : View) {x} (h : (f43v3 p1 p2 p3).run = some x) : Spec Tryz.prog 43 [V p1, .clo 87 [R 0, R 2, R 4]] [B p2, mkVar (.clo 86 []), B p3] (V x.1) [B x.2, mkVar (.clo 86 []), B p3] :=
  Prg.ok Tryz.func43 (res := fun x => V x.1) (outs := fun x => [B x.2, mkVar (.clo 86 []), B p3]) (by kernel_rfl) (by kernel_rfl) rfl h

noncomputable def f44 (p1 : View) : Pg Bool :=
cl (f86.ok p1.Vertex.ID) fun _ =>
brr ((decide (p1.Vertex.ID ≥ 0)) && (decide (p1.Vertex.ID < 24))) (
cl (f43v3.ok p1.Edges ((-1) : Int) p1) fun y3 =>
.ret ((!y3.1))) (
.ret (false))

theorem f44.ok (p1 : View) {x} (h : (f44 p1).run = some x) : Spec Tryz.prog 44 [V p1] [] (V x) [] :=
  Prg.ok Tryz.func44 (res := fun x => V x) (outs := fun x => []) (by kernel_rfl) (by kernel_rfl) rfl h

noncomputable def f22.l1 (p1 : View) (y2 : List (Int × (Option (List Int)))) (a3 : List Int) (v23 v24 : Int) : Pg (Nx (Int × Int) (Ex (Bool) Int Empty)) :=
brr (decide (v24 < (L p1.Edges : Int))) (
getR p1.Edges v24 fun a25 =>
cl (f45.ok a25 p1.Vertex.ID) fun y26 =>
.ask ((lookJ y2 y26).isSome) (
lookL y2 y26 fun a27 =>
join1 (.reg 10) (
neN a27 <|
brr false (
retA' true) (
getR a27 (0 : Int) fun a28 =>
getR a3 (0 : Int) fun a29 =>
brr (a28 != a29) (
retA' true) (
getR a27 (1 : Int) fun a30 =>
getR a3 (1 : Int) fun a31 =>
retA' (decide (a30 < (IntKind.i64.wrap (a31 - 1))))))) (.cut .nat fun x32 => ([(3, .mp 101), (4, V p1.Vertex.ID), (5, V a3), (6, V v23), (8, R 103), (9, V a27), (57, V p1.Edges), (58, V (L p1.Edges : Int)), (59, V v24), (88, V x32)], [(101, MO false y2), (103, B a25)])) fun x32 =>
brr x32 (
doneA (false)) (
getR a27 (1 : Int) fun a33 =>
getR a3 (1 : Int) fun a34 =>
brr ((a33 == (IntKind.i64.wrap (a34 - 1))) && (decide (v23 < 0))) (
cont (a25.ID, (IntKind.i64.wrap (v24 + 1)))) (
cont (v23, (IntKind.i64.wrap (v24 + 1)))))) (
lookNo y2 y26 <|
join1 (.reg 10) (
brr true (
retA' ()) (
.no)) (.cut .nat fun _ => ([(3, .mp 101), (4, V p1.Vertex.ID), (5, V a3), (6, V v23), (8, R 103), (9, .pv .nilsl), (57, V p1.Edges), (58, V (L p1.Edges : Int)), (59, V v24), (88, V true)], [(101, MO false y2), (103, B a25)])) fun _ =>
brr true (
doneA (false)) (
.no))) (
doneB v23)

noncomputable def f22.l2 (p1 : View) (y2 : List (Int × (Option (List Int)))) : Pg (Nx Unit (Ex (Bool) Unit Empty)) :=
brr (decide ((0 : Int) < (L p1.Edges : Int))) (
getR p1.Edges (0 : Int) fun a45 =>
cl (f45.ok a45 p1.Vertex.ID) fun y46 =>
.ask ((lookJ y2 y46).isSome) (
lookL y2 y46 fun a47 =>
join1 (.reg 10) (
neN a47 <|
brr false (
retA' ()) (
getR a47 (0 : Int) fun a48 =>
.no)) (.cut .nat fun _ => ([(3, .mp 101), (4, V p1.Vertex.ID), (5, .pv .nilsl), (6, V ((-1) : Int)), (8, R 103), (9, V a47), (57, V p1.Edges), (58, V (L p1.Edges : Int)), (59, V (0 : Int)), (88, V true)], [(101, MO false y2), (103, B a45)])) fun _ =>
brr true (
doneA (false)) (
getR a47 (1 : Int) fun a50 =>
.no)) (
lookNo y2 y46 <|
join1 (.reg 10) (
brr true (
retA' ()) (
.no)) (.cut .nat fun _ => ([(3, .mp 101), (4, V p1.Vertex.ID), (5, .pv .nilsl), (6, V ((-1) : Int)), (8, R 103), (9, .pv .nilsl), (57, V p1.Edges), (58, V (L p1.Edges : Int)), (59, V (0 : Int)), (88, V true)], [(101, MO false y2), (103, B a45)])) fun _ =>
brr true (
doneA (false)) (
.no))) (
doneB ())

noncomputable def f22 (p1 : View) : Pg Bool :=
cl (f34.ok p1) fun y2 =>
.ask ((lookJ y2 p1.Vertex.ID).isSome) (
lookL y2 p1.Vertex.ID fun a3 =>
join1 (.reg 3) (
cl (f44.ok p1) fun y5 =>
brr (!y5) (
retA' true) (
neN a3 <|
brr false (
retA' true) (
getR a3 (0 : Int) fun a6 =>
brr (decide (a6 < 0)) (
retA' true) (
getR a3 (0 : Int) fun a7 =>
brr (decide (a7 > p1.Vertex.ID)) (
retA' true) (
getR a3 (1 : Int) fun a8 =>
brr (decide (a8 < 0)) (
retA' true) (
getR a3 (1 : Int) fun a9 =>
getR a3 (0 : Int) fun a10 =>
retA' (!((a9 == 0) == (a10 == p1.Vertex.ID))))))))) (.cut .nat fun x11 => ([(1, R 101), (3, .mp 103), (4, V p1.Vertex.ID), (5, V a3), (55, V x11)], [(101, B p1), (103, MO false y2)])) fun x11 =>
brr x11 (
.ret (false)) (
loop2 (((-1) : Int), (0 : Int)) (fun s36 => f22.l1 p1 y2 a3 s36.1 s36.2) (fun s36 => ([(3, .mp 101), (4, V p1.Vertex.ID), (5, V a3), (6, V s36.1), (57, V p1.Edges), (58, V (L p1.Edges : Int)), (59, V s36.2)], [(101, MO false y2)])) .inl (fun r37 =>
.ret r37) (.cut (.ext 0) fun x38 => ([(5, V a3), (6, V x38)], [])) fun x38 =>
getR a3 (1 : Int) fun a39 =>
brr (a39 == 0) (
getR a3 (2 : Int) fun a40 =>
.ret ((a40 == (-1)))) (
brr (decide (x38 ≥ 0)) (
getR a3 (2 : Int) fun a41 =>
.ret ((a41 == x38))) (
.ret (false))))) (
lookNo y2 p1.Vertex.ID <|
join1 (.reg 3) (
cl (f44.ok p1) fun y43 =>
brr (!y43) (
retA' ()) (
brr true (
retA' ()) (
.no))) (.cut .nat fun _ => ([(1, R 101), (3, .mp 103), (4, V p1.Vertex.ID), (5, .pv .nilsl), (55, V true)], [(101, B p1), (103, MO false y2)])) fun _ =>
brr true (
.ret (false)) (
loop2 () (fun _ => f22.l2 p1 y2) (fun _ => ([(3, .mp 101), (4, V p1.Vertex.ID), (5, .pv .nilsl), (6, V ((-1) : Int)), (57, V p1.Edges), (58, V (L p1.Edges : Int)), (59, V (0 : Int))], [(101, MO false y2)])) .inl (fun r53 =>
.ret r53) (.cut (.ext 0) fun _ => ([(5, .pv .nilsl), (6, V ((-1) : Int))], [])) fun _ =>
.no))

theorem f22.ok (p1 : View) {x} (h : (f22 p1).run = some x) : Spec Tryz.prog 22 [V p1] [] (V x) [] :=
  Prg.ok Tryz.func22 (res := fun x => V x) (outs := fun x => []) (by kernel_rfl) (by kernel_rfl) rfl h

noncomputable def f13 (p1 : View) : Pg Int :=
cl (f34.ok p1) fun y2 =>
.ask ((lookJ y2 p1.Vertex.ID).isSome) (
lookL y2 p1.Vertex.ID fun a3 =>
neN a3 <|
brr true (
getR a3 (1 : Int) fun a4 =>
brr (a4 == 0) (
.ret ((1 : Int))) (
.ret ((0 : Int)))) (
.ret ((0 : Int)))) (
lookNo y2 p1.Vertex.ID <|
brr false (
.no) (
.ret ((0 : Int))))

theorem f13.ok (p1 : View) {x} (h : (f13 p1).run = some x) : Spec Tryz.prog 13 [V p1] [] (V x) [] :=
  Prg.ok Tryz.func13 (res := fun x => V x) (outs := fun x => []) (by kernel_rfl) (by kernel_rfl) rfl h

noncomputable def f4 : Pg Bool :=
cl (f15.ok) fun _ =>
cl (f6.ok ([(Vertex.mk 0 0), (Vertex.mk 1 0), (Vertex.mk 2 0), (Vertex.mk 3 0), (Vertex.mk 5 0)] : List Vertex) ([(Edge.mk 0 2 1 false 0 0), (Edge.mk 4 1 3 false 0 0), (Edge.mk 6 3 2 false 0 0), (Edge.mk 7 5 5 false 0 0)] : List Edge)) fun y2 =>
cl (f12.ok ([(Vertex.mk 0 0), (Vertex.mk 1 0), (Vertex.mk 2 0), (Vertex.mk 3 0), (Vertex.mk 5 0)] : List Vertex) ([(Edge.mk 0 2 1 false 0 0), (Edge.mk 4 1 3 false 0 0), (Edge.mk 6 3 2 false 0 0), (Edge.mk 7 5 5 false 0 0)] : List Edge) (2 : Int) (3 : Int)) fun y3 =>
cl (f12.ok ([(Vertex.mk 0 0), (Vertex.mk 1 0), (Vertex.mk 2 0), (Vertex.mk 3 0), (Vertex.mk 5 0)] : List Vertex) ([(Edge.mk 0 2 1 false 0 0), (Edge.mk 4 1 3 false 0 0), (Edge.mk 6 3 2 false 0 0), (Edge.mk 7 5 5 false 0 0)] : List Edge) (0 : Int) (5 : Int)) fun y4 =>
cl (f16.ok ([(Vertex.mk 0 0), (Vertex.mk 1 0), (Vertex.mk 2 0), (Vertex.mk 3 0), (Vertex.mk 5 0)] : List Vertex) ([(Edge.mk 0 2 1 false 0 0), (Edge.mk 4 1 3 false 0 0), (Edge.mk 6 3 2 false 0 0), (Edge.mk 7 5 5 false 0 0)] : List Edge) (2 : Int) (3 : Int)) fun y5 =>
cl (f16.ok ([(Vertex.mk 0 0), (Vertex.mk 1 0), (Vertex.mk 2 0), (Vertex.mk 3 0), (Vertex.mk 5 0)] : List Vertex) ([(Edge.mk 0 2 1 false 0 0), (Edge.mk 4 1 3 false 0 0), (Edge.mk 6 3 2 false 0 0), (Edge.mk 7 5 5 false 0 0)] : List Edge) (3 : Int) (3 : Int)) fun y6 =>
cl (f17.ok ([(Vertex.mk 0 0), (Vertex.mk 1 0), (Vertex.mk 2 0), (Vertex.mk 3 0), (Vertex.mk 5 0)] : List Vertex) ([(Edge.mk 0 2 1 false 0 0), (Edge.mk 4 1 3 false 0 0), (Edge.mk 6 3 2 false 0 0), (Edge.mk 7 5 5 false 0 0)] : List Edge) (3 : Int)) fun y7 =>
cl (f16.ok ([(Vertex.mk 0 0), (Vertex.mk 1 0), (Vertex.mk 2 0), (Vertex.mk 3 0), (Vertex.mk 5 0)] : List Vertex) ([(Edge.mk 0 2 1 false 0 0), (Edge.mk 4 1 3 false 0 0), (Edge.mk 6 3 2 false 0 0), (Edge.mk 7 5 5 false 0 0)] : List Edge) (0 : Int) (5 : Int)) fun y8 =>
cl (f6v1.ok ([1] : List Int)) fun y9 =>
brr (((((((((((y2.2 != 0) || (y3.2 != 0)) || (y4.2 != 0)) || (y5.2 != 0)) || (y6.2 != 0)) || (y7.2 != 0)) || (y8.2 != 70)) || (y9 != 70)) || (!y3.1)) || y4.1) || (decide ((L y6.1 : Int) > 0))) (
.ret (false)) (
cl (f14.ok ([(Vertex.mk 0 0), (Vertex.mk 1 0), (Vertex.mk 2 0), (Vertex.mk 3 0), (Vertex.mk 5 0)] : List Vertex) ([(Edge.mk 0 2 1 false 0 0), (Edge.mk 4 1 3 false 0 0), (Edge.mk 6 3 2 false 0 0), (Edge.mk 7 5 5 false 0 0)] : List Edge) ([(Named.mk 0 ([0, 0, (-1)] : List Int)), (Named.mk 1 ([1, 0, (-1)] : List Int)), (Named.mk 2 ([1, 1, 0] : List Int)), (Named.mk 3 ([1, 1, 4] : List Int)), (Named.mk 5 ([5, 0, (-1)] : List Int))] : List Named) (3 : Int)) fun y10 =>
cl (f18.ok ([(Named.mk 0 ([0, 0, (-1)] : List Int)), (Named.mk 1 ([1, 0, (-1)] : List Int)), (Named.mk 2 ([1, 1, 0] : List Int)), (Named.mk 3 ([1, 1, 4] : List Int)), (Named.mk 5 ([5, 0, (-1)] : List Int))] : List Named) ([(A3_Int.mk 3 1 1)] : List A3_Int)) fun y11 =>
cl (f14.ok ([(Vertex.mk 0 0), (Vertex.mk 1 0), (Vertex.mk 2 0), (Vertex.mk 3 0), (Vertex.mk 5 0)] : List Vertex) ([(Edge.mk 0 2 1 false 0 0), (Edge.mk 4 1 3 false 0 0), (Edge.mk 6 3 2 false 0 0), (Edge.mk 7 5 5 false 0 0)] : List Edge) y11 (3 : Int)) fun y12 =>
join1 (.reg 15) (
cl (f19.ok ([(Vertex.mk 0 0), (Vertex.mk 1 0), (Vertex.mk 2 0), (Vertex.mk 3 0), (Vertex.mk 5 0)] : List Vertex) ([(Edge.mk 0 2 1 false 0 0), (Edge.mk 4 1 3 false 0 0), (Edge.mk 6 3 2 false 0 0), (Edge.mk 7 5 5 false 0 0)] : List Edge) (2 : Int) (3 : Int) ([6] : List Int)) fun y14 =>
brr y14 (
cl (f19.ok ([(Vertex.mk 0 0), (Vertex.mk 1 0), (Vertex.mk 2 0), (Vertex.mk 3 0), (Vertex.mk 5 0)] : List Vertex) ([(Edge.mk 0 2 1 false 0 0), (Edge.mk 4 1 3 false 0 0), (Edge.mk 6 3 2 false 0 0), (Edge.mk 7 5 5 false 0 0)] : List Edge) (2 : Int) (3 : Int) ([0] : List Int)) fun y15 =>
brr (!y15) (
cl (f20.ok ([(Vertex.mk 0 0), (Vertex.mk 1 0), (Vertex.mk 2 0), (Vertex.mk 3 0), (Vertex.mk 5 0)] : List Vertex) ([(Edge.mk 0 2 1 false 0 0), (Edge.mk 4 1 3 false 0 0), (Edge.mk 6 3 2 false 0 0), (Edge.mk 7 5 5 false 0 0)] : List Edge) (0 : Int) (5 : Int) ([0, 1] : List Int)) fun y16 =>
brr (!y16) (
cl (f20.ok ([(Vertex.mk 0 0), (Vertex.mk 1 0), (Vertex.mk 2 0), (Vertex.mk 3 0), (Vertex.mk 5 0)] : List Vertex) ([(Edge.mk 0 2 1 false 0 0), (Edge.mk 4 1 3 false 0 0), (Edge.mk 6 3 2 false 0 0), (Edge.mk 7 5 5 false 0 0)] : List Edge) (0 : Int) (5 : Int) ([0] : List Int)) fun y17 =>
retA' y17) (
retA' false)) (
retA' false)) (
retA' false)) (.cut .nat fun x18 => ([(1, R 101), (2, V y2.1), (4, V ([(Named.mk 0 ([0, 0, (-1)] : List Int)), (Named.mk 1 ([1, 0, (-1)] : List Int)), (Named.mk 2 ([1, 1, 0] : List Int)), (Named.mk 3 ([1, 1, 4] : List Int)), (Named.mk 5 ([5, 0, (-1)] : List Int))] : List Named)), (9, V y5.1), (13, V y7.1), (19, R 103), (20, R 105), (21, V x18)], [(101, .varp [.sl (([(Vertex.mk 0 0), (Vertex.mk 1 0), (Vertex.mk 2 0), (Vertex.mk 3 0), (Vertex.mk 5 0)] : List Vertex).map Cel.enc), .sl (([(Edge.mk 0 2 1 false 0 0), (Edge.mk 4 1 3 false 0 0), (Edge.mk 6 3 2 false 0 0), (Edge.mk 7 5 5 false 0 0)] : List Edge).map Cel.enc), .nilsl]), (103, B y10), (105, B y12)])) fun x18 =>
brr x18 (
cl (f9.ok y2.1 ([(Named.mk 0 ([0, 0, (-1)] : List Int)), (Named.mk 1 ([1, 0, (-1)] : List Int)), (Named.mk 2 ([1, 1, 0] : List Int)), (Named.mk 3 ([1, 1, 4] : List Int)), (Named.mk 5 ([5, 0, (-1)] : List Int))] : List Named)) fun y19 =>
brr y19 (
cl (f21.ok y5.1 ([0, 4] : List Int)) fun y20 =>
brr y20 (
cl (f21.ok y7.1 ([1, 2, 3] : List Int)) fun y21 =>
brr y21 (
cl (f22.ok y10) fun y22 =>
brr y22 (
cl (f22.ok y12) fun y23 =>
brr (!y23) (
cl (f13.ok y10) fun y24 =>
brr (y24 == 0) (
cl (f14.ok ([(Vertex.mk 0 0), (Vertex.mk 1 0), (Vertex.mk 2 0), (Vertex.mk 3 0), (Vertex.mk 5 0)] : List Vertex) ([(Edge.mk 0 2 1 false 0 0), (Edge.mk 4 1 3 false 0 0), (Edge.mk 6 3 2 false 0 0), (Edge.mk 7 5 5 false 0 0)] : List Edge) ([(Named.mk 0 ([0, 0, (-1)] : List Int)), (Named.mk 1 ([1, 0, (-1)] : List Int)), (Named.mk 2 ([1, 1, 0] : List Int)), (Named.mk 3 ([1, 1, 4] : List Int)), (Named.mk 5 ([5, 0, (-1)] : List Int))] : List Named) (1 : Int)) fun y25 =>
cl (f13.ok y25) fun y26 =>
.ret ((y26 == 1))) (
.ret (false))) (
.ret (false))) (
.ret (false))) (
.ret (false))) (
.ret (false))) (
.ret (false))) (
.ret (false)))

theorem f4.ok {x} (h : (f4).run = some x) : Spec Tryz.prog 4 [] [] (V x) [] :=
  Prg.ok Tryz.func4 (res := fun x => V x) (outs := fun x => []) (by kernel_rfl) (by kernel_rfl) rfl h

noncomputable def f23 (p1 p2 : Int) : Pg Int :=
brr (decide (p1 < 0)) (
nzD p2 <|
.ret (((IntKind.i64.wrap (0 - (IntKind.i64.wrap (p1 + 1)))).tmod p2))) (
nzD p2 <|
.ret ((p1.tmod p2)))

theorem f23.ok (p1 p2 : Int) {x} (h : (f23 p1 p2).run = some x) : Spec Tryz.prog 23 [V p1, V p2] [] (V x) [] :=
  Prg.ok Tryz.func23 (res := fun x => V x) (outs := fun x => []) (by kernel_rfl) (by kernel_rfl) rfl h

noncomputable def f5.l3 (p1 x5 : Int) (x30 : List Vertex) (v98 : Int) (l99 : List Int) : Pg (Nx (Int × (List Int)) (Ex (List Int) Empty Empty)) :=
cl (f23.ok (IntKind.i64.wrap (p1.tdiv 32)) (4 : Int)) fun y100 =>
brr ((decide (v98 < y100)) && (decide (v98 < x5))) (
ck v98 (L x30) <|
rd x30 (at0 v98) fun a101 =>
ap l99 ([a101.ID] : List Int) fun l102 =>
cont ((IntKind.i64.wrap (v98 + 1)), l102)) (
doneA l99)

noncomputable def f5.l2 (p1 : Int) (p2 : List A5_Int) (x5 : Int) (x30 : List Vertex) (v69 : Int) (l70 : List Edge) : Pg (Nx (Int × (List Edge)) (Ex (List Edge) Empty Empty)) :=
brr ((decide (v69 < (L p2 : Int))) && (decide (v69 < 20))) (
cl (f23.ok (IntKind.i64.wrap (p1.tdiv 4)) (20 : Int)) fun y71 =>
getR p2 v69 fun a72 =>
cl (f23.ok a72.x0 x5) fun y73 =>
ck y73 (L x30) <|
rd x30 (at0 y73) fun a74 =>
getR p2 v69 fun a75 =>
cl (f23.ok a75.x1 x5) fun y76 =>
ck y76 (L x30) <|
rd x30 (at0 y76) fun a77 =>
getR p2 v69 fun a78 =>
cl (f23.ok a78.x2 (2 : Int)) fun y79 =>
getR p2 v69 fun a80 =>
cl (f23.ok a80.x3 (12 : Int)) fun y81 =>
getR p2 v69 fun a82 =>
cl (f23.ok a82.x4 (6 : Int)) fun y83 =>
getR p2 v69 fun a84 =>
cl (f23.ok a84.x4 (11 : Int)) fun y85 =>
join1 (.cond 122) (
brr (y85 == 10) (
getR p2 v69 fun a86 =>
cl (f23.ok a86.x3 (2001 : Int)) fun y87 =>
retA' (Edge.mk (IntKind.i64.wrap (v69 + y71)) a74.ID a77.ID (y79 == 1) (IntKind.i64.wrap (y87 - 1000)) y83)) (
retA' (Edge.mk (IntKind.i64.wrap (v69 + y71)) a74.ID a77.ID (y79 == 1) (IntKind.i64.wrap (y81 - 3)) y83))) (.cut .nat fun x88 => ([(0, V p1), (1, V p2), (6, R 101), (7, R 103), (8, V x5), (11, V v69), (12, R 105)], [(101, .varp [.nilsl, .nilsl, .nilsl]), (103, .var [H Vertex 107, H Edge 109, .pv .nilsl]), (105, B x88), (107, O x30), (109, O l70)])) fun x88 =>
ap l70 ([x88] : List Edge) fun l89 =>
cont ((IntKind.i64.wrap (v69 + 1)), l89)) (
doneA l70)

noncomputable def f5.l1 (p1 : Int) (p2 : List A5_Int) (p3 : Bool) (x5 : Int) (v20 : Int) (l21 : List Vertex) : Pg (Nx (Int × (List Vertex)) (Ex (List Vertex) Empty Empty)) :=
brr (decide (v20 < x5)) (
join1 (.reg 9) (
brr (!p3) (
cl (f23.ok (IntKind.i64.wrap (p1.tdiv 8)) (2 : Int)) fun y22 =>
retA' (y22 == 1)) (
retA' false)) (.cut .nat fun x23 => ([(0, V p1), (1, V p2), (2, V p3), (6, R 101), (7, R 103), (8, V x5), (9, V v20), (10, V v20), (34, V x23)], [(101, .varp [.nilsl, .nilsl, .nilsl]), (103, .var [H Vertex 105, .pv .nilsl, .pv .nilsl]), (105, O l21)])) fun x23 =>
join1 (.cond 34) (
brr x23 (
retA' (IntKind.i64.wrap (v20 + (IntKind.i64.wrap (v20.tdiv 2))))) (
retA' v20)) (.cut .nat fun x24 => ([(0, V p1), (1, V p2), (2, V p3), (6, R 101), (7, R 103), (8, V x5), (9, V v20), (10, V x24)], [(101, .varp [.nilsl, .nilsl, .nilsl]), (103, .var [H Vertex 105, .pv .nilsl, .pv .nilsl]), (105, O l21)])) fun x24 =>
cl (f23.ok (IntKind.i64.wrap (p1.tdiv 64)) (3 : Int)) fun y25 =>
let e26 : Int := (IntKind.i64.wrap ((IntKind.i64.wrap (p1.tdiv 16)) + (IntKind.i64.wrap (v20 * (IntKind.i64.wrap (1 + y25))))))
cl (f23.ok e26 (4 : Int)) fun y27 =>
ap l21 ([(Vertex.mk x24 y27)] : List Vertex) fun l28 =>
cont ((IntKind.i64.wrap (v20 + 1)), l28)) (
doneA l21)

noncomputable def f5 (p1 : Int) (p2 : List A5_Int) (p3 : Bool) : Pg Graph :=
cl (f23.ok p1 (8 : Int)) fun y4 =>
join1 (.cond 18) (
brr p3 (
retA' (IntKind.i64.wrap ((IntKind.i64.wrap (1 + y4)) + 10))) (
retA' (IntKind.i64.wrap (1 + y4)))) (.cut .nat fun x5 => ([(0, V p1), (1, V p2), (2, V p3), (6, R 101), (7, R 103), (8, V x5)], [(101, .varp [.nilsl, .nilsl, .nilsl]), (103, .varp [.nilsl, .nilsl, .nilsl])])) fun x5 =>
loop1 ((0 : Int), ([] : List Vertex)) (fun s29 => f5.l1 p1 p2 p3 x5 s29.1 s29.2) (fun s29 => ([(0, V p1), (1, V p2), (2, V p3), (6, R 101), (7, R 103), (8, V x5), (9, V s29.1)], [(101, .varp [.nilsl, .nilsl, .nilsl]), (103, .var [H Vertex 501, .pv .nilsl, .pv .nilsl]), (501, O s29.2)])) (.cut (.ext 0) fun x30 => ([(0, V p1), (1, V p2), (6, R 101), (7, R 103), (8, V x5)], [(101, .varp [.nilsl, .nilsl, .nilsl]), (103, .var [H Vertex 105, .pv .nilsl, .pv .nilsl]), (105, O x30)])) fun x30 =>
loop1 ((0 : Int), ([] : List Edge)) (fun s90 => f5.l2 p1 p2 x5 x30 s90.1 s90.2) (fun s90 => ([(0, V p1), (1, V p2), (6, R 101), (7, R 103), (8, V x5), (11, V s90.1)], [(101, .varp [.nilsl, .nilsl, .nilsl]), (103, .var [H Vertex 105, H Edge 501, .pv .nilsl]), (105, O x30), (501, O s90.2)])) (.cut (.ext 2) fun x91 => ([(0, V p1), (6, R 101), (7, R 103), (8, V x5)], [(101, .varp [.nilsl, .nilsl, .nilsl]), (103, .var [H Vertex 105, H Edge 107, .pv .nilsl]), (105, O x30), (107, O x91)])) fun x91 =>
loop1 ((0 : Int), ([] : List Int)) (fun s103 => f5.l3 p1 x5 x30 s103.1 s103.2) (fun s103 => ([(0, V p1), (6, R 101), (7, R 103), (8, V x5), (13, V s103.1)], [(101, .varp [.nilsl, .nilsl, .nilsl]), (103, .var [H Vertex 105, H Edge 107, H Int 501]), (105, O x30), (107, O x91), (501, O s103.2)])) (.cut (.ext 4) fun x104 => ([(6, R 101), (7, R 103)], [(101, .varp [.nilsl, .nilsl, .nilsl]), (103, .var [H Vertex 105, H Edge 107, H Int 109]), (105, O x30), (107, O x91), (109, O x104)])) fun x104 =>
.ret ((Graph.mk x30 x91 x104))

theorem f5.ok (p1 : Int) (p2 : List A5_Int) (p3 : Bool) {x} (h : (f5 p1 p2 p3).run = some x) : Spec Tryz.prog 5 [V p1, V p2, V p3] [] (V x) [] :=
  Prg.ok Tryz.func5 (res := fun x => V x) (outs := fun x => []) (by kernel_rfl) (by kernel_rfl) rfl h

noncomputable def f79v2 (p1 : Int) (p2 : Graph_change) : Pg (Int × Bool) :=
cl (f98.ok p2.Graph.Vertices p1) fun y3 =>
.ret ((y3.1, y3.2))

theorem f79v2.ok (p1 : Int) (p2 : Graph_change) {x} (h : (f79v2 p1 p2).run = some x) : Spec Tryz.prog 79 [R 0, V p1] [B p2] (.tup [V x.1, V x.2]) [B p2] :=
  Prg.ok Tryz.func79 (res := fun x => .tup [V x.1, V x.2]) (outs := fun x => [B p2]) (by kernel_rfl) (by kernel_rfl) rfl h

noncomputable def f52v2 (p1 : Int) (p2 : Graph_change) : Pg Bool :=
cl (f79v2.ok p1 p2) fun y3 =>
.ret (y3.2)

theorem f52v2.ok (p1 : Int) (p2 : Graph_change) {x} (h : (f52v2 p1 p2).run = some x) : Spec Tryz.prog 52 [R 0, V p1] [B p2] (V x) [B p2] :=
  Prg.ok Tryz.func52 (res := fun x => V x) (outs := fun x => [B p2]) (by kernel_rfl) (by kernel_rfl) rfl h

noncomputable def f50v2 (p1 : Edge) (p2 : Graph_change) : Pg Bool :=
cl (f51.ok p1) fun y3 =>
brr (!y3) (
.ret (true)) (
cl (f52v2.ok p1.From p2) fun y4 =>
brr (!y4) (
.ret (true)) (
cl (f52v2.ok p1.To p2) fun y5 =>
.ret ((!y5))))

theorem f50v2.ok (p1 : Edge) (p2 : Graph_change) {x} (h : (f50v2 p1 p2).run = some x) : Spec Tryz.prog 50 [V p1, R 0] [mkVar (R 2), B p2] (V x) [mkVar (R 2), B p2] :=
  Prg.ok Tryz.func50 (res := fun x => V x) (outs := fun x => [mkVar (R 2), B p2]) (by kernel_rfl) (by kernel_rfl) rfl h

noncomputable def f85v4.l1 (p1 : List Edge) (p2 : Graph_change) (v5 : Int) : Pg (Nx Int (Ex (Int) Unit Empty)) :=
brr (decide (v5 < (L p1 : Int))) (
getR p1 v5 fun a6 =>
cl (f50v2.ok a6 p2) fun y7 =>
brr y7 (
doneA (v5)) (
cont (IntKind.i64.wrap (v5 + 1)))) (
doneB ())

noncomputable def f85v4 (p1 : List Edge) (p2 : Graph_change) : Pg Int :=
loop2 (0 : Int) (fun s8 => f85v4.l1 p1 p2 s8) (fun s8 => ([(0, V p1), (1, .clo 50 [R 0]), (7, V (L p1 : Int)), (8, V s8)], [(0, mkVar (R 2)), (2, B p2)])) .inl (fun r9 =>
.ret r9) (.cut (.ext 0) fun _ => ([], [(0, mkVar (R 2)), (2, B p2)])) fun _ =>
.ret (((-1) : Int))

theorem f85v4.ok (p1 : List Edge) (p2 : Graph_change) {x} (h : (f85v4 p1 p2).run = some x) : Spec Tryz.prog 85 [V p1, .clo 50 [R 0]] [mkVar (R 2), B p2] (V x) [mkVar (R 2), B p2] :=
  Prg.ok Tryz.func85 (res := fun x => V x) (outs := fun x => [mkVar (R 2), B p2]) (by kernel_rfl) (by kernel_rfl) rfl h

noncomputable def f43v4 (p1 : List Edge) (p2 : Graph_change) : Pg Bool :=
cl (f85v4.ok p1 p2) fun y3 =>
.ret ((decide (y3 ≥ 0)))

theorem f43v4.ok (p1 : List Edge) (p2 : Graph_change) {x} (h : (f43v4 p1 p2).run = some x) : Spec Tryz.prog 43 [V p1, .clo 50 [R 0]] [mkVar (R 2), B p2] (V x) [mkVar (R 2), B p2] :=
  Prg.ok Tryz.func43 (res := fun x => V x) (outs := fun x => [mkVar (R 2), B p2]) (by kernel_rfl) (by kernel_rfl) rfl h

noncomputable def f89v2 (p1 : Int) (p2 : Graph_change) : Pg Bool :=
cl (f52v2.ok p1 p2) fun y3 =>
.ret ((!y3))

theorem f89v2.ok (p1 : Int) (p2 : Graph_change) {x} (h : (f89v2 p1 p2).run = some x) : Spec Tryz.prog 89 [V p1, R 0] [mkVar (R 2), B p2] (V x) [mkVar (R 2), B p2] :=
  Prg.ok Tryz.func89 (res := fun x => V x) (outs := fun x => [mkVar (R 2), B p2]) (by kernel_rfl) (by kernel_rfl) rfl h

noncomputable def f100v3.l1 (p1 : List Int) (p2 : Graph_change) (v5 : Int) : Pg (Nx Int (Ex (Int) Unit Empty)) :=
brr (decide (v5 < (L p1 : Int))) (
getR p1 v5 fun a6 =>
cl (f89v2.ok a6 p2) fun y7 =>
brr y7 (
doneA (v5)) (
cont (IntKind.i64.wrap (v5 + 1)))) (
doneB ())

noncomputable def f100v3 (p1 : List Int) (p2 : Graph_change) : Pg Int :=
loop2 (0 : Int) (fun s8 => f100v3.l1 p1 p2 s8) (fun s8 => ([(0, V p1), (1, .clo 89 [R 0]), (7, V (L p1 : Int)), (8, V s8)], [(0, mkVar (R 2)), (2, B p2)])) .inl (fun r9 =>
.ret r9) (.cut (.ext 0) fun _ => ([], [(0, mkVar (R 2)), (2, B p2)])) fun _ =>
.ret (((-1) : Int))

theorem f100v3.ok (p1 : List Int) (p2 : Graph_change) {x} (h : (f100v3 p1 p2).run = some x) : Spec Tryz.prog 100 [V p1, .clo 89 [R 0]] [mkVar (R 2), B p2] (V x) [mkVar (R 2), B p2] :=
  Prg.ok Tryz.func100 (res := fun x => V x) (outs := fun x => [mkVar (R 2), B p2]) (by kernel_rfl) (by kernel_rfl) rfl h

noncomputable def f83v3 (p1 : List Int) (p2 : Graph_change) : Pg Bool :=
cl (f100v3.ok p1 p2) fun y3 =>
.ret ((decide (y3 ≥ 0)))

theorem f83v3.ok (p1 : List Int) (p2 : Graph_change) {x} (h : (f83v3 p1 p2).run = some x) : Spec Tryz.prog 83 [V p1, .clo 89 [R 0]] [mkVar (R 2), B p2] (V x) [mkVar (R 2), B p2] :=
  Prg.ok Tryz.func83 (res := fun x => V x) (outs := fun x => [mkVar (R 2), B p2]) (by kernel_rfl) (by kernel_rfl) rfl h

noncomputable def f56v2 (p1 : Graph_change) : Pg Bool :=
brr (decide ((L p1.Graph.Depots : Int) ≤ 3)) (
cl (f76.ok p1.Graph.Depots) fun y2 =>
brr y2 (
cl (f83v3.ok p1.Graph.Depots p1) fun y3 =>
.ret ((!y3))) (
.ret (false))) (
.ret (false))

theorem f56v2.ok (p1 : Graph_change) {x} (h : (f56v2 p1).run = some x) : Spec Tryz.prog 56 [R 0] [B p1] (V x) [B p1] :=
  Prg.ok Tryz.func56 (res := fun x => V x) (outs := fun x => [B p1]) (by kernel_rfl) (by kernel_rfl) rfl h

noncomputable def f24v2 (p1 : Graph) : Pg Bool :=
join1 (.reg 1) (
cl (f46.ok p1.Vertices) fun y3 =>
brr (!y3) (
retA' true) (
cl (f48.ok p1.Edges) fun y4 =>
retA' (!y4))) (.cut .nat fun x5 => ([(1, R 101), (14, V x5)], [(101, B p1)])) fun x5 =>
brr x5 (
.ret (false)) (
cl (f53.ok p1.Vertices) fun y6 =>
brr (!y6) (
cl (f43v4.ok p1.Edges (Graph_change.mk p1)) fun y7 =>
brr (!y7) (
cl (f56v2.ok (Graph_change.mk ((Graph_change.mk p1).Graph))) fun y8 =>
.ret (y8)) (
.ret (false))) (
.ret (false)))

theorem f24v2.ok (p1 : Graph) {x} (h : (f24v2 p1).run = some x) : Spec Tryz.prog 24 [V p1] [] (V x) [] :=
  Prg.ok Tryz.func24 (res := fun x => V x) (outs := fun x => []) (by kernel_rfl) (by kernel_rfl) rfl h

noncomputable def f57v1.l1 (p1 : Graph) (p2 : Int) (v9 : Int) (l10 : List Edge) : Pg (Nx (Int × (List Edge)) (Ex (List Edge) Empty Empty)) :=
brr (decide (v9 < (L p1.Edges : Int))) (
getR p1.Edges v9 fun a11 =>
join1 (.reg 4) (
brr (a11.From == p2) (
retA' true) (
retA' (a11.To == p2))) (.cut .nat fun x12 => ([(1, V p2), (4, H Edge 101), (6, R 103), (8, V p1.Edges), (9, V (L p1.Edges : Int)), (10, V v9), (23, V x12)], [(101, O l10), (103, B a11)])) fun x12 =>
brr x12 (
ap l10 ([a11] : List Edge) fun l13 =>
cont ((IntKind.i64.wrap (v9 + 1)), l13)) (
cont ((IntKind.i64.wrap (v9 + 1)), l10))) (
doneA l10)

noncomputable def f57v1 (p1 : Graph) (p2 : Int) : Pg (List Edge) :=
loop1 ((0 : Int), ([] : List Edge)) (fun s14 => f57v1.l1 p1 p2 s14.1 s14.2) (fun s14 => ([(1, V p2), (4, H Edge 501), (8, V p1.Edges), (9, V (L p1.Edges : Int)), (10, V s14.1)], [(501, O s14.2)])) (.cut (.ext 0) fun x15 => ([(4, H Edge 101)], [(101, O x15)])) fun x15 =>
.ret (x15)

theorem f57v1.ok (p1 : Graph) (p2 : Int) {x} (h : (f57v1 p1 p2).run = some x) : Spec Tryz.prog 57 [V p1, V p2] [] (V x) [] :=
  Prg.ok Tryz.func57 (res := fun x => V x) (outs := fun x => []) (by kernel_rfl) (by kernel_rfl) rfl h

noncomputable def f25v2.l1 [Fm] (a64 : Vertex) (a96 : Int) (y97 : List Edge) (v : Int) (M : List (List Int)) (m : List (Int × Ref)) (q : List Int) : Pg (Nx (Int × List (List Int) × List (Int × Ref) × List Int) (Ex (List (List Int) × List (Int × Ref) × List Int) Empty Empty)) :=
brr (decide (v < (L y97 : Int))) (
getR y97 v fun a110 =>
cl (f45.ok a110 a96) fun y111 =>
.ask (mapGet m y111).isSome (
lookR m y111 fun _ =>
brr (!true) .no (
cont ((IntKind.i64.wrap (v + 1)), M, m, q))) (
lookA m y111 <|
brr (!false) (
lookR m a96 fun r =>
ck (1 : Int) r.len <|
rdM M r.i (r.off + (1 : Int).toNat) fun a116 =>
bsM 81 M [a64.ID, (IntKind.i64.wrap (a116 + 1)), (-1)] <|
mset m y111 (Ref.mk (LM M) 0 3) fun m117 =>
ap q ([y111] : List Int) fun q118 =>
cont ((IntKind.i64.wrap (v + 1)), M ++ [[a64.ID, (IntKind.i64.wrap (a116 + 1)), (-1)]], m117, q118)) .no)) (
doneA (M, m, q))

noncomputable def f25v2.l2 [Fm] (p1 : Graph) (v62 : Int) (a64 : Vertex) (M : List (List Int)) (m : List (Int × Ref)) (q : List Int) : Pg (Nx (List (List Int) × List (Int × Ref) × List Int) (Ex (List (List Int) × List (Int × Ref)) Empty Empty)) :=
brr (decide ((L q : Int) > 0)) (
ck (0 : Int) (L q) <|
rd q (at0 (0 : Int)) fun a96 =>
cl (f57v1.ok p1 a96) fun y97 =>
loop1 ((0 : Int), M, m, q) (fun s => f25v2.l1 a64 a96 y97 s.1 s.2.1 s.2.2.1 s.2.2.2) (fun s => ([(1, R 101), (3, .mp 103), (5, R 105), (8, H Int 107), (9, V a96), (21, V p1.Vertices), (22, V (L p1.Vertices : Int)), (23, V v62), (54, V y97), (55, V (L y97 : Int)), (56, V s.1)], [(3, FM s.2.1), (101, B p1), (103, MR s.2.2.1), (105, B a64), (107, O s.2.2.2)])) (.cut (.ext 4) fun x => ([(1, R 101), (3, .mp 103), (5, R 105), (8, H Int 107), (21, V p1.Vertices), (22, V (L p1.Vertices : Int)), (23, V v62)], [(3, FM x.1), (101, B p1), (103, MR x.2.1), (105, B a64), (107, O x.2.2)])) fun x =>
cutLoO x.2.2 (1 : Int) fun q121 =>
cont (x.1, x.2.1, q121)) (
doneA (M, m))

noncomputable def f25v2.l3 [Fm] (p1 : Graph) (v62 : Int) (M : List (List Int)) (m : List (Int × Ref)) : Pg (Nx (Int × List (List Int) × List (Int × Ref)) (Ex (List (List Int) × List (Int × Ref)) Empty Empty)) :=
brr (decide (v62 < (L p1.Vertices : Int))) (
getR p1.Vertices v62 fun a64 =>
.ask (mapGet m a64.ID).isSome (
lookR m a64.ID fun _ =>
brr true (
cont ((IntKind.i64.wrap (v62 + 1)), M, m)) .no) (
lookA m a64.ID <|
brr false .no (
bsM 40 M [a64.ID, 0, (-1)] <|
mset m a64.ID (Ref.mk (LM M) 0 3) fun m67 =>
loop1 (M ++ [[a64.ID, 0, (-1)]], m67, ([a64.ID] : List Int)) (fun s => f25v2.l2 p1 v62 a64 s.1 s.2.1 s.2.2) (fun s => ([(1, R 101), (3, .mp 103), (5, R 105), (8, H Int 107), (21, V p1.Vertices), (22, V (L p1.Vertices : Int)), (23, V v62)], [(3, FM s.1), (101, B p1), (103, MR s.2.1), (105, B a64), (107, O s.2.2)])) (.cut (.ext 2) fun x => ([(1, R 101), (3, .mp 103), (21, V p1.Vertices), (22, V (L p1.Vertices : Int)), (23, V v62)], [(3, FM x.1), (101, B p1), (103, MR x.2)])) fun x =>
cont ((IntKind.i64.wrap (v62 + 1)), x.1, x.2)))) (
doneA (M, m))

noncomputable def f25v2.l4 [Fm] (m : List (Int × Ref)) (M : List (List Int)) (key : Int) (r : Ref) (y97 : List Edge) (v : Int) : Pg (Nx Int (Ex (List (List Int)) Unit Empty)) :=
brr (decide (v < (L y97 : Int))) (
getR y97 v fun a =>
cl (f45.ok a key) fun y106 =>
lookR m y106 fun r2 =>
ck (1 : Int) r2.len <|
rdM M r2.i (r2.off + (1 : Int).toNat) fun a109 =>
ck (1 : Int) r.len <|
rdM M r.i (r.off + (1 : Int).toNat) fun a112 =>
brr (a109 == (IntKind.i64.wrap (a112 - 1))) (
ck (2 : Int) r.len <|
stM M r.i (r.off + (2 : Int).toNat) a.ID fun M2 =>
doneA M2) (
cont (IntKind.i64.wrap (v + 1)))) (
doneB ())

noncomputable def f25v2.l5 [Fm] (p1 : Graph) (m : List (Int × Ref)) (seen : List Nat) (i : Nat) (M : List (List Int)) : Pg (Nx (List (List Int)) (Ex Empty Empty Empty)) :=
entM 103 m i fun key r =>
cl (f57v1.ok p1 key) fun y97 =>
loop2 (0 : Int) (fun s => f25v2.l4 m M key r y97 s) (fun s => ([(1, R 101), (3, .mp 103), (15, V key), (16, avR r), (89, R 105), (97, V y97), (98, V (L y97 : Int)), (99, V s)], [(3, FM M), (101, B p1), (103, MR m), (105, .it 103 (m.map mKey).length (i :: seen))])) (.cut (.ext 7) fun M2 => ([(1, R 101), (3, .mp 103), (89, R 105)], [(3, FM M2), (101, B p1), (103, MR m), (105, .it 103 (m.map mKey).length (i :: seen))])) (fun M2 =>
cont M2) (.cut (.ext 8) fun _ => ([(1, R 101), (3, .mp 103), (89, R 105)], [(3, FM M), (101, B p1), (103, MR m), (105, .it 103 (m.map mKey).length (i :: seen))])) fun _ =>
cont M

noncomputable def f25v2.fm [Fm] (p1 : Graph) : Pg (List (Int × List Int)) :=
loop1 ((0 : Int), ([] : List (List Int)), ([] : List (Int × Ref))) (fun s => f25v2.l3 p1 s.1 s.2.1 s.2.2) (fun s => ([(1, R 101), (3, .mp 103), (21, V p1.Vertices), (22, V (L p1.Vertices : Int)), (23, V s.1)], [(3, FM s.2.1), (101, B p1), (103, MR s.2.2)])) (.cut (.ext 0) fun x => ([(1, R 101), (3, .mp 103)], [(3, FM x.1), (101, B p1), (103, MR x.2)])) fun x =>
mloop0 (x.2.map mKey).length x.1 (fun seen i M => f25v2.l5 p1 x.2 seen i M) (fun M seen => ([(1, R 101), (3, .mp 103), (89, R 105)], [(3, FM M), (101, B p1), (103, MR x.2), (105, .it 103 (x.2.map mKey).length seen)])) fun M =>
tellG 103 M x.2 fun y =>
.ret y

theorem f25v2.l1.same (f g : Fm) (a64 a96 y97 v M m q) : (@f25v2.l1 f a64 a96 y97 v M m q).run = (@f25v2.l1 g a64 a96 y97 v M m q).run := by
  simp only [f25v2.l1, r_brr, r_getR, r_ask, r_lookR, r_lookA, r_ck, r_rdM, r_bsM, r_mset, r_ap, r_cl, r_ret, L_eq]
theorem f25v2.l2.same (f g : Fm) (p1 : Graph) (v62 a64 M m q) : (@f25v2.l2 f p1 v62 a64 M m q).run = (@f25v2.l2 g p1 v62 a64 M m q).run := by
  simp only [f25v2.l2, r_brr, r_ck, r_rd, r_cl, r_loop1, f25v2.l1.same f g, r_cutLoO, r_ret, L_eq]
theorem f25v2.l3.same (f g : Fm) (p1 : Graph) (v62 M m) : (@f25v2.l3 f p1 v62 M m).run = (@f25v2.l3 g p1 v62 M m).run := by
  simp only [f25v2.l3, r_brr, r_getR, r_ask, r_lookR, r_lookA, r_bsM, r_mset, r_loop1, f25v2.l2.same f g, r_ret, L_eq]
theorem f25v2.l4.same (f g : Fm) (m M key r y97 v) : (@f25v2.l4 f m M key r y97 v).run = (@f25v2.l4 g m M key r y97 v).run := by
  simp only [f25v2.l4, r_brr, r_getR, r_lookR, r_ck, r_rdM, r_stM, r_cl, r_ret, L_eq]
theorem f25v2.l5.same (f g : Fm) (p1 : Graph) (m seen seen2 i M) : (@f25v2.l5 f p1 m seen i M).run = (@f25v2.l5 g p1 m seen2 i M).run := by
  simp only [f25v2.l5, r_entM, r_cl, r_loop2, f25v2.l4.same f g, r_ret]
theorem f25v2.same (f g : Fm) (p1 : Graph) : (@f25v2.fm f p1).run = (@f25v2.fm g p1).run := by
  simp only [f25v2.fm, r_loop1, f25v2.l3.same f g, r_mloop0, r_tellG, r_ret]
  refine congrArg (bd _) (funext fun e => ?_)
  cases e with
  | a x =>
    simp only [ex3]
    have : (fun (i : Nat) (s : List (List Int)) => runAll fun seen => (@f25v2.l5 f p1 x.2 seen i s).run) = fun i s => runAll fun seen => (@f25v2.l5 g p1 x.2 seen i s).run := by
      funext i s
      rw [runAll_const (c := (@f25v2.l5 g p1 x.2 [] i s).run) (fun seen => f25v2.l5.same f g p1 x.2 seen [] i s), runAll_const (c := (@f25v2.l5 g p1 x.2 [] i s).run) (fun seen => f25v2.l5.same g g p1 x.2 seen [] i s)]
    rw [this]
  | b x => cases x
  | c x => cases x
noncomputable abbrev f25v2  (p1 : Graph) : Pg (List (Int × List Int)) := @f25v2.fm ⟨0⟩ p1
theorem f25v2.ok  (p1 : Graph) {x} (h : (f25v2 p1).run = some x) : Spec Tryz.prog 25 [V p1] [] (.mp 0) [MO false x] :=
  Prg.okF (p := fun f => @f25v2.fm ⟨f⟩ p1) Tryz.func25 1 (res := fun _ => .mp 0) (outs := fun x => [MO false x]) (by kernel_rfl) (by kernel_rfl) rfl (fun f => (f25v2.same ⟨f⟩ ⟨0⟩ p1).trans h)

noncomputable def f6v2.l1 (p1 : Graph) (y3 : List (Int × (List Int))) (v12 : Int) (l13 : List Named) : Pg (Nx (Int × (List Named)) (Ex (List Named) Empty Empty)) :=
brr (decide (v12 < (L p1.Vertices : Int))) (
getR p1.Vertices v12 fun a14 =>
look y3 a14.ID ([] : List Int) fun a15 b16 =>
ap l13 ([(Named.mk a14.ID a15)] : List Named) fun l17 =>
cont ((IntKind.i64.wrap (v12 + 1)), l17)) (
doneA l13)

noncomputable def f6v2 (p1 : Graph) : Pg ((List Named) × Int) :=
cl (f24v2.ok p1) fun y2 =>
brr (!y2) (
.ret ((([] : List Named), (70 : Int)))) (
cl (f25v2.ok p1) fun y3 =>
loop1 ((0 : Int), ([] : List Named)) (fun s18 => f6v2.l1 p1 y3 s18.1 s18.2) (fun s18 => ([(4, .mp 101), (5, H Named 501), (14, V p1.Vertices), (15, V (L p1.Vertices : Int)), (16, V s18.1)], [(101, MO false y3), (501, O s18.2)])) (.cut (.ext 0) fun x19 => ([(5, H Named 101)], [(101, O x19)])) fun x19 =>
.ret ((x19, (0 : Int))))

theorem f6v2.ok (p1 : Graph) {x} (h : (f6v2 p1).run = some x) : Spec Tryz.prog 6 [V p1] [] (.tup [V x.1, V x.2]) [] :=
  Prg.ok Tryz.func6 (res := fun x => .tup [V x.1, V x.2]) (outs := fun x => []) (by kernel_rfl) (by kernel_rfl) rfl h

noncomputable def f7 (p1 : Graph) : Pg Graph :=
ap ([] : List Vertex) p1.Vertices fun l2 =>
ap ([] : List Edge) p1.Edges fun l3 =>
ap ([] : List Int) p1.Depots fun l4 =>
.ret ((Graph.mk l2 l3 l4))

theorem f7.ok (p1 : Graph) {x} (h : (f7 p1).run = some x) : Spec Tryz.prog 7 [V p1] [] (V x) [] :=
  Prg.ok Tryz.func7 (res := fun x => V x) (outs := fun x => []) (by kernel_rfl) (by kernel_rfl) rfl h

noncomputable def f8 (p1 p2 : Int) : Pg Int :=
brr (decide (p1 < 0)) (
nzD p2 <|
.ret (((IntKind.i64.wrap (0 - (IntKind.i64.wrap (p1 + 1)))).tmod p2))) (
nzD p2 <|
.ret ((p1.tmod p2)))

theorem f8.ok (p1 p2 : Int) {x} (h : (f8 p1 p2).run = some x) : Spec Tryz.prog 8 [V p1, V p2] [] (V x) [] :=
  Prg.ok Tryz.func8 (res := fun x => V x) (outs := fun x => []) (by kernel_rfl) (by kernel_rfl) rfl h

noncomputable def f7v1 (p1 : Graph) : Pg ((List Edge) × (List Int) × (List Vertex)) :=
ap ([] : List Vertex) p1.Vertices fun l2 =>
ap ([] : List Edge) p1.Edges fun l3 =>
ap ([] : List Int) p1.Depots fun l4 =>
.ret ((l3, l4, l2))

theorem f7v1.ok (p1 : Graph) {x} (h : (f7v1 p1).run = some x) : Spec Tryz.prog 7 [V p1] [] (.agg [H Vertex 0, V x.1, V x.2.1]) [O x.2.2] :=
  Prg.ok Tryz.func7 (res := fun x => .agg [H Vertex 0, V x.1, V x.2.1]) (outs := fun x => [O x.2.2]) (by kernel_rfl) (by kernel_rfl) rfl h

noncomputable def f7v2 (p1 : Graph) : Pg ((List Int) × (List Vertex) × (List Edge)) :=
ap ([] : List Vertex) p1.Vertices fun l2 =>
ap ([] : List Edge) p1.Edges fun l3 =>
ap ([] : List Int) p1.Depots fun l4 =>
.ret ((l4, l2, l3))

theorem f7v2.ok (p1 : Graph) {x} (h : (f7v2 p1).run = some x) : Spec Tryz.prog 7 [V p1] [] (.agg [H Vertex 0, H Edge 2, V x.1]) [O x.2.1, O x.2.2] :=
  Prg.ok Tryz.func7 (res := fun x => .agg [H Vertex 0, H Edge 2, V x.1]) (outs := fun x => [O x.2.1, O x.2.2]) (by kernel_rfl) (by kernel_rfl) rfl h

noncomputable def f10.l1 (p1 : Graph) (p2 : Int) (v4 : Int) : Pg (Nx Int (Ex (Int) Unit Empty)) :=
brr (decide (v4 < (L p1.Edges : Int))) (
getR p1.Edges v4 fun a5 =>
brr (a5.ID == p2) (
doneA (v4)) (
cont (IntKind.i64.wrap (v4 + 1)))) (
doneB ())

noncomputable def f10 (p1 : Graph) (p2 : Int) : Pg Int :=
loop2 (0 : Int) (fun s6 => f10.l1 p1 p2 s6) (fun s6 => ([(1, V p2), (2, R 101), (5, V s6)], [(101, B p1)])) .inl (fun r7 =>
.ret r7) (.cut (.ext 0) fun _ => ([], [])) fun _ =>
.ret (((-1) : Int))

theorem f10.ok (p1 : Graph) (p2 : Int) {x} (h : (f10 p1 p2).run = some x) : Spec Tryz.prog 10 [V p1, V p2] [] (V x) [] :=
  Prg.ok Tryz.func10 (res := fun x => V x) (outs := fun x => []) (by kernel_rfl) (by kernel_rfl) rfl h

noncomputable def f26 (p1 p2 p3 p4 p5 p6 : Int) (p7 : Bool) (p8 p9 p10 p11 : Int) : Pg Bool :=
join2 (.cond 8) (
brr (p1 == 1) (
retB' ((0 : Int), (0 : Int), p4, p5, p6, p7, p8, p9, p10, p11)) (
join2 (.cond 12) (
brr (p1 == 3) (
retB' (p2, p3, (0 : Int), (0 : Int), (0 : Int), false, (0 : Int), (0 : Int), p10, p11)) (
join1 (.cond 16) (
brr (p1 == 2) (
retA' (p1 == 2)) (
retA' (p1 == 4))) (.cut .nat fun x12 => ([(3, R 101), (7, V p1), (16, V x12)], [(101, .varp [.int .i64 0, .int .i64 p2, .int .i64 p3, .int .i64 p4, .int .i64 p5, .int .i64 p6, .bool p7, .int .i64 p8, .int .i64 p9, .int .i64 p10, .int .i64 p11, .nilsl, .nilsl])])) fun x12 =>
join2 (.cond 16) (
brr x12 (
retB' (p2, p3, (0 : Int), p11)) (
join1 (.cond 20) (
brr (p1 == 5) (
retA' (p1 == 5)) (
join1 (.cond 20) (
brr (p1 == 6) (
retA' (p1 == 6)) (
join1 (.cond 20) (
brr (p1 == 7) (
retA' (p1 == 7)) (
retA' (p1 == 9))) (.cut .nat fun x13 => ([(3, R 101), (7, V p1), (20, V x13)], [(101, .varp [.int .i64 0, .int .i64 p2, .int .i64 p3, .int .i64 p4, .int .i64 p5, .int .i64 p6, .bool p7, .int .i64 p8, .int .i64 p9, .int .i64 p10, .int .i64 p11, .nilsl, .nilsl])])) fun x13 =>
retA' x13)) (.cut .nat fun x14 => ([(3, R 101), (7, V p1), (20, V x14)], [(101, .varp [.int .i64 0, .int .i64 p2, .int .i64 p3, .int .i64 p4, .int .i64 p5, .int .i64 p6, .bool p7, .int .i64 p8, .int .i64 p9, .int .i64 p10, .int .i64 p11, .nilsl, .nilsl])])) fun x14 =>
retA' x14)) (.cut .nat fun x15 => ([(3, R 101), (7, V p1), (20, V x15)], [(101, .varp [.int .i64 0, .int .i64 p2, .int .i64 p3, .int .i64 p4, .int .i64 p5, .int .i64 p6, .bool p7, .int .i64 p8, .int .i64 p9, .int .i64 p10, .int .i64 p11, .nilsl, .nilsl])])) fun x15 =>
join2 (.cond 20) (
brr x15 (
retB' (p2, p3, (0 : Int), (0 : Int))) (
join2 (.cond 27) (
brr (p1 == 8) (
retB' ((0 : Int), (0 : Int), (0 : Int))) (
brr (p1 == 10) (
retB' (p2, p3, p10)) (
retA' (false)))) .inl (fun r16 =>
retA' r16) (.cut .nat fun x17 => ([(3, R 101)], [(101, .varp [.int .i64 0, .int .i64 x17.1, .int .i64 x17.2.1, .int .i64 p4, .int .i64 p5, .int .i64 p6, .bool p7, .int .i64 p8, .int .i64 p9, .int .i64 x17.2.2, .int .i64 p11, .nilsl, .nilsl])])) fun x17 =>
retB' (x17.1, x17.2.1, x17.2.2, p11))) .inl (fun r18 =>
retA' r18) (.cut .nat fun x19 => ([(3, R 101)], [(101, .varp [.int .i64 0, .int .i64 x19.1, .int .i64 x19.2.1, .int .i64 p4, .int .i64 p5, .int .i64 p6, .bool p7, .int .i64 p8, .int .i64 p9, .int .i64 x19.2.2.1, .int .i64 x19.2.2.2, .nilsl, .nilsl])])) fun x19 =>
retB' (x19.1, x19.2.1, x19.2.2.1, x19.2.2.2))) .inl (fun r20 =>
retA' r20) (.cut .nat fun x21 => ([(3, R 101)], [(101, .varp [.int .i64 0, .int .i64 x21.1, .int .i64 x21.2.1, .int .i64 p4, .int .i64 p5, .int .i64 p6, .bool p7, .int .i64 p8, .int .i64 p9, .int .i64 x21.2.2.1, .int .i64 x21.2.2.2, .nilsl, .nilsl])])) fun x21 =>
retB' (x21.1, x21.2.1, p4, p5, p6, p7, p8, p9, x21.2.2.1, x21.2.2.2))) .inl (fun r22 =>
retA' r22) (.cut .nat fun x23 => ([(3, R 101)], [(101, .varp [.int .i64 0, .int .i64 x23.1, .int .i64 x23.2.1, .int .i64 x23.2.2.1, .int .i64 x23.2.2.2.1, .int .i64 x23.2.2.2.2.1, .bool x23.2.2.2.2.2.1, .int .i64 x23.2.2.2.2.2.2.1, .int .i64 x23.2.2.2.2.2.2.2.1, .int .i64 x23.2.2.2.2.2.2.2.2.1, .int .i64 x23.2.2.2.2.2.2.2.2.2, .nilsl, .nilsl])])) fun x23 =>
retB' (x23.1, x23.2.1, x23.2.2.1, x23.2.2.2.1, x23.2.2.2.2.1, x23.2.2.2.2.2.1, x23.2.2.2.2.2.2.1, x23.2.2.2.2.2.2.2.1, x23.2.2.2.2.2.2.2.2.1, x23.2.2.2.2.2.2.2.2.2))) .inl (fun r24 =>
.ret r24) (.cut .nat fun x25 => ([(3, R 101)], [(101, .varp [.int .i64 0, .int .i64 x25.1, .int .i64 x25.2.1, .int .i64 x25.2.2.1, .int .i64 x25.2.2.2.1, .int .i64 x25.2.2.2.2.1, .bool x25.2.2.2.2.2.1, .int .i64 x25.2.2.2.2.2.2.1, .int .i64 x25.2.2.2.2.2.2.2.1, .int .i64 x25.2.2.2.2.2.2.2.2.1, .int .i64 x25.2.2.2.2.2.2.2.2.2, .nilsl, .nilsl])])) fun x25 =>
brr ((x25.1 == 0) && ((x25.2.1 == 0) && true)) (
let e26 : Bool := ((x25.2.2.1 == 0) && ((x25.2.2.2.1 == 0) && ((x25.2.2.2.2.1 == 0) && ((x25.2.2.2.2.2.1 == false) && ((x25.2.2.2.2.2.2.1 == 0) && ((x25.2.2.2.2.2.2.2.1 == 0) && true))))))
brr e26 (
brr (x25.2.2.2.2.2.2.2.2.1 == 0) (
brr (x25.2.2.2.2.2.2.2.2.2 == 0) (
brr ((0 : Int) == 0) (
.ret (((0 : Int) == 0))) (
.ret (false))) (
.ret (false))) (
.ret (false))) (
.ret (false))) (
.ret (false))

theorem f26.ok (p1 p2 p3 p4 p5 p6 : Int) (p7 : Bool) (p8 p9 p10 p11 : Int) {x} (h : (f26 p1 p2 p3 p4 p5 p6 p7 p8 p9 p10 p11).run = some x) : Spec Tryz.prog 26 [.aggp [.int .i64 p1, .int .i64 p2, .int .i64 p3, .int .i64 p4, .int .i64 p5, .int .i64 p6, .bool p7, .int .i64 p8, .int .i64 p9, .int .i64 p10, .int .i64 p11, .nilsl, .nilsl]] [] (V x) [] :=
  Prg.ok Tryz.func26 (res := fun x => V x) (outs := fun x => []) (by kernel_rfl) (by kernel_rfl) rfl h

noncomputable def f27 (p1 : List Vertex) : Pg (List Vertex) :=
bothN p1 <|
ap ([] : List Vertex) p1 fun l2 =>
.ret (l2)

theorem f27.ok (p1 : List Vertex) {x} (h : (f27 p1).run = some x) : Spec Tryz.prog 27 [V p1] [] (V x) [] :=
  Prg.ok Tryz.func27 (res := fun x => V x) (outs := fun x => []) (by kernel_rfl) (by kernel_rfl) rfl h

noncomputable def f28 (p1 : List Edge) : Pg (List Edge) :=
bothN p1 <|
ap ([] : List Edge) p1 fun l2 =>
.ret (l2)

theorem f28.ok (p1 : List Edge) {x} (h : (f28 p1).run = some x) : Spec Tryz.prog 28 [V p1] [] (V x) [] :=
  Prg.ok Tryz.func28 (res := fun x => V x) (outs := fun x => []) (by kernel_rfl) (by kernel_rfl) rfl h

noncomputable def f29 (p1 : List Int) : Pg (List Int) :=
bothN p1 <|
ap ([] : List Int) p1 fun l2 =>
.ret (l2)

theorem f29.ok (p1 : List Int) {x} (h : (f29 p1).run = some x) : Spec Tryz.prog 29 [V p1] [] (V x) [] :=
  Prg.ok Tryz.func29 (res := fun x => V x) (outs := fun x => []) (by kernel_rfl) (by kernel_rfl) rfl h

noncomputable def f32 : Pg (List (Int × FnV)) :=
mset ([] : List (Int × FnV)) (1 : Int) (FnV.mk 59) fun m1 =>
mset m1 (2 : Int) (FnV.mk 61) fun m2 =>
mset m2 (3 : Int) (FnV.mk 64) fun m3 =>
mset m3 (4 : Int) (FnV.mk 67) fun m4 =>
mset m4 (5 : Int) (FnV.mk 69) fun m5 =>
mset m5 (6 : Int) (FnV.mk 72) fun m6 =>
mset m6 (7 : Int) (FnV.mk 73) fun m7 =>
mset m7 (8 : Int) (FnV.mk 75) fun m8 =>
mset m8 (9 : Int) (FnV.mk 78) fun m9 =>
mset m9 (10 : Int) (FnV.mk 80) fun m10 =>
.ret (m10)

theorem f32.ok {x} (h : (f32).run = some x) : Spec Tryz.prog 32 [] [] (.mp 0) [MO false x] :=
  Prg.ok Tryz.func32 (res := fun x => .mp 0) (outs := fun x => [MO false x]) (by kernel_rfl) (by kernel_rfl) rfl h

noncomputable def f103v1 (p1 : Int) : Pg Unit :=
.ret (())

theorem f103v1.ok (p1 : Int) {x} (h : (f103v1 p1).run = some x) : Spec Tryz.prog 103 [V p1] [] (V (p1 != p1)) [] :=
  Prg.ok Tryz.func103 (res := fun x => V (p1 != p1)) (outs := fun x => []) (by kernel_rfl) (by kernel_rfl) rfl h

noncomputable def f95v1 (p1 p2 : Int) : Pg Int :=
cl (f103.ok p1) fun _ =>
cl (f103v1.ok p2) fun _ =>
brr (p1 != p1) (
brr (p2 != p2) (
.ret ((0 : Int))) (
.ret (((-1) : Int)))) (
brr (p2 != p2) (
.ret ((1 : Int))) (
brr (decide (p1 < p2)) (
.ret (((-1) : Int))) (
brr (decide (p1 > p2)) (
.ret ((1 : Int))) (
.ret ((0 : Int))))))

theorem f95v1.ok (p1 p2 : Int) {x} (h : (f95v1 p1 p2).run = some x) : Spec Tryz.prog 95 [V p1, V p2] [] (V x) [] :=
  Prg.ok Tryz.func95 (res := fun x => V x) (outs := fun x => []) (by kernel_rfl) (by kernel_rfl) rfl h

noncomputable def f94 (p1 : Edge) (p2 : Int) : Pg Int :=
cl (f95v1.ok p1.ID p2) fun y3 =>
.ret (y3)

theorem f94.ok (p1 : Edge) (p2 : Int) {x} (h : (f94 p1 p2).run = some x) : Spec Tryz.prog 94 [V p1, V p2] [] (V x) [] :=
  Prg.ok Tryz.func94 (res := fun x => V x) (outs := fun x => []) (by kernel_rfl) (by kernel_rfl) rfl h

noncomputable def f93.l1 (p1 : List Edge) (p2 : Int) (v6 v7 : Int) : Pg (Nx (Int × Int) (Ex Int Empty Empty)) :=
brr (decide (v6 < v7)) (
let e8 : Int := (IntKind.i64.wrap ((IntKind.u64.wrap (IntKind.i64.wrap (v6 + v7))).fdiv (2 ^ (min (1 : Int).toNat IntKind.u64.bits))))
getR p1 e8 fun a9 =>
cl (f94.ok a9 p2) fun y10 =>
brr (decide (y10 < 0)) (
cont ((IntKind.i64.wrap (e8 + 1)), v7)) (
cont (v6, e8))) (
doneA v6)

noncomputable def f93 (p1 : List Edge) (p2 : Int) : Pg (Int × Bool) :=
loop1 ((0 : Int), (L p1 : Int)) (fun s11 => f93.l1 p1 p2 s11.1 s11.2) (fun s11 => ([(0, V p1), (1, V p2), (2, .clo 94 []), (8, V (L p1 : Int)), (9, V s11.1), (10, V s11.2)], [])) (.cut (.ext 0) fun x12 => ([(0, V p1), (1, V p2), (2, .clo 94 []), (8, V (L p1 : Int)), (9, V x12)], [])) fun x12 =>
brr (decide (x12 < (L p1 : Int))) (
getR p1 x12 fun a13 =>
cl (f94.ok a13 p2) fun y14 =>
.ret ((x12, (y14 == 0)))) (
.ret ((x12, false)))

theorem f93.ok (p1 : List Edge) (p2 : Int) {x} (h : (f93 p1 p2).run = some x) : Spec Tryz.prog 93 [V p1, V p2, .clo 94 []] [] (.tup [V x.1, V x.2]) [] :=
  Prg.ok Tryz.func93 (res := fun x => .tup [V x.1, V x.2]) (outs := fun x => []) (by kernel_rfl) (by kernel_rfl) rfl h

noncomputable def f65 (p1 : Int) (p2 : Graph_change) : Pg (Int × Bool) :=
cl (f93.ok p2.Graph.Edges p1) fun y3 =>
.ret ((y3.1, y3.2))

theorem f65.ok (p1 : Int) (p2 : Graph_change) {x} (h : (f65 p1 p2).run = some x) : Spec Tryz.prog 65 [R 0, V p1] [B p2] (.tup [V x.1, V x.2]) [B p2] :=
  Prg.ok Tryz.func65 (res := fun x => .tup [V x.1, V x.2]) (outs := fun x => [B p2]) (by kernel_rfl) (by kernel_rfl) rfl h

noncomputable def f51v1 (p1 : Edge) : Pg Bool :=
cl (f70.ok p1.ID (0 : Int) (39 : Int)) fun _ =>
brr ((decide ((0 : Int) ≤ p1.ID)) && (decide (p1.ID ≤ (39 : Int)))) (
cl (f70.ok p1.From (0 : Int) (23 : Int)) fun _ =>
brr ((decide ((0 : Int) ≤ p1.From)) && (decide (p1.From ≤ (23 : Int)))) (
cl (f70.ok p1.To (0 : Int) (23 : Int)) fun _ =>
brr ((decide ((0 : Int) ≤ p1.To)) && (decide (p1.To ≤ (23 : Int)))) (
cl (f70.ok p1.Weight ((-1000) : Int) (1000 : Int)) fun _ =>
brr ((decide (((-1000) : Int) ≤ p1.Weight)) && (decide (p1.Weight ≤ (1000 : Int)))) (
cl (f70.ok p1.Cap (0 : Int) (1000 : Int)) fun _ =>
.ret (((decide ((0 : Int) ≤ p1.Cap)) && (decide (p1.Cap ≤ (1000 : Int)))))) (
.ret (false))) (
.ret (false))) (
.ret (false))) (
.ret (false))

theorem f51v1.ok (p1 : Edge) {x} (h : (f51v1 p1).run = some x) : Spec Tryz.prog 51 [V p1] [] (V x) [] :=
  Prg.ok Tryz.func51 (res := fun x => V x) (outs := fun x => []) (by kernel_rfl) (by kernel_rfl) rfl h

noncomputable def f62 (p1 : Bool) : Pg Unit :=
brr (!p1) (
.no) (
.ret (()))

theorem f62.ok (p1 : Bool) {x} (h : (f62 p1).run = some x) : Spec Tryz.prog 62 [V p1] [] (.tup []) [] :=
  Prg.ok Tryz.func62 (res := fun x => .tup []) (outs := fun x => []) (by kernel_rfl) (by kernel_rfl) rfl h

noncomputable def f28v1 (p1 : List Edge) : Pg (List Edge) :=
bothN p1 <|
ap ([] : List Edge) p1 fun l2 =>
.ret (l2)

theorem f28v1.ok (p1 : List Edge) {x} (h : (f28v1 p1).run = some x) : Spec Tryz.prog 28 [V p1] [] (H Edge 0) [O x] :=
  Prg.ok Tryz.func28 (res := fun x => H Edge 0) (outs := fun x => [O x]) (by kernel_rfl) (by kernel_rfl) rfl h

noncomputable def f93v1.l1 (p1 : Int) (p2 : List Edge) (v6 v7 : Int) : Pg (Nx (Int × Int) (Ex Int Empty Empty)) :=
brr (decide (v6 < v7)) (
let e8 : Int := (IntKind.i64.wrap ((IntKind.u64.wrap (IntKind.i64.wrap (v6 + v7))).fdiv (2 ^ (min (1 : Int).toNat IntKind.u64.bits))))
ck e8 (L p2) <|
rd p2 (at0 e8) fun a9 =>
cl (f94.ok a9 p1) fun y10 =>
brr (decide (y10 < 0)) (
cont ((IntKind.i64.wrap (e8 + 1)), v7)) (
cont (v6, e8))) (
doneA v6)

noncomputable def f93v1 (p1 : Int) (p2 : List Edge) : Pg (Int × Bool) :=
loop1 ((0 : Int), (L p2 : Int)) (fun s11 => f93v1.l1 p1 p2 s11.1 s11.2) (fun s11 => ([(0, H Edge 0), (1, V p1), (2, .clo 94 []), (8, V (L p2 : Int)), (9, V s11.1), (10, V s11.2)], [(0, O p2)])) (.cut (.ext 0) fun x12 => ([(0, H Edge 0), (1, V p1), (2, .clo 94 []), (8, V (L p2 : Int)), (9, V x12)], [(0, O p2)])) fun x12 =>
brr (decide (x12 < (L p2 : Int))) (
ck x12 (L p2) <|
rd p2 (at0 x12) fun a13 =>
cl (f94.ok a13 p1) fun y14 =>
.ret ((x12, (y14 == 0)))) (
.ret ((x12, false)))

theorem f93v1.ok (p1 : Int) (p2 : List Edge) {x} (h : (f93v1 p1 p2).run = some x) : Spec Tryz.prog 93 [H Edge 0, V p1, .clo 94 []] [O p2] (.tup [V x.1, V x.2]) [O p2] :=
  Prg.ok Tryz.func93 (res := fun x => .tup [V x.1, V x.2]) (outs := fun x => [O p2]) (by kernel_rfl) (by kernel_rfl) rfl h

noncomputable def f65v1 (p1 : Int) (p2 : List Vertex) (p3 : List Int) (p4 : List Edge) : Pg (Int × Bool) :=
cl (f93v1.ok p1 p4) fun y5 =>
.ret ((y5.1, y5.2))

theorem f65v1.ok (p1 : Int) (p2 : List Vertex) (p3 : List Int) (p4 : List Edge) {x} (h : (f65v1 p1 p2 p3 p4).run = some x) : Spec Tryz.prog 65 [R 0, V p1] [.var [V p2, H Edge 2, V p3], O p4] (.tup [V x.1, V x.2]) [.var [V p2, H Edge 2, V p3], O p4] :=
  Prg.ok Tryz.func65 (res := fun x => .tup [V x.1, V x.2]) (outs := fun x => [.var [V p2, H Edge 2, V p3], O p4]) (by kernel_rfl) (by kernel_rfl) rfl h

noncomputable def f79v3 (p1 : Int) (p2 : List Vertex) (p3 : List Int) (p4 : List Edge) : Pg (Int × Bool) :=
cl (f98.ok p2 p1) fun y5 =>
.ret ((y5.1, y5.2))

theorem f79v3.ok (p1 : Int) (p2 : List Vertex) (p3 : List Int) (p4 : List Edge) {x} (h : (f79v3 p1 p2 p3 p4).run = some x) : Spec Tryz.prog 79 [R 0, V p1] [.var [V p2, H Edge 2, V p3], O p4] (.tup [V x.1, V x.2]) [.var [V p2, H Edge 2, V p3], O p4] :=
  Prg.ok Tryz.func79 (res := fun x => .tup [V x.1, V x.2]) (outs := fun x => [.var [V p2, H Edge 2, V p3], O p4]) (by kernel_rfl) (by kernel_rfl) rfl h

noncomputable def f52v3 (p1 : Int) (p2 : List Vertex) (p3 : List Int) (p4 : List Edge) : Pg Bool :=
cl (f79v3.ok p1 p2 p3 p4) fun y5 =>
.ret (y5.2)

theorem f52v3.ok (p1 : Int) (p2 : List Vertex) (p3 : List Int) (p4 : List Edge) {x} (h : (f52v3 p1 p2 p3 p4).run = some x) : Spec Tryz.prog 52 [R 0, V p1] [.var [V p2, H Edge 2, V p3], O p4] (V x) [.var [V p2, H Edge 2, V p3], O p4] :=
  Prg.ok Tryz.func52 (res := fun x => V x) (outs := fun x => [.var [V p2, H Edge 2, V p3], O p4]) (by kernel_rfl) (by kernel_rfl) rfl h

noncomputable def f66v1 (p1 : Int) (p2 p3 : List Edge) : Pg (List Edge) :=
bLo p1 (L p3) <|
brr ((L p2 : Int) == 0) (
.no) (
brr (p1 == (L p3 : Int)) (
ap p3 p2 fun l4 =>
.ret (l4)) (
.no))

theorem f66v1.ok (p1 : Int) (p2 p3 : List Edge) {x} (h : (f66v1 p1 p2 p3).run = some x) : Spec Tryz.prog 66 [H Edge 0, V p1, V p2] [O p3] (V x) [.dead] :=
  Prg.ok Tryz.func66 (res := fun x => V x) (outs := fun x => [.dead]) (by kernel_rfl) (by kernel_rfl) rfl h

noncomputable def f64v1 (p1 p2 p3 p4 p5 p6 : Int) (p7 : Bool) (p8 p9 p10 p11 : Int) (p12 : List Vertex) (p13 : List Int) (p14 : List Edge) : Pg Graph_change :=
cl (f65v1.ok p4 p12 p13 p14) fun y15 =>
join1 (.reg 2) (
brr (!y15.2) (
cl (f51v1.ok (Edge.mk p4 p5 p6 p7 p8 p9)) fun y16 =>
brr y16 (
cl (f52v3.ok p5 p12 p13 p14) fun y17 =>
brr y17 (
cl (f52v3.ok p6 p12 p13 p14) fun y18 =>
cl (f62.ok y18) fun _ =>
retA' ()) (
cl (f62.ok false) fun _ =>
retA' ())) (
cl (f62.ok false) fun _ =>
retA' ())) (
cl (f62.ok false) fun _ =>
retA' ())) (.cut .nat fun _ => ([(0, R 0), (3, R 101), (4, V y15.1)], [(0, .var [V p12, H Edge 2, V p13]), (2, O p14), (101, .varp [.int .i64 p1, .int .i64 p2, .int .i64 p3, .int .i64 p4, .int .i64 p5, .int .i64 p6, .bool p7, .int .i64 p8, .int .i64 p9, .int .i64 p10, .int .i64 p11, .nilsl, .nilsl])])) fun _ =>
cl (f66v1.ok y15.1 ([(Edge.mk p4 p5 p6 p7 p8 p9)] : List Edge) p14) fun y24 =>
.ret ((Graph_change.mk (Graph.mk p12 y24 p13)))

theorem f64v1.ok (p1 p2 p3 p4 p5 p6 : Int) (p7 : Bool) (p8 p9 p10 p11 : Int) (p12 : List Vertex) (p13 : List Int) (p14 : List Edge) {x} (h : (f64v1 p1 p2 p3 p4 p5 p6 p7 p8 p9 p10 p11 p12 p13 p14).run = some x) : Spec Tryz.prog 64 [R 0, .aggp [.int .i64 p1, .int .i64 p2, .int .i64 p3, .int .i64 p4, .int .i64 p5, .int .i64 p6, .bool p7, .int .i64 p8, .int .i64 p9, .int .i64 p10, .int .i64 p11, .nilsl, .nilsl]] [.var [V p12, H Edge 2, V p13], O p14] (.tup []) [B x, .dead] :=
  Prg.ok Tryz.func64 (res := fun x => .tup []) (outs := fun x => [B x, .dead]) (by kernel_rfl) (by kernel_rfl) rfl h

noncomputable def f31v1 (p1 p2 p3 p4 p5 p6 : Int) (p7 : Bool) (p8 p9 p10 p11 : Int) (p12 : List Vertex) (p13 : List Int) (p14 : List Edge) : Pg Graph_change :=
cl (f32.ok) fun y15 =>
lookF y15 p1 64 <|
cl (f64v1.ok p1 p2 p3 p4 p5 p6 p7 p8 p9 p10 p11 p12 p13 p14) fun y16 =>
.ret (y16)

theorem f31v1.ok (p1 p2 p3 p4 p5 p6 : Int) (p7 : Bool) (p8 p9 p10 p11 : Int) (p12 : List Vertex) (p13 : List Int) (p14 : List Edge) {x} (h : (f31v1 p1 p2 p3 p4 p5 p6 p7 p8 p9 p10 p11 p12 p13 p14).run = some x) : Spec Tryz.prog 31 [R 0, R 2] [.varp [.int .i64 p1, .int .i64 p2, .int .i64 p3, .int .i64 p4, .int .i64 p5, .int .i64 p6, .bool p7, .int .i64 p8, .int .i64 p9, .int .i64 p10, .int .i64 p11, .nilsl, .nilsl], mkVar (R 4), .var [V p12, H Edge 6, V p13], O p14] (.tup []) [.varp [.int .i64 p1, .int .i64 p2, .int .i64 p3, .int .i64 p4, .int .i64 p5, .int .i64 p6, .bool p7, .int .i64 p8, .int .i64 p9, .int .i64 p10, .int .i64 p11, .nilsl, .nilsl], mkVar (R 4), B x, .dead] :=
  Prg.ok Tryz.func31 (res := fun x => .tup []) (outs := fun x => [.varp [.int .i64 p1, .int .i64 p2, .int .i64 p3, .int .i64 p4, .int .i64 p5, .int .i64 p6, .bool p7, .int .i64 p8, .int .i64 p9, .int .i64 p10, .int .i64 p11, .nilsl, .nilsl], mkVar (R 4), B x, .dead]) (by kernel_rfl) (by kernel_rfl) rfl h

theorem try_store {w : World} {b : Nat} {x : Bool} (hb : w.heap[b]? = some (.cells #[.bool x] 4 (0, 0))) (y : Bool) : (storeVar 4 ⟨b, 0, none⟩ (.bool y)).run Tryz.prog w = .ok () (w.setRow b #[.bool y]) := by
  have h4 : Tryz.prog.cellsOf 4 = 1 := by kernel_rfl
  refine run_storeVar_part (P := Tryz.prog) hb (y := .bool y) (fun v hv => ?_) (by rw [h4]; rfl) (.inl (by rw [h4]; decide)) (by rw [h4]; simp)
  have : v = .bool y := by simpa [Value.cells] using hv
  subst this; rfl
theorem try_load {w : World} {b : Nat} {x : Bool} (hb : w.heap[b]? = some (.cells #[.bool x] 4 (0, 0))) : (loadVar 4 ⟨b, 0, none⟩).run Tryz.prog w = .ok (.bool x) w := by
  have hc : w.cell? ⟨b, 0, none⟩ = some (.bool x) := by unfold World.cell?; rw [hb]; rfl
  obtain ⟨y, h1, h2, _⟩ := run_loadVar_cells (P := Tryz.prog) (M := ⟨fun _ => .frozen, fun _ => (0, none), [], 0⟩) (w := w) (t := 4) (b := b) (off := 0) (cs := [.bool x]) (x := fun _ => .bool x) (v := .pv (.bool x)) (by kernel_rfl)
    (fun j p h => by
      match j, h with
      | 0, h => exact hc)
    (fun j p h => by
      match j, h with
      | 0, h => cases h; exact .bool x)
  rw [rel_bool h2] at h1
  exact h1

set_option maxHeartbeats 1000000 in
theorem tryDefer {w : World} {b : Nat} {x : Bool} (hb : w.heap[b]? = some (.cells #[.bool x] 4 (0, 0))) :
    CallsD Tryz.prog 58 #[.pointer (some ⟨b, 0, none⟩)] .returning w fun e u' w' => (∃ v, e = .returned v) ∧ u' = .returning ∧ w' = w.setRow b #[.bool true] := by
  refine callsD_of_wpS (fn := Tryz.f58) Tryz.func58 rfl fun c0 cs hm => ?_
  refine wpS_seq (wpS_region ?_)
  show wpOpsS _ _ _ [0, 1] _ _ _
  refine opRSx (w' := w) ⟨#[.pointer (some ⟨b, 0, none⟩), undef, undef, undef, .nilIface, undef, undef, undef, undef, undef, undef, undef, undef, undef, undef, undef, undef, undef, undef], []⟩ rfl rfl (by kernel_rfl) (by simp [recoverD, hm]) (by kernel_rfl) ?_
  refine opVSx (v := .nilIface) (w' := w) ⟨#[.pointer (some ⟨b, 0, none⟩), .nilIface, undef, undef, .nilIface, undef, undef, undef, undef, undef, undef, undef, undef, undef, undef, undef, undef, undef, undef], []⟩ rfl rfl (by kernel_rfl) (by kernel_rfl) ?_
  show Code.wpS _ _ _ _ _ _
  refine wpS_of_wp ?_
  refine wp_seq (wp_seq (wp_region ?_))
  show wpOps _ _ _ [0, 1, 2, 3, 4, 5, 6] _ _
  refine opVx (v := .nilIface) (w' := w) ⟨#[.pointer (some ⟨b, 0, none⟩), .nilIface, undef, undef, .nilIface, undef, .nilIface, undef, undef, undef, undef, undef, undef, undef, undef, undef, undef, undef, undef], []⟩ rfl rfl (by kernel_rfl) (by kernel_rfl) ?_
  refine opVx (v := .tuple #[.int .i64 0, .bool false]) (w' := w) ⟨#[.pointer (some ⟨b, 0, none⟩), .nilIface, undef, undef, .nilIface, undef, .nilIface, .tuple #[.int .i64 0, .bool false], undef, undef, undef, undef, undef, undef, undef, undef, undef, undef, undef], []⟩ rfl rfl (by kernel_rfl) (by kernel_rfl) ?_
  refine opVx (v := .tuple #[.int .i64 0, .bool false]) (w' := w) ⟨#[.pointer (some ⟨b, 0, none⟩), .nilIface, undef, undef, .nilIface, .tuple #[.int .i64 0, .bool false], .nilIface, .tuple #[.int .i64 0, .bool false], undef, undef, undef, undef, undef, undef, undef, undef, undef, undef, undef], []⟩ rfl rfl (by kernel_rfl) (by kernel_rfl) ?_
  refine opVx (v := .int .i64 0) (w' := w) ⟨#[.pointer (some ⟨b, 0, none⟩), .nilIface, undef, undef, .nilIface, .tuple #[.int .i64 0, .bool false], .nilIface, .tuple #[.int .i64 0, .bool false], .int .i64 0, undef, undef, undef, undef, undef, undef, undef, undef, undef, undef], []⟩ rfl rfl (by kernel_rfl) (by kernel_rfl) ?_
  refine opVx (v := .bool false) (w' := w) ⟨#[.pointer (some ⟨b, 0, none⟩), .nilIface, undef, undef, .nilIface, .tuple #[.int .i64 0, .bool false], .nilIface, .tuple #[.int .i64 0, .bool false], .int .i64 0, .bool false, undef, undef, undef, undef, undef, undef, undef, undef, undef], []⟩ rfl rfl (by kernel_rfl) (by kernel_rfl) ?_
  refine opVx (v := .int .i64 0) (w' := w) ⟨#[.pointer (some ⟨b, 0, none⟩), .nilIface, .int .i64 0, undef, .nilIface, .tuple #[.int .i64 0, .bool false], .nilIface, .tuple #[.int .i64 0, .bool false], .int .i64 0, .bool false, undef, undef, undef, undef, undef, undef, undef, undef, undef], []⟩ rfl rfl (by kernel_rfl) (by kernel_rfl) ?_
  refine opVx (v := .bool false) (w' := w) ⟨#[.pointer (some ⟨b, 0, none⟩), .nilIface, .int .i64 0, .bool false, .nilIface, .tuple #[.int .i64 0, .bool false], .nilIface, .tuple #[.int .i64 0, .bool false], .int .i64 0, .bool false, undef, undef, undef, undef, undef, undef, undef, undef, undef], []⟩ rfl rfl (by kernel_rfl) (by kernel_rfl) ?_
  show Code.wp _ _ _ _ _
  refine wp_seq (wp_region ?_)
  show wpOps _ _ _ [0, 1, 2, 3, 4, 5] _ _
  refine opVx (v := .nilIface) (w' := w) ⟨#[.pointer (some ⟨b, 0, none⟩), .nilIface, .int .i64 0, .bool false, .nilIface, .tuple #[.int .i64 0, .bool false], .nilIface, .tuple #[.int .i64 0, .bool false], .int .i64 0, .bool false, .nilIface, undef, undef, undef, undef, undef, undef, undef, undef], []⟩ rfl rfl (by kernel_rfl) (by kernel_rfl) ?_
  refine opVx (v := .bool false) (w' := w) ⟨#[.pointer (some ⟨b, 0, none⟩), .nilIface, .int .i64 0, .bool false, .nilIface, .tuple #[.int .i64 0, .bool false], .nilIface, .tuple #[.int .i64 0, .bool false], .int .i64 0, .bool false, .nilIface, .bool false, undef, undef, undef, undef, undef, undef, undef], []⟩ rfl rfl (by kernel_rfl) (by kernel_rfl) ?_
  refine opVx (v := .bool false) (w' := w) ⟨#[.pointer (some ⟨b, 0, none⟩), .nilIface, .int .i64 0, .bool false, .nilIface, .tuple #[.int .i64 0, .bool false], .nilIface, .tuple #[.int .i64 0, .bool false], .int .i64 0, .bool false, .nilIface, .bool false, .bool false, undef, undef, undef, undef, undef, undef], []⟩ rfl rfl (by kernel_rfl) (by kernel_rfl) ?_
  refine opSkx ⟨#[.pointer (some ⟨b, 0, none⟩), .nilIface, .int .i64 0, .bool false, .nilIface, .tuple #[.int .i64 0, .bool false], .nilIface, .tuple #[.int .i64 0, .bool false], .int .i64 0, .bool false, .nilIface, .bool false, .bool false, undef, undef, undef, undef, undef, undef], []⟩ rfl (by kernel_rfl) (by kernel_rfl) ?_
  refine opSkx ⟨#[.pointer (some ⟨b, 0, none⟩), .nilIface, .int .i64 0, .bool false, .nilIface, .tuple #[.int .i64 0, .bool false], .nilIface, .tuple #[.int .i64 0, .bool false], .int .i64 0, .bool false, .nilIface, .bool false, .bool false, undef, undef, undef, undef, undef, undef], []⟩ rfl (by kernel_rfl) (by kernel_rfl) ?_
  refine opVx (v := .bool false) (w' := w) ⟨#[.pointer (some ⟨b, 0, none⟩), .nilIface, .int .i64 0, .bool false, .nilIface, .tuple #[.int .i64 0, .bool false], .nilIface, .tuple #[.int .i64 0, .bool false], .int .i64 0, .bool false, .nilIface, .bool false, .bool false, undef, undef, .bool false, undef, undef, undef], []⟩ rfl rfl (by kernel_rfl) (by kernel_rfl) ?_
  show Code.wp _ _ _ _ _
  refine wp_cond_false (by kernel_rfl) (wp_skip ?_)
  show Code.wp _ _ _ _ _
  refine wp_region ?_
  show wpOps _ _ _ [0, 1, 2] _ _
  refine opVx (v := .nilIface) (w' := w) ⟨#[.pointer (some ⟨b, 0, none⟩), .nilIface, .int .i64 0, .bool false, .nilIface, .tuple #[.int .i64 0, .bool false], .nilIface, .tuple #[.int .i64 0, .bool false], .int .i64 0, .bool false, .nilIface, .bool false, .bool false, undef, undef, .bool false, undef, .nilIface, undef], []⟩ rfl rfl (by kernel_rfl) (by kernel_rfl) ?_
  refine opVx (v := .bool true) (w' := w) ⟨#[.pointer (some ⟨b, 0, none⟩), .nilIface, .int .i64 0, .bool false, .nilIface, .tuple #[.int .i64 0, .bool false], .nilIface, .tuple #[.int .i64 0, .bool false], .int .i64 0, .bool false, .nilIface, .bool false, .bool false, undef, undef, .bool false, undef, .nilIface, .bool true], []⟩ rfl rfl (by kernel_rfl) (by kernel_rfl) ?_
  refine opS rfl rfl (w' := w.setRow b #[.bool true]) ?_ ?_
  · simp [execOp, Instr.storeAt, Instr.sureAddr, Act.eval, try_store hb]
  exact ⟨rfl, .returning, by rw [← hm], .tuple #[], by kernel_rfl, ⟨_, rfl⟩, rfl, rfl⟩


set_option maxHeartbeats 1000000 in
theorem tryOk31 {caps : List AV} {ext outs : List AObj} {r : AV} (h : Spec Tryz.prog 31 caps ext r outs) : Spec Tryz.prog 30 [.clo 31 caps] ext (.pv (.bool true)) outs := by
  intro M w vs hsz hrel hext hn1 hn2
  obtain ⟨v, rfl⟩ : ∃ v, vs = #[v] := by
    match vs, hsz with
    | ⟨[v]⟩, _ => exact ⟨v, rfl⟩
  have hv := hrel 0 v (.clo 31 caps) rfl rfl
  cases hv with | clo _ cv _ h1 h2 =>
  refine calls_of_wp_defers (fn := Tryz.f30) Tryz.func30 rfl ?_
  refine wp_seq (wp_region ?_)
  show wpOps _ _ _ [0] _ _
  refine opV rfl rfl (v := .pointer (some ⟨w.heap.size, 0, none⟩)) (w' := w.alloc (.cells #[.bool false] 4)) (by kernel_rfl) ?_
  show Code.wp _ _ _ _ _
  refine wp_seq (wp_region ?_)
  show wpOps _ _ _ [0, 1] _ _
  refine opV rfl rfl (v := .func (.func 58) #[] #[.pointer (some ⟨w.heap.size, 0, none⟩)]) (w' := w.alloc (.cells #[.bool false] 4)) (by kernel_rfl) ?_
  refine opD rfl rfl (d := ⟨.fn (.func 58) #[.pointer (some ⟨w.heap.size, 0, none⟩)], #[]⟩) (w' := w.alloc (.cells #[.bool false] 4)) (by kernel_rfl) ?_
  show Code.wp _ _ _ _ _
  refine wp_seq (wp_region ?_)
  show wpOps _ _ _ [0, 1] _ _
  refine opV rfl rfl (v := .func (.func 31) #[] cv) (w' := w.alloc (.cells #[.bool false] 4)) (by kernel_rfl) ?_
  have E1 : Ext M w ⟨updN M.κ w.heap.size .outer, M.β, M.φ, M.F0⟩ (w.alloc (.cells #[.bool false] 4)) := Ext.fresh .outer _
  have hcn : ∀ x ∈ caps, ∀ n ∈ x.nms, evenBelow ext.length n := fun x hx n hn => hn1 _ (List.mem_singleton.2 rfl) n (by simp only [AV.nms]; exact nmsL_mem hx hn)
  have hc := h ⟨updN M.κ w.heap.size .outer, M.β, M.φ, M.F0⟩ (w.alloc (.cells #[.bool false] 4)) cv h1 (fun i v x e1 e2 => (h2 i v x e1 e2).mono E1 fun _ _ => rfl)
    (fun k o ho => (hext k o ho).mono E1 rfl (fun _ _ => rfl) fun b hb _ => ⟨updN_ne _ _ (by omega), RowKit.Below.heap_alloc w _ b hb⟩) hcn hn2
  refine opC rfl rfl (f := 31) (args := #[] ++ cv) (w' := w.alloc (.cells #[.bool false] 4)) (by kernel_rfl) (by rw [Array.empty_append]; exact hc) fun e w2 hR => ?_
  obtain ⟨v2, M2, rfl, E2, hr, ho, hβ, hnr, hno, hle⟩ := hR
  refine ⟨v2, rfl, ?_⟩
  have hlt : w.heap.size < (w.alloc (.cells #[.bool false] 4)).heap.size := by show _ < (w.heap.push _).size; simp
  have hk2 : M2.κ w.heap.size = .outer := E2.out _ hlt (updN_self _ _ _)
  have hb2 : w2.heap[w.heap.size]? = some (.cells #[.bool false] 4 (0, 0)) :=
    (E2.keep _ hlt (by intro n; rw [show Mm.κ _ _ = Cls.outer from updN_self _ _ _]; intro e; cases e)).trans (new_block w _)
  generalize hbk : w.heap.size = b at *
  show Code.wp _ _ _ _ _
  refine wp_seq (wp_region ?_)
  show wpOps _ _ _ [0] _ _
  refine opS rfl rfl (w' := w2.setRow b #[.bool true]) ?_ ?_
  · simp [execOp, Instr.storeAt, Instr.sureAddr, Act.eval, Act.put, try_store hb2]
  show Code.wp _ _ _ _ _
  refine wp_ret ?_
  have hb3 : (w2.setRow b #[.bool true]).heap[b]? = some (.cells #[.bool true] 4 (0, 0)) := setRow_heap _ _ _ _ _ _ hb2
  show Leaves _ _ _ _ [⟨.fn (.func 58) #[.pointer (some ⟨b, 0, none⟩)], #[]⟩] .returning _
  refine leaves_cons (f := 58) (args := #[.pointer (some ⟨b, 0, none⟩)]) (by simp) (by kernel_rfl) ?_
  refine CallsD.mono (tryDefer hb3) fun e u' w4 hR => ?_
  obtain ⟨⟨v4, rfl⟩, rfl, rfl⟩ := hR
  have hb4 : ((w2.setRow b #[.bool true]).setRow b #[.bool true]).heap[b]? = some (.cells #[.bool true] 4 (0, 0)) := setRow_heap _ _ _ _ _ _ hb3
  show Leaves _ _ _ _ [] .returning _
  refine ⟨.bool true, ?_, ?_⟩
  · simp [results, Act.put, asAddr, try_load hb4]
  have hn4 : ∀ k, k ≠ b → ((w2.setRow b #[.bool true]).setRow b #[.bool true]).heap[k]? = w2.heap[k]? := fun k hk => by rw [setRow_other _ _ _ _ hk, setRow_other _ _ _ _ hk]
  have L : Lft M2 w2 M2 ((w2.setRow b #[.bool true]).setRow b #[.bool true]) := Lft.outer hk2 hb2 hb4 rfl hn4
  have E := E1.trans E2
  refine ⟨.bool true, M2, rfl, ?_, .pv _ _ (.bool true), fun k o hk => ORel.outer L hk2 hn4 (ho k o hk), fun k hk => hβ k hk, by simp [AV.nms], hno, hle⟩
  exact ⟨E.os, E.tape, E.output, by have := E.size; simpa using this, fun k hk hk' => by rw [hn4 k (by omega)]; exact E.keep k hk hk', E.fro, E.out, fun k c T fr hh => by
    obtain ⟨c', g1, g2⟩ := E.shp k c T fr hh
    exact ⟨c', by rw [hn4 k (by have := heap_lt hh; omega)]; exact g1, g2⟩, E.fam, E.low, E.f0⟩

noncomputable def f30v1 (p1 p2 p3 p4 p5 p6 : Int) (p7 : Bool) (p8 p9 p10 p11 : Int) (p12 : List Vertex) (p13 : List Int) (p14 : List Edge) : Pg Graph_change := f31v1 p1 p2 p3 p4 p5 p6 p7 p8 p9 p10 p11 p12 p13 p14
theorem f30v1.ok (p1 p2 p3 p4 p5 p6 : Int) (p7 : Bool) (p8 p9 p10 p11 : Int) (p12 : List Vertex) (p13 : List Int) (p14 : List Edge) {x} (h : (f30v1 p1 p2 p3 p4 p5 p6 p7 p8 p9 p10 p11 p12 p13 p14).run = some x) : Spec Tryz.prog 30 [.clo 31 [R 0, R 2]] [.varp [.int .i64 p1, .int .i64 p2, .int .i64 p3, .int .i64 p4, .int .i64 p5, .int .i64 p6, .bool p7, .int .i64 p8, .int .i64 p9, .int .i64 p10, .int .i64 p11, .nilsl, .nilsl], mkVar (R 4), .var [V p12, H Edge 6, V p13], O p14] (.pv (.bool true)) [.varp [.int .i64 p1, .int .i64 p2, .int .i64 p3, .int .i64 p4, .int .i64 p5, .int .i64 p6, .bool p7, .int .i64 p8, .int .i64 p9, .int .i64 p10, .int .i64 p11, .nilsl, .nilsl], mkVar (R 4), B x, .dead] :=
  tryOk31 (f31v1.ok p1 p2 p3 p4 p5 p6 p7 p8 p9 p10 p11 p12 p13 p14 h)

noncomputable def f11 (p1 : Graph) (p2 p3 p4 p5 p6 p7 : Int) (p8 : Bool) (p9 p10 p11 p12 : Int) : Pg (Graph × Int) :=
join1 (.reg 1) (
cl (f24v2.ok p1) fun y14 =>
brr (!y14) (
retA' true) (
cl (f26.ok p2 p3 p4 p5 p6 p7 p8 p9 p10 p11 p12) fun y15 =>
retA' (!y15))) (.cut .nat fun x16 => ([(2, R 101), (3, R 103), (4, R 105), (14, V x16)], [(101, B p1), (103, .varp [.int .i64 p2, .int .i64 p3, .int .i64 p4, .int .i64 p5, .int .i64 p6, .int .i64 p7, .bool p8, .int .i64 p9, .int .i64 p10, .int .i64 p11, .int .i64 p12, .nilsl, .nilsl]), (105, .varp [.nilsl, .nilsl, .nilsl])])) fun x16 =>
brr x16 (
.ret (((Graph.mk [] [] []), (30 : Int)))) (
cl (f27.ok p1.Vertices) fun y17 =>
cl (f28v1.ok p1.Edges) fun y18 =>
cl (f29.ok p1.Depots) fun y19 =>
cl (f30v1.ok p2 p3 p4 p5 p6 p7 p8 p9 p10 p11 p12 y17 y19 y18) fun y20 =>
brr (!true) (
.ret (((Graph.mk [] [] []), (30 : Int)))) (
.ret ((y20.Graph, (0 : Int)))))

theorem f11.ok (p1 : Graph) (p2 p3 p4 p5 p6 p7 : Int) (p8 : Bool) (p9 p10 p11 p12 : Int) {x} (h : (f11 p1 p2 p3 p4 p5 p6 p7 p8 p9 p10 p11 p12).run = some x) : Spec Tryz.prog 11 [V p1, .aggp [.int .i64 p2, .int .i64 p3, .int .i64 p4, .int .i64 p5, .int .i64 p6, .int .i64 p7, .bool p8, .int .i64 p9, .int .i64 p10, .int .i64 p11, .int .i64 p12, .nilsl, .nilsl]] [] (.tup [V x.1, V x.2]) [] :=
  Prg.ok Tryz.func11 (res := fun x => .tup [V x.1, V x.2]) (outs := fun x => []) (by kernel_rfl) (by kernel_rfl) rfl h

noncomputable def f81v1 (p1 : Int) (p2 : Graph) : Pg Bool :=
cl (f53v1.ok p2.Vertices p1) fun y3 =>
.ret ((!y3))

theorem f81v1.ok (p1 : Int) (p2 : Graph) {x} (h : (f81v1 p1 p2).run = some x) : Spec Tryz.prog 81 [V p1, R 0] [B p2] (V x) [B p2] :=
  Prg.ok Tryz.func81 (res := fun x => V x) (outs := fun x => [B p2]) (by kernel_rfl) (by kernel_rfl) rfl h

noncomputable def f100v4.l1 (p1 : List Int) (p2 : Graph) (v5 : Int) : Pg (Nx Int (Ex (Int) Unit Empty)) :=
brr (decide (v5 < (L p1 : Int))) (
getR p1 v5 fun a6 =>
cl (f81v1.ok a6 p2) fun y7 =>
brr y7 (
doneA (v5)) (
cont (IntKind.i64.wrap (v5 + 1)))) (
doneB ())

noncomputable def f100v4 (p1 : List Int) (p2 : Graph) : Pg Int :=
loop2 (0 : Int) (fun s8 => f100v4.l1 p1 p2 s8) (fun s8 => ([(0, V p1), (1, .clo 81 [R 0]), (7, V (L p1 : Int)), (8, V s8)], [(0, B p2)])) .inl (fun r9 =>
.ret r9) (.cut (.ext 0) fun _ => ([], [(0, B p2)])) fun _ =>
.ret (((-1) : Int))

theorem f100v4.ok (p1 : List Int) (p2 : Graph) {x} (h : (f100v4 p1 p2).run = some x) : Spec Tryz.prog 100 [V p1, .clo 81 [R 0]] [B p2] (V x) [B p2] :=
  Prg.ok Tryz.func100 (res := fun x => V x) (outs := fun x => [B p2]) (by kernel_rfl) (by kernel_rfl) rfl h

noncomputable def f83v4 (p1 : List Int) (p2 : Graph) : Pg Bool :=
cl (f100v4.ok p1 p2) fun y3 =>
.ret ((decide (y3 ≥ 0)))

theorem f83v4.ok (p1 : List Int) (p2 : Graph) {x} (h : (f83v4 p1 p2).run = some x) : Spec Tryz.prog 83 [V p1, .clo 81 [R 0]] [B p2] (V x) [B p2] :=
  Prg.ok Tryz.func83 (res := fun x => V x) (outs := fun x => [B p2]) (by kernel_rfl) (by kernel_rfl) rfl h

noncomputable def f33v1 (p1 : Graph) (p2 : List Int) : Pg Bool :=
cl (f24v2.ok p1) fun y3 =>
brr y3 (
cl (f83v4.ok p2 p1) fun y4 =>
.ret ((!y4))) (
.ret (false))

theorem f33v1.ok (p1 : Graph) (p2 : List Int) {x} (h : (f33v1 p1 p2).run = some x) : Spec Tryz.prog 33 [V p1, V p2] [] (V x) [] :=
  Prg.ok Tryz.func33 (res := fun x => V x) (outs := fun x => []) (by kernel_rfl) (by kernel_rfl) rfl h

noncomputable def f12v1 (p1 : Graph) (p2 p3 : Int) : Pg (Bool × Int) :=
cl (f33v1.ok p1 ([p2, p3] : List Int)) fun y4 =>
brr (!y4) (
.ret ((false, (70 : Int)))) (
cl (f25v2.ok p1) fun y5 =>
look y5 p2 ([] : List Int) fun a6 b7 =>
getR a6 (0 : Int) fun a8 =>
look y5 p3 ([] : List Int) fun a9 b10 =>
getR a9 (0 : Int) fun a11 =>
.ret (((a8 == a11), (0 : Int))))

theorem f12v1.ok (p1 : Graph) (p2 p3 : Int) {x} (h : (f12v1 p1 p2 p3).run = some x) : Spec Tryz.prog 12 [V p1, V p2, V p3] [] (.tup [V x.1, V x.2]) [] :=
  Prg.ok Tryz.func12 (res := fun x => .tup [V x.1, V x.2]) (outs := fun x => []) (by kernel_rfl) (by kernel_rfl) rfl h

noncomputable def f35v1.l1 (p1 : Graph) (p2 : Int) (v4 : Int) : Pg (Nx Int (Ex (Int) Unit Empty)) :=
brr (decide (v4 < (L p1.Vertices : Int))) (
getR p1.Vertices v4 fun a5 =>
brr (a5.ID == p2) (
doneA (v4)) (
cont (IntKind.i64.wrap (v4 + 1)))) (
doneB ())

noncomputable def f35v1 (p1 : Graph) (p2 : Int) : Pg Int :=
loop2 (0 : Int) (fun s6 => f35v1.l1 p1 p2 s6) (fun s6 => ([(1, V p2), (2, R 101), (5, V s6)], [(101, B p1)])) .inl (fun r7 =>
.ret r7) (.cut (.ext 0) fun _ => ([], [])) fun _ =>
.ret (((-1) : Int))

theorem f35v1.ok (p1 : Graph) (p2 : Int) {x} (h : (f35v1 p1 p2).run = some x) : Spec Tryz.prog 35 [V p1, V p2] [] (V x) [] :=
  Prg.ok Tryz.func35 (res := fun x => V x) (outs := fun x => []) (by kernel_rfl) (by kernel_rfl) rfl h

noncomputable def f36v1.l1 (p1 : Graph) (p2 : Int) (v15 : Int) (l16 : List Edge) : Pg (Nx (Int × (List Edge)) (Ex (List Edge) Empty Empty)) :=
brr (decide (v15 < (L p1.Edges : Int))) (
join1 (.reg 5) (
getR p1.Edges v15 fun a18 =>
brr (a18.From == p2) (
retA' true) (
getR p1.Edges v15 fun a19 =>
retA' (a19.To == p2))) (.cut .nat fun x20 => ([(1, V p2), (2, R 101), (5, H Edge 103), (6, V v15), (31, V x20)], [(101, B p1), (103, O l16)])) fun x20 =>
brr x20 (
getR p1.Edges v15 fun a21 =>
ap l16 ([a21] : List Edge) fun l22 =>
cont ((IntKind.i64.wrap (v15 + 1)), l22)) (
cont ((IntKind.i64.wrap (v15 + 1)), l16))) (
doneA l16)

noncomputable def f36v1 (p1 : Graph) (p2 : Int) : Pg (List Edge) :=
loop1 ((0 : Int), ([] : List Edge)) (fun s23 => f36v1.l1 p1 p2 s23.1 s23.2) (fun s23 => ([(1, V p2), (2, R 101), (5, H Edge 501), (6, V s23.1)], [(101, B p1), (501, O s23.2)])) (.cut (.ext 0) fun x24 => ([(5, H Edge 101)], [(101, O x24)])) fun x24 =>
.ret (x24)

theorem f36v1.ok (p1 : Graph) (p2 : Int) {x} (h : (f36v1 p1 p2).run = some x) : Spec Tryz.prog 36 [V p1, V p2] [] (V x) [] :=
  Prg.ok Tryz.func36 (res := fun x => V x) (outs := fun x => []) (by kernel_rfl) (by kernel_rfl) rfl h

noncomputable def f37v1 (p1 : Edge) (p2 : Int) : Pg Int :=
brr (p1.From == p2) (
.ret (p1.To)) (
brr (p1.To == p2) (
.ret (p1.From)) (
.ret (((-1) : Int))))

theorem f37v1.ok (p1 : Edge) (p2 : Int) {x} (h : (f37v1 p1 p2).run = some x) : Spec Tryz.prog 37 [V p1, V p2] [] (V x) [] :=
  Prg.ok Tryz.func37 (res := fun x => V x) (outs := fun x => []) (by kernel_rfl) (by kernel_rfl) rfl h

noncomputable def f14v1.l1 (p2 : List Named) (p3 : Int) (y6 : List Edge) (v39 : Int) (v45 : Bool) (v46 : Int) : Pg (Nx (Bool × Int) (Ex Bool Empty Empty)) :=
brr (decide (v46 < (L y6 : Int))) (
brr v45 (
cont (true, (IntKind.i64.wrap (v46 + 1)))) (
getR y6 v46 fun a47 =>
cl (f37v1.ok a47 p3) fun y48 =>
getR p2 v39 fun a49 =>
cont ((y48 == a49.ID), (IntKind.i64.wrap (v46 + 1))))) (
doneA v45)

noncomputable def f14v1.l2 (p2 : List Named) (p3 : Int) (l5 : List Int) (y6 : List Edge) (x8 : Int × Int) (v39 : Int) (l40 : List Named) : Pg (Nx (Int × (List Named)) (Ex (List Named) Empty Empty)) :=
brr (decide (v39 < (L p2 : Int))) (
getR p2 v39 fun a41 =>
loop1 ((a41.ID == p3), (0 : Int)) (fun s50 => f14v1.l1 p2 p3 y6 v39 s50.1 s50.2) (fun s50 => ([(1, V p2), (2, V p3), (6, R 101), (8, R 103), (9, V v39), (10, V s50.1), (11, V s50.2)], [(101, .varp [.int .i64 0, .int .i64 0, .nilsl, .nilsl, .nilsl]), (103, .var [V x8.1, V x8.2, H Int 105, V y6, H Named 107]), (105, O l5), (107, O l40)])) (.cut (.ext 2) fun x51 => ([(1, V p2), (2, V p3), (6, R 101), (8, R 103), (9, V v39), (10, V x51)], [(101, .varp [.int .i64 0, .int .i64 0, .nilsl, .nilsl, .nilsl]), (103, .var [V x8.1, V x8.2, H Int 105, V y6, H Named 107]), (105, O l5), (107, O l40)])) fun x51 =>
brr x51 (
getR p2 v39 fun a52 =>
getR p2 v39 fun a53 =>
ap ([] : List Int) a53.Label fun l54 =>
ap l40 ([(Named.mk a52.ID l54)] : List Named) fun l55 =>
cont ((IntKind.i64.wrap (v39 + 1)), l55)) (
cont ((IntKind.i64.wrap (v39 + 1)), l40))) (
doneA l40)

noncomputable def f14v1 (p1 : Graph) (p2 : List Named) (p3 : Int) : Pg View :=
cl (f35v1.ok p1 p3) fun y4 =>
ap ([] : List Int) p1.Depots fun l5 =>
cl (f36v1.ok p1 p3) fun y6 =>
join1 (.cond 24) (
brr (decide (y4 ≥ 0)) (
getR p1.Vertices y4 fun a7 =>
retA' (a7.ID, a7.Side)) (
retA' ((0 : Int), (0 : Int)))) (.cut .nat fun x8 => ([(1, V p2), (2, V p3), (6, R 101), (8, R 103)], [(101, .varp [.int .i64 0, .int .i64 0, .nilsl, .nilsl, .nilsl]), (103, .var [V x8.1, V x8.2, H Int 105, V y6, .pv .nilsl]), (105, O l5)])) fun x8 =>
loop1 ((0 : Int), ([] : List Named)) (fun s56 => f14v1.l2 p2 p3 l5 y6 x8 s56.1 s56.2) (fun s56 => ([(1, V p2), (2, V p3), (6, R 101), (8, R 103), (9, V s56.1)], [(101, .varp [.int .i64 0, .int .i64 0, .nilsl, .nilsl, .nilsl]), (103, .var [V x8.1, V x8.2, H Int 105, V y6, H Named 501]), (105, O l5), (501, O s56.2)])) (.cut (.ext 0) fun x57 => ([(6, R 101), (8, R 103)], [(101, .varp [.int .i64 0, .int .i64 0, .nilsl, .nilsl, .nilsl]), (103, .var [V x8.1, V x8.2, H Int 105, V y6, H Named 107]), (105, O l5), (107, O x57)])) fun x57 =>
.ret ((View.mk (Vertex.mk x8.1 x8.2) l5 y6 x57))

theorem f14v1.ok (p1 : Graph) (p2 : List Named) (p3 : Int) {x} (h : (f14v1 p1 p2 p3).run = some x) : Spec Tryz.prog 14 [V p1, V p2, V p3] [] (V x) [] :=
  Prg.ok Tryz.func14 (res := fun x => V x) (outs := fun x => []) (by kernel_rfl) (by kernel_rfl) rfl h

noncomputable def f3.l3 (y7 : Graph) (y8 : (List Named) × Int) (y55 : Graph × Int) (y56 : (List Named) × Int) (v63 v64 v65 : Int) : Pg (Nx (Int × Int × Int) (Ex (Int × Int) Empty Empty)) :=
brr (decide (v65 < (L y8.1 : Int))) (
getR y7.Vertices v65 fun a66 =>
cl (f14v1.ok y7 y8.1 a66.ID) fun y67 =>
cl (f13.ok y67) fun y68 =>
getR y7.Vertices v65 fun a69 =>
cl (f14v1.ok y55.1 y56.1 a69.ID) fun y70 =>
cl (f13.ok y70) fun y71 =>
cont ((IntKind.i64.wrap (v63 + y68)), (IntKind.i64.wrap (v64 + y71)), (IntKind.i64.wrap (v65 + 1)))) (
doneA (v63, v64))

noncomputable def f3.l2 (p4 p5 : Int) (v25 : Int) (l26 : List Edge) : Pg (Nx (Int × (List Edge)) (Ex (List Edge) Empty Empty)) :=
brr (decide (v25 < (L l26 : Int))) (
ck v25 (L l26) <|
rd l26 (at0 v25) fun a27 =>
cl (f8.ok (IntKind.i64.wrap (p4 + v25)) (50 : Int)) fun y28 =>
cl (f8.ok (IntKind.i64.wrap (p5 + v25)) (50 : Int)) fun y29 =>
ck v25 (L l26) <|
st l26 (at0 v25) (fun x30 => (Edge.mk a27.ID a27.To a27.From (!a27.Directed) y28 y29)) fun l31 =>
cont ((IntKind.i64.wrap (v25 + 1)), l31)) (
doneA l26)

noncomputable def f3.l1 (p4 : Int) (v13 : Int) (l14 : List Vertex) : Pg (Nx (Int × (List Vertex)) (Ex (List Vertex) Empty Empty)) :=
brr (decide (v13 < (L l14 : Int))) (
cl (f8.ok (IntKind.i64.wrap (p4 + v13)) (4 : Int)) fun y15 =>
ck v13 (L l14) <|
st l14 (at0 v13) (fun x16 => (Vertex.mk x16.ID y15)) fun l17 =>
cont ((IntKind.i64.wrap (v13 + 1)), l17)) (
doneA l14)

noncomputable def f3 (p1 : Int) (p2 : List A5_Int) (p3 : Bool) (p4 p5 : Int) : Pg Bool :=
cl (f4.ok) fun y6 =>
brr (!y6) (
.ret (false)) (
cl (f5.ok p1 p2 p3) fun y7 =>
cl (f6v2.ok y7) fun y8 =>
cl (f7v2.ok y7) fun y9 =>
loop1 ((0 : Int), y9.2.1) (fun s18 => f3.l1 p4 s18.1 s18.2) (fun s18 => ([(3, V p4), (4, V p5), (11, R 101), (12, V y8.1), (13, V y8.2), (14, R 103), (15, V s18.1)], [(101, B y7), (103, .var [H Vertex 105, H Edge 107, .pv .nilsl]), (105, O s18.2), (107, O y9.2.2)])) (.cut (.ext 0) fun x19 => ([(3, V p4), (4, V p5), (11, R 101), (12, V y8.1), (13, V y8.2), (14, R 103)], [(101, B y7), (103, .var [H Vertex 105, H Edge 107, .pv .nilsl]), (105, O x19), (107, O y9.2.2)])) fun x19 =>
loop1 ((0 : Int), y9.2.2) (fun s32 => f3.l2 p4 p5 s32.1 s32.2) (fun s32 => ([(3, V p4), (4, V p5), (11, R 101), (12, V y8.1), (13, V y8.2), (14, R 103), (16, V s32.1)], [(101, B y7), (103, .var [H Vertex 105, H Edge 107, .pv .nilsl]), (105, O x19), (107, O s32.2)])) (.cut (.ext 2) fun x33 => ([(3, V p4), (4, V p5), (11, R 101), (12, V y8.1), (13, V y8.2), (14, R 103)], [(101, B y7), (103, .var [H Vertex 105, H Edge 107, .pv .nilsl]), (105, O x19), (107, O x33)])) fun x33 =>
cl (f6.ok x19 x33) fun y34 =>
join1 (.reg 17) (
brr ((y8.2 != 0) || (y34.2 != 0)) (
retA' true) (
cl (f9.ok y8.1 y34.1) fun y35 =>
retA' (!y35))) (.cut .nat fun x36 => ([(3, V p4), (4, V p5), (11, R 101), (12, V y8.1), (121, V x36)], [(101, B y7)])) fun x36 =>
brr x36 (
.ret (false)) (
cl (f10.ok y7 (39 : Int)) fun y37 =>
brr (decide (y37 ≥ 0)) (
.ret (true)) (
cl (f8.ok p4 (L y7.Vertices : Int)) fun y38 =>
getR y7.Vertices y38 fun a39 =>
cl (f8.ok p5 (L y7.Vertices : Int)) fun y40 =>
getR y7.Vertices y40 fun a41 =>
cl (f11.ok y7 (3 : Int) (0 : Int) (0 : Int) (39 : Int) a39.ID a39.ID false (0 : Int) (0 : Int) (0 : Int) (0 : Int)) fun y42 =>
cl (f6v2.ok y42.1) fun y43 =>
join1 (.reg 26) (
brr ((y42.2 != 0) || (y43.2 != 0)) (
retA' true) (
cl (f9.ok y8.1 y43.1) fun y44 =>
retA' (!y44))) (.cut .nat fun x45 => ([(3, V p4), (11, R 101), (12, V y8.1), (20, V (39 : Int)), (21, V a39.ID), (22, V a41.ID), (172, V x45)], [(101, B y7)])) fun x45 =>
brr x45 (
.ret (false)) (
join2 (.cond 176) (
brr (decide ((L y7.Edges : Int) > 0)) (
cl (f8.ok p4 (L y7.Edges : Int)) fun y46 =>
getR y7.Edges y46 fun a47 =>
cl (f11.ok y7 (3 : Int) (0 : Int) (0 : Int) (39 : Int) a47.To a47.From false (0 : Int) (0 : Int) (0 : Int) (0 : Int)) fun y48 =>
cl (f6v2.ok y48.1) fun y49 =>
join1 (.reg 32) (
brr ((y48.2 != 0) || (y49.2 != 0)) (
retA' true) (
cl (f9.ok y8.1 y49.1) fun y50 =>
retA' (!y50))) (.cut .nat fun x51 => ([(11, R 101), (12, V y8.1), (20, V (39 : Int)), (21, V a39.ID), (22, V a41.ID), (214, V x51)], [(101, B y7)])) fun x51 =>
brr x51 (
retA' (false)) (
retB' ())) (
retB' ())) .inl (fun r52 =>
.ret r52) (.cut .nat fun _ => ([(11, R 101), (12, V y8.1), (20, V (39 : Int)), (21, V a39.ID), (22, V a41.ID)], [(101, B y7)])) fun _ =>
cl (f12v1.ok y7 a39.ID a41.ID) fun y54 =>
cl (f11.ok y7 (3 : Int) (0 : Int) (0 : Int) (39 : Int) a39.ID a41.ID false (0 : Int) (0 : Int) (0 : Int) (0 : Int)) fun y55 =>
cl (f6v2.ok y55.1) fun y56 =>
brr ((((y54.2 != 0) || (y55.2 != 0)) || (y56.2 != 0)) || ((L y56.1 : Int) != (L y8.1 : Int))) (
.ret (false)) (
loop1 ((0 : Int), (0 : Int), (0 : Int)) (fun s72 => f3.l3 y7 y8 y55 y56 s72.1 s72.2.1 s72.2.2) (fun s72 => ([(11, R 101), (12, V y8.1), (32, V y54.1), (34, R 103), (36, V y56.1), (38, V s72.1), (39, V s72.2.1), (40, V s72.2.2)], [(101, B y7), (103, B y55.1)])) (.cut (.ext 4) fun x73 => ([(32, V y54.1), (38, V x73.1), (39, V x73.2)], [])) fun x73 =>
.ret (((y54.1 && (x73.2 == x73.1)) || ((!y54.1) && (x73.2 == (IntKind.i64.wrap (x73.1 - 1)))))))))))

theorem f3.ok (p1 : Int) (p2 : List A5_Int) (p3 : Bool) (p4 p5 : Int) {x} (h : (f3 p1 p2 p3 p4 p5).run = some x) : Spec Tryz.prog 3 [V p1, V p2, V p3, V p4, V p5] [] (V x) [] :=
  Prg.ok Tryz.func3 (res := fun x => V x) (outs := fun x => []) (by kernel_rfl) (by kernel_rfl) rfl h

end Go.Fx.Gen
