/- The abstract machine: what each operation does, and the run of code between cuts. Definitions only. -/
import Derived.Test.YtpdjphpjejjkpaaFxA
namespace Go.Fx
abbrev SpecT := Nat → List AV → List AObj → AV → List AObj → Prop
def andI (k : IntKind) (a b : Int) : Int := k.wrap ((BitVec.ofInt k.bits a &&& BitVec.ofInt k.bits b).toNat : Int)
def orI (k : IntKind) (a b : Int) : Int := k.wrap ((BitVec.ofInt k.bits a ||| BitVec.ofInt k.bits b).toNat : Int)
def xorI (k : IntKind) (a b : Int) : Int := k.wrap ((BitVec.ofInt k.bits a ^^^ BitVec.ofInt k.bits b).toNat : Int)
def bicI (k : IntKind) (a b : Int) : Int := k.wrap ((BitVec.ofInt k.bits a &&& ~~~BitVec.ofInt k.bits b).toNat : Int)
def litP (lit : Bool) (p : Prop) [Decidable p] : Obl := match lit with
 | true => .e (decide p) true
 | false => .p p
def takeP (P : Program) (t : TypeId) (cs : List PV) (off : Nat) : Option AV :=
 match isAggT P t with
 | some true => match Nat.ble (off + P.cellsOf t) cs.length with
  | true => some (.aggp (cut1 cs off (P.cellsOf t)))
  | false => none
 | some false => (cs[off]?).map .pv
 | none => none
def eqItA (P : Program) (f : AV → AV → Option Bool) (e : TypeId) (xs ys : List PV) : List Nat → Option Bool
 | [] => some true
 | i :: is => match takeP P e xs (i * P.cellsOf e), takeP P e ys (i * P.cellsOf e) with
  | some p, some q => match f p q, eqItA P f e xs ys is with
   | some a, some b => some (a && b)
   | _, _ => none
  | _, _ => none
def eqFlA (P : Program) (f : TypeId → AV → AV → Option Bool) (xs ys : List PV) : List Field → Option Bool
 | [] => some true
 | g :: is => match decide (g.name ≠ "_") with
  | true => match takeP P g.type xs g.offset, takeP P g.type ys g.offset with
   | some p, some q => match f g.type p q, eqFlA P f xs ys is with
    | some a, some b => some (a && b)
    | _, _ => none
   | _, _ => none
  | false => none
def eqA (P : Program) : Nat → TypeId → AV → AV → Option Bool
 | 0, _, _, _ => none
 | d + 1, t, x, y => match P.underlying t, x, y with
  | some .bool, .pv (.bool a), .pv (.bool b) => some (a == b)
  | some (.int _), .pv (.int k a), .pv (.int k' b) => match decide (k = k') with
   | true => some (a == b)
   | false => none
  | some (.array n e), .aggp xs, .aggp ys => match P.info? e with
   | some _ => eqItA P (eqA P d e) e xs ys (List.range n)
   | none => none
  | some (.struct fs), .aggp xs, .aggp ys => match P.stoodInHeld t with
   | false => eqFlA P (eqA P d) xs ys fs.toList
   | true => none
  | _, _, _ => none
def IntRows (k : IntKind) (rows : List (List PV)) : Prop := ∃ l : List Int, rows = l.map fun x => [PV.int k x]
def eqPs : List PV → List PV → Bool
 | .int _ a :: r, .int _ b :: s => (a == b) && eqPs r s
 | [], [] => true
 | _, _ => false
def binA (P : Program) (lit : Bool) (op : BinOp) (t : TypeId) (x y : AV) : Option (List Obl × AV) :=
 match x, y with
 | .pv (.int k a), .pv (.int k' b) =>
  match op with
  | .shl => some ([litP lit (0 ≤ b)], .pv (.int k (k.wrap (a * 2 ^ (min b.toNat k.bits)))))
  | .shr => some ([litP lit (0 ≤ b)], .pv (.int k (a.fdiv (2 ^ (min b.toNat k.bits)))))
  | op =>
   match decide (k = k') with
   | false => none
   | true =>
    match op with
    | .add => some ([], .pv (.int k (k.wrap (a + b))))
    | .sub => some ([], .pv (.int k (k.wrap (a - b))))
    | .mul => some ([], .pv (.int k (k.wrap (a * b))))
    | .quo => some ([litP lit (b ≠ 0)], .pv (.int k (k.wrap (a.tdiv b))))
    | .rem => some ([litP lit (b ≠ 0)], .pv (.int k (a.tmod b)))
    | .and => some ([], .pv (.int k (andI k a b)))
    | .or => some ([], .pv (.int k (orI k a b)))
    | .xor => some ([], .pv (.int k (xorI k a b)))
    | .andNot => some ([], .pv (.int k (bicI k a b)))
    | .eql => some ([], .pv (.bool (a == b)))
    | .neq => some ([], .pv (.bool (a != b)))
    | .lss => some ([], .pv (.bool (decide (a < b))))
    | .leq => some ([], .pv (.bool (decide (a ≤ b))))
    | .gtr => some ([], .pv (.bool (decide (a > b))))
    | .geq => some ([], .pv (.bool (decide (a ≥ b))))
    | _ => none
 | .pv (.bool a), .pv (.bool b) =>
  match P.underlying t with
  | some .bool =>
   match op with
   | .eql => some ([], .pv (.bool (a == b)))
   | .neq => some ([], .pv (.bool (!(a == b))))
   | _ => none
  | _ => none
 | .pv .nilsl, .pv .nilsl =>
  match P.underlying t with
  | some (.slice _) =>
   match op with
   | .eql => some ([], .pv (.bool true))
   | .neq => some ([], .pv (.bool false))
   | _ => none
  | _ => none
 | .pv (.sl rows), .pv .nilsl =>
  match P.underlying t with
  | some (.slice _) =>
   match op with
   | .eql => some ([.p (rows ≠ [])], .pv (.bool false))
   | .neq => some ([.p (rows ≠ [])], .pv (.bool true))
   | _ => none
  | _ => none
 | .aggp xs, .aggp ys =>
  match P.eqGuardType P.depth t, eqA P 4 t (.aggp xs) (.aggp ys) with
  | false, some r => match op with
   | .eql => some ([], .pv (.bool r))
   | .neq => some ([], .pv (.bool (!r)))
   | _ => none
  | _, _ => none
 | .ar n _ r1, .ar n' _ r2 =>
  match P.eqGuardType P.depth t, P.underlying t with
  | false, some (.array m e) => match P.underlying e, P.info? e, Nat.beq m n && Nat.beq m n' && Nat.beq (P.cellsOf e) 1 with
   | some (.int k), some _, true => match op with
    | .eql => some ([.p (IntRows k r1), .p (IntRows k r2)], .pv (.bool (eqPs r1.flatten r2.flatten)))
    | .neq => some ([.p (IntRows k r1), .p (IntRows k r2)], .pv (.bool (!(eqPs r1.flatten r2.flatten))))
    | _ => none
   | _, _, _ => none
  | _, _ => none
 | _, _ => none
def unA (op : UnOp) (x : AV) : Option AV :=
 match op, x with
 | .not, .pv (.bool b) => some (.pv (.bool (!b)))
 | .neg, .pv (.int k n) => some (.pv (.int k (k.wrap (0 - n))))
 | _, _ => none
def nz : PV → PV
 | .nilsl => .sl []
 | p => p
def fieldAtP (P : Program) (s : TypeId) (f : Nat) : Option (Nat × TypeId) :=
 match P.underlying s with
 | some (.struct fs) => match fs[f]? with
  | some fd => match Nat.beq (P.cellsOf fd.type) 0 with
   | true => none
   | false => some (fd.offset, fd.type)
  | none => none
 | _ => none
def AV.plain : AV → Bool
 | .undef => false
 | .tup _ => false
 | .gv _ _ _ _ => false
 | _ => true
def takeV (P : Program) (t : TypeId) (cs : List AV) (off : Nat) : Option AV :=
 match isAggT P t with
 | some true => match Nat.ble (off + P.cellsOf t) cs.length with
  | true => some (mkAgg (cut1 cs off (P.cellsOf t)))
  | false => none
 | some false => match cs[off]? with
  | some v => match v.plain with
   | true => match v with
    | .agg _ => none
    | .aggp _ => none
    | .ar _ _ _ => none
    | .sagg _ => none
    | v => some v
   | false => none
  | none => none
 | none => none
def zeroA (P : Program) (t : TypeId) : Option AV := ((P.info? t).bind (·.zero)).map avOf
def fillA (P : Program) (fs : Array Field) : List (Nat × AV) → List AV → Option (List AV)
 | [], cs => some cs
 | (i, v) :: r, cs => match fs[i]? with
  | some f => match v.plain, Nat.beq v.cellsA.length (P.cellsOf f.type), Nat.ble (f.offset + v.cellsA.length) cs.length with
   | true, true, true => fillA P fs r (splice cs f.offset v.cellsA)
   | _, _, _ => none
  | none => none
def arrFields (P : Program) (n : Nat) (e : TypeId) : Array Field := ((List.range n).map fun i => ({ (default : Field) with type := e, offset := i * P.cellsOf e } : Field)).toArray
def rowsFill : List (Nat × List PV) → List (List PV) → List (List PV)
 | [], rows => rows
 | (i, r) :: ps, rows => rowsFill ps (rows.set i r)
def ltAll (len : Nat) : List (Nat × List PV) → Bool
 | [] => true
 | (i, _) :: ps => match Nat.blt i len with
  | true => ltAll len ps
  | false => false
def lenObs (sz : Nat) : List (Nat × List PV) → List Obl
 | [] => []
 | (_, r) :: ps => .e r.length sz :: lenObs sz ps
def partsP (ps : List (Nat × AV)) : Option (List (Nat × List PV)) := match ps with
 | [] => some []
 | (i, v) :: r => match v.cellsP, partsP r with
  | some c, some cs => some ((i, c) :: cs)
  | _, _ => none
def elemOfP (P : Program) (t : TypeId) : Option TypeId := match P.underlying t with
 | some (.slice e) => some e
 | _ => none
def lenA (P : Program) (t : TypeId) (x : AV) : Option AV := match P.underlying t, x with
 | some (.slice _), .pv (.sl rows) => some (.pv (.int .i64 rows.length))
 | some (.slice _), .pv .nilsl => some (.pv (.int .i64 0))
 | some (.slice _), .hd _ _ len _ => some (.pv (.int .i64 len))
 | some (.slice _), .pv (.fh _ _ _ len _) => some (.pv (.int .i64 len))
 | some .string, .pv (.str s) => some (.pv (.int .i64 s.size))
 | some (.array n _), _ => some (.pv (.int .i64 n))
 | _, _ => none
def minA (isMax : Bool) (x y : AV) : Option AV := match x, y with
 | .pv (.int k a), .pv (.int _ b) => some (.pv (.int k (match isMax with
  | false => if b < a then b else a
  | true => if b > a then b else a)))
 | _, _ => none
def minsA (isMax : Bool) : AV → List AV → Option AV
 | x, [] => some x
 | x, y :: r => match minA isMax x y with
  | some z => minsA isMax z r
  | none => none
def bigLen : Nat := 1073741824
def newNames (L : Nat → Option AObj) : List Nat → Bool
 | [] => true
 | n :: ns => match L n, n % 2 with
  | none, 1 => newNames L ns
  | _, _ => false
def cvC (L : Nat → Option AObj) (x v : AV) : Option (List Obl) := match x, v with
 | .pv .nilsl, .pv (.sl []) => some []
 | .pv .nilmap, .pv (.mp _ [] []) => some []
 | .pv .nilsl, .hd n 0 0 _ => match L n with
  | some _ => some []
  | none => none
 | .pv .nilsl, .hw n _ => match L n with
  | some (.sl _ _ []) => some []
  | _ => none
 | x, v => some [.e x v]
def cvCs (L : Nat → Option AObj) : List AV → List AV → Option (List Obl)
 | [], [] => some []
 | x :: xs, v :: vs => match cvC L x v, cvCs L xs vs with
  | some p, some q => some (p ++ q)
  | _, _ => none
 | _, _ => none
def segL : List AV → List (List Nat)
 | [] => []
 | .ar _ _ rows :: r => rows.map List.length :: segL r
 | _ :: r => segL r
def segR : List AV → List (List Nat)
 | [] => []
 | .ar n sz _ :: r => List.replicate n sz :: segR r
 | _ :: r => segR r
def segN : List AV → Nat
 | [] => 0
 | .ar n sz _ :: r => n * sz + segN r
 | _ :: r => 1 + segN r
def segAt : List AV → Nat → Option (AV × Nat)
 | [], _ => none
 | .ar n sz rows :: r, off => match Nat.ble (n * sz) off with
  | false => some (.ar n sz rows, off)
  | true => segAt r (off - n * sz)
 | v :: r, off => match Nat.beq off 0 with
  | true => some (v, 0)
  | false => segAt r (off - 1)
def segPut : List AV → Nat → List (List PV) → List AV
 | [], _, _ => []
 | .ar n sz rows :: r, off, rs => match Nat.ble (n * sz) off with
  | false => .ar n sz rs :: r
  | true => .ar n sz rows :: segPut r (off - n * sz) rs
 | v :: r, off, rs => v :: segPut r (off - 1) rs
def isArV : AV → Bool
 | .ar _ _ _ => true
 | _ => false
def chunk : Nat → Nat → List PV → List (List PV)
 | 0, _, _ => []
 | n + 1, sz, l => l.take sz :: chunk n sz (l.drop sz)
def nzV : AV → AV
 | .pv p => .pv (nz p)
 | v => v
def nzS : List AV → List AV → List AV
 | .ar n sz _ :: r, l => (l.take (n * sz)).map nzV ++ nzS r (l.drop (n * sz))
 | _ :: r, x :: l => x :: nzS r l
 | _, l => l
def segSpl : List AV → Nat → List AV → Option (List AV)
 | cs, _, [] => some cs
 | [], _, _ :: _ => none
 | .ar n sz rows :: r, off, p :: ps => match Nat.beq off 0, Nat.ble (n * sz) off with
  | true, _ => match Nat.ble (n * sz) (p :: ps).length, toPVs ((p :: ps).take (n * sz)), Nat.beq n 0 with
   | true, some qs, false => (segSpl r 0 ((p :: ps).drop (n * sz))).map (.ar n sz (chunk n sz (qs.map nz)) :: ·)
   | _, _, _ => none
  | false, true => (segSpl r (off - n * sz) (p :: ps)).map (.ar n sz rows :: ·)
  | _, _ => none
 | v :: r, off, p :: ps => match Nat.beq off 0, isArV p with
  | true, false => (segSpl r 0 ps).map (p :: ·)
  | true, true => none
  | false, _ => (segSpl r (off - 1) (p :: ps)).map (v :: ·)
def cvA0 (L : Nat → Option AObj) (x v : AV) : Option (List Obl) := match x, v with
 | .agg cs, .agg ds => cvCs L cs ds
 | .aggp ps, .agg ds => cvCs L (ps.map .pv) ds
 | .aggp ps, .aggp qs => cvCs L (ps.map .pv) (qs.map .pv)
 | x, v => cvC L x v
def cvA (L : Nat → Option AObj) (x v : AV) : Option (List Obl) := match v with
 | .ar n sz rows => match x with
  | .aggp ps => some [.e (ps.map nz) rows.flatten, .e (rows.map List.length) (List.replicate n sz)]
  | x => some [.e x (.ar n sz rows)]
 | .sagg cs => match x with
  | .aggp ps => some [.e (nzS cs (ps.map .pv)) (flatC cs), .e (segL cs) (segR cs)]
  | .agg ds => some [.e (nzS cs ds) (flatC cs), .e (segL cs) (segR cs)]
  | x => some [.e x (.sagg cs)]
 | v => cvA0 L x v
def cvL (L : Nat → Option AObj) : List AV → List AV → Option (List Obl)
 | [], [] => some []
 | x :: xs, v :: vs => match cvA L x v, cvL L xs vs with
  | some p, some q => some (p ++ q)
  | _, _ => none
 | _, _ => none
def cvO (L : Nat → Option AObj) (o o' : AObj) : Option (List Obl) := match o, o' with
 | .var cs, .var ds => cvCs L cs ds
 | .varp ps, .var ds => cvCs L (ps.map .pv) ds
 | .varp ps, .varp qs => cvCs L (ps.map .pv) (qs.map .pv)
 | .var cs, .varp qs => cvCs L cs (qs.map .pv)
 | .mp fz g _ ks rows, .mp fz' g' false ks' rows' => some [.e (AObj.mp fz g false ks rows) (.mp fz' g' false ks' rows')]
 | o, o' => some [.e o o']
def cvOs (L : Nat → Option AObj) : List AObj → List AObj → Option (List Obl)
 | [], [] => some []
 | x :: xs, v :: vs => match cvO L x v, cvOs L xs vs with
  | some p, some q => some (p ++ q)
  | _, _ => none
 | _, _ => none
def noO : Nat → Option AObj := fun _ => none
def wrO : List (Nat × AObj) → List (Nat × AObj) → List (Nat × AObj)
 | o, [] => o
 | o, (n, x) :: r => wrO (up o n x) r
def dropN (keep : List Nat) : List (Nat × AObj) → List (Nat × AObj)
 | [] => []
 | (n, o) :: r => match allNat n keep with
  | true => (n, o) :: dropN keep r
  | false => dropN keep r
def keepOb (L : Nat → Option AObj) (wr : List (Nat × AObj)) : List Nat → Option (List Obl)
 | [] => some []
 | n :: r => match L n, lk (wrO [] wr) n, keepOb L wr r with
  | some o0, some o, some q => some (.e o0 o :: q)
  | _, _, _ => none
def keepA (L : Nat → Option AObj) (keep : List Nat) (out : Out) : Option Out := match keep with
 | [] => some out
 | keep => match keepOb L out.wr keep with
  | some q => some ⟨out.ob ++ q, out.v, dropN keep out.wr⟩
  | none => none
def callA0 (SP : SpecT) (L : Nat → Option AObj) (g : Nat) (args : List AV) (an : Ann) : Option Out :=
 match an with
 | .call frz imps xs es r outs news _ =>
  match frzArgs L frz args, frzObjs L frz with
  | some (p, args'), some wf =>
   match renL (toIm imps) args', objsAt L imps, nodupN (frz ++ (imps ++ news)) && newNames L news, Nat.beq outs.length (imps.length + news.length) with
   | some cargs, some os, true, true =>
    match renObjs (toIm imps) os, r.ren (ofIm (imps ++ news)), renObjs (ofIm (imps ++ news)) outs with
    | some ext, some r', some outs' =>
     match cvL noO cargs xs, cvOs noO ext es with
     | some q1, some q2 => some ⟨p ++ (q1 ++ (q2 ++ [.p (SP g xs es r outs)])), r', wf ++ zipNm (imps ++ news) outs'⟩
     | _, _ => none
    | _, _, _ => none
   | _, _, _, _ => none
  | _, _ => none
 | _ => none
def callA (SP : SpecT) (L : Nat → Option AObj) (g : Nat) (args : List AV) (an : Ann) : Option Out :=
 match an with
 | .call _ _ _ _ _ _ _ keep => match callA0 SP L g args an with
  | some out => keepA L keep out
  | none => none
 | _ => none
def builtinV (P : Program) (b : Builtin) (args : List AV) (ts : List TypeId) : Option (List Obl × AV) :=
 match b with
 | .len => match args, ts with
  | [x], [t] => (lenA P t x).map fun v => ([], v)
  | _, _ => none
 | .min => match args with
  | x :: r => (minsA false x r).map fun v => ([], v)
  | [] => none
 | .max => match args with
  | x :: r => (minsA true x r).map fun v => ([], v)
  | [] => none
 | _ => none
def isConst : Operand → Bool
 | .const _ => true
 | _ => false
def effV (P : Program) (op : Op) (ρ : Operand → AV) : Option (List Obl × AV) :=
 match op with
 | .move x => some ([], ρ x)
 | .assign x => some ([], ρ x)
 | .pick c x y => match ρ c with
  | .pv (.bool true) => some ([], ρ x)
  | .pv (.bool false) => some ([], ρ y)
  | _ => none
 | .build t parts => match P.underlying t with
  | some (.struct fs) => match zeroA P t with
   | some z => match z.plain, fillA P fs (parts.toList.map fun (i, x) => (i, ρ x)) z.cellsA, fs.toList.mapM (fun f => (P.info? f.type).map fun i => (f.offset, i.size)) with
    | true, some cs, some _ => some ([], mkAgg cs)
    | _, _, _ => none
   | none => none
  | some (.array n e) => match zeroA P t, P.info? e with
   | some z, some _ => match z.plain, fillA P (arrFields P n e) (parts.toList.map fun (i, x) => (i, ρ x)) z.cellsA with
    | true, some cs => some ([], mkAgg cs)
    | _, _ => none
   | _, _ => none
  | _ => none
 | .binOp op t x y _ => binA P (isConst y) op t (ρ x) (ρ y)
 | .unOp op _ x => (unA op (ρ x)).map fun v => ([], v)
 | .convert src dst x => match P.underlying src, P.underlying dst, ρ x with
  | some (.int _), some (.int k), .pv (.int _ n) => some ([], .pv (.int k (k.wrap n)))
  | _, _, _ => none
 | .makeFunc fn first captured => match fn, first.toList with
  | .func f, [] => some ([], .clo f (captured.toList.map ρ))
  | .func f, [x] => match captured.toList with
   | [] => some ([], .bnd f (ρ x))
   | _ => none
  | _, _ => none
 | .nilCheck x => match ρ x with
  | .ref n a b c => some ([], .ref n a b c)
  | _ => none
 | .fieldAddr s x f => match fieldAtP P s f with
  | some (o, _) => match ρ x with
   | .ref n ri sz off => some ([], .ref n ri sz (off + o))
   | .fref cs => some ([], .fref (cs.drop o))
   | .fr f i ri sz off => some ([], .fr f i ri sz (off + o))
   | _ => none
  | none => none
 | .field s x f => match fieldAtP P s f with
  | some (o, t) => match ρ x with
   | .agg cs => (takeV P t cs o).map fun v => ([], v)
   | .aggp cs => (takeP P t cs o).map fun v => ([], v)
   | _ => none
  | none => none
 | .extract x i => match ρ x with
  | .tup vs => (vs[i]?).map fun v => ([], v)
  | _ => none
 | .call c => match c.callee with
  | .builtin b => builtinV P b (c.args.toList.map ρ) c.argTypes.toList
  | _ => none
 | _ => none
def slBounds (lo hi : Option AV) (len : Nat) : Option (List Obl × Nat × Nat) :=
 match lo, hi with
 | none, none => some ([], 0, len)
 | some (.pv (.int _ l)), none => some ([.p (0 ≤ l), .p (l ≤ len)], l.toNat, len)
 | none, some (.pv (.int _ h)) => some ([.p (0 ≤ h), .p (h ≤ len)], 0, h.toNat)
 | some (.pv (.int _ l)), some (.pv (.int _ h)) => some ([.p (0 ≤ l), .p (l ≤ h), .p (h ≤ len)], l.toNat, h.toNat)
 | _, _ => none
def srcA (L : Nat → Option AObj) (whole : Bool) (x : AV) : Option (List Obl × Nat × List (List PV)) :=
 match x with
 | .pv (.sl rows) => some ([], 0, rows)
 | .pv .nilsl => some ([], 0, [])
 | .hd n off len sz => match L n with
  | some (.sl _ sz' rows) => match Nat.beq sz sz' with
   | true => match whole with
    | true => some ([.e off 0, .e len rows.length], sz, rows)
    | false => some ([.p (off + len ≤ rows.length)], sz, cut1 rows off len)
   | false => none
  | _ => none
 | _ => none
def headA (whole : Bool) (off len : Nat) (rows : List (List PV)) : List Obl × List (List PV) := match whole with
 | true => ([.e off 0, .e len rows.length], rows)
 | false => ([.p (off + len = rows.length)], rows.drop off)
def appendA (P : Program) (L : Nat → Option AObj) (whole : Bool) (s x : AV) (t tx : TypeId) (m : Nat) (rs : List (List PV)) : Option Out :=
 match elemOfP P t, elemOfP P tx, L m, m % 2 with
 | some e, some _, none, 1 => match s, srcA L whole x with
  | .hd n off len sz, some (p, sz2, rows2) => match L n, Nat.beq sz (P.cellsOf e), Nat.ble (P.bytesOf e) 65536, zeroA P e with
   | some (.sl false sz' rows), true, true, some z => match Nat.beq sz sz', Nat.beq sz2 0 || Nat.beq sz2 sz, z.plain && Nat.beq z.cellsA.length sz with
    | true, true, true => some ⟨p ++ ((headA whole off len rows).1 ++ [.p ((headA whole off len rows).2 ++ rows2 = rs), .p (rs.length ≤ bigLen), .p (∀ r ∈ rows2, r.length = sz)]), .hw m sz, [(n, .dead), (m, .sl false sz rs)]⟩
    | _, _, _ => none
   | _, _, _, _ => none
  | .pv .nilsl, some (p, sz2, rows2) => match Nat.beq (P.cellsOf e) 0, Nat.ble (P.bytesOf e) 65536, zeroA P e with
   | false, true, some z => match Nat.beq sz2 0 || Nat.beq sz2 (P.cellsOf e), z.plain && Nat.beq z.cellsA.length (P.cellsOf e) with
    | true, true => some ⟨p ++ [.p (rows2 = rs), .p (rs.length ≤ bigLen), .p (∀ r ∈ rows2, r.length = P.cellsOf e)], .hw m (P.cellsOf e), [(m, .sl false (P.cellsOf e) rs)]⟩
    | _, _ => none
   | _, _, _ => none
  | _, _ => none
 | _, _, _, _ => none
def appendC (P : Program) (L : Nat → Option AObj) (rows : List (List PV)) (x : AV) (t tx : TypeId) (an : Ann) : Option Out :=
 match elemOfP P t, elemOfP P tx, srcA L true x with
 | some e, some _, some (p, sz2, rows2) => match Nat.beq (P.cellsOf e) 0, Nat.ble (P.bytesOf e) 65536, zeroA P e with
  | false, true, some z => match Nat.beq sz2 0 || Nat.beq sz2 (P.cellsOf e), z.plain && Nat.beq z.cellsA.length (P.cellsOf e) with
   | true, true => match an with
    | .sls rs => some ⟨p ++ [.p (rows ++ rows2 = rs), .p (rs.length ≤ bigLen), .p (∀ r ∈ rs, r.length = P.cellsOf e)], .pv (.sl rs), []⟩
    | .app m rs => match L m, m % 2 with
     | none, 1 => some ⟨p ++ [.p (rows = [] ∨ rows2 ≠ []), .p (rows ++ rows2 = rs), .p (rs.length ≤ bigLen), .p (∀ r ∈ rs, r.length = P.cellsOf e)], .hw m (P.cellsOf e), [(m, .sl false (P.cellsOf e) rs)]⟩
     | _, _ => none
    | _ => none
   | _, _ => none
  | _, _, _ => none
 | _, _, _ => none
def appendZ (P : Program) (L : Nat → Option AObj) (y : AV) (t tx : TypeId) (m : Nat) (rs : List (List PV)) : Option Out :=
 match L m, m % 2, elemOfP P t, P.underlying tx with
 | none, 1, some e, some (.int _) => match y, zeroA P e with
  | .pv (.int .i64 l), some z => match z.cellsP, Nat.beq (P.cellsOf e) 0, Nat.ble (P.bytesOf e) 65536 with
   | some zc, false, true => some ⟨[.e zc.length (P.cellsOf e), .p (0 ≤ l), .p (l ≤ (bigLen : Int)), .p (List.replicate l.toNat (zc.map nz) = rs)], .hw m (P.cellsOf e), [(m, .sl false (P.cellsOf e) rs)]⟩
   | _, _, _ => none
  | _, _ => none
 | _, _, _, _ => none
def msA (P : Program) (L : Nat → Option AObj) (t : TypeId) (x y : AV) (an : Ann) : Option Out :=
 match an with
 | .app n rs => match L n, n % 2, elemOfP P t with
  | none, 1, some e => match x, y, zeroA P e with
   | .pv (.int _ l), .pv (.int _ c), some z => match z.cellsP, Nat.beq (P.cellsOf e) 0, Nat.ble (P.bytesOf e) 65536 with
    | some zc, false, true => some ⟨[.e zc.length (P.cellsOf e), .p (0 ≤ l), .p (l ≤ c), .p (c ≤ (bigLen : Int)), .p (List.replicate l.toNat (zc.map nz) = rs)], .hw n (P.cellsOf e), [(n, .sl false (P.cellsOf e) rs)]⟩
    | _, _, _ => none
   | _, _, _ => none
  | _, _, _ => none
 | _ => none
def assignA (L : Nat → Option AObj) (x : Operand) (an : Ann) : Option Out :=
 match an with
 | .mk n sz => match x, L n, Nat.beq sz 0, n % 2 with
  | .const (.slice none 0 0), none, false, 1 => some ⟨[], .hw n sz, [(n, .sl false sz [])]⟩
  | _, _, _, _ => none
 | .row _ => match x with
  | .const (.slice none 0 0) => some ⟨[], .pv .nilsl, []⟩
  | _ => none
 | _ => none
def allocA (P : Program) (L : Nat → Option AObj) (t : TypeId) (an : Ann) : Option Out :=
 match an with
 | .nm n => match zeroA P t, L n, n % 2 with
  | some z, none, 1 => match z.plain with
   | true => some ⟨[], .ref n 0 0 0, [(n, mkVar z)]⟩
   | false => none
  | _, _, _ => none
 | .nmv n v => match zeroA P t, L n, n % 2 with
  | some z, none, 1 => match v.plain, cvA L z v with
   | true, some q => some ⟨q, .ref n 0 0 0, [(n, mkVar v)]⟩
   | _, _ => none
  | _, _, _ => none
 | _ => none
def cvRaw (x : AV) (cs : List AV) : Option (List Obl) := match x with
 | .aggp ps => some [.e (ps.map AV.pv) (flatC cs), .e (segL cs) (segR cs)]
 | .agg ds => some [.e ds (flatC cs), .e (segL cs) (segR cs)]
 | _ => none
def boxA (L : Nat → Option AObj) (x : AV) (an : Ann) : Option Out :=
 match an with
 | .nmr n cs => match L n, n % 2, x.plain with
  | none, 1, true => match cvRaw x cs with
   | some q => some ⟨q, .ref n 0 0 0, [(n, .svar cs)]⟩
   | none => none
  | _, _, _ => none
 | .nmv n v => match L n, n % 2, x.plain && v.plain with
  | none, 1, true => match cvA L x v with
   | some q => some ⟨q, .ref n 0 0 0, [(n, mkVar v)]⟩
   | none => none
  | _, _, _ => none
 | .nm n => match L n, n % 2, x.plain with
  | none, 1, true => some ⟨[], .ref n 0 0 0, [(n, mkVar x)]⟩
  | _, _, _ => none
 | _ => none
def nzRows (keep : Bool) (rows : List (List PV)) : List (List PV) := match keep with
 | true => rows
 | false => rows.map (List.map nz)
def bsB (P : Program) (L : Nat → Option AObj) (t : TypeId) (len : Nat) (parts : List (Nat × AV)) (n : Nat) (keep : Bool) : Option Out :=
 match L n, n % 2, elemOfP P t with
  | none, 1, some e => match zeroA P e, partsP parts with
   | some z, some ps => match z.cellsP, ltAll len ps with
    | some zc, true => match Nat.beq (P.cellsOf e) 0, Nat.ble (len * P.cellsOf e) 16777216 with
     | false, true => some ⟨.e zc.length (P.cellsOf e) :: lenObs (P.cellsOf e) ps, .hw n (P.cellsOf e), [(n, .sl false (P.cellsOf e) (nzRows keep (rowsFill ps (List.replicate len zc))))]⟩
     | _, _ => none
    | _, _ => none
   | _, _ => none
  | _, _, _ => none
def bsA (P : Program) (L : Nat → Option AObj) (t : TypeId) (len : Nat) (parts : List (Nat × AV)) (an : Ann) : Option Out :=
 match an with
 | .nm n => bsB P L t len parts n false
 | .nmr n _ => bsB P L t len parts n true
 | _ => none
def segTake (P : Program) (t : TypeId) (cs : List AV) (off : Nat) : Option AV := match isAggT P t, segAt cs off with
 | some true, some (.ar n sz rows, rem) => match Nat.beq rem 0, Nat.beq (P.cellsOf t) (n * sz) with
  | true, true => some (.ar n sz rows)
  | _, _ => match Nat.beq off 0, Nat.beq (P.cellsOf t) (segN cs) with
   | true, true => some (.sagg cs)
   | _, _ => none
 | some true, some _ => match Nat.beq off 0, Nat.beq (P.cellsOf t) (segN cs) with
  | true, true => some (.sagg cs)
  | _, _ => none
 | some false, some (v, 0) => match v.plain with
  | true => match v with
   | .agg _ => none
   | .aggp _ => none
   | .ar _ _ _ => none
   | .sagg _ => none
   | v => some v
  | false => none
 | _, _ => none
def segStore (P : Program) (t : TypeId) (cs : List AV) (off : Nat) (x : AV) : Option (List AV) := match x with
 | .ar n sz rows => match segAt cs off with
  | some (.ar n' sz' _, rem) => match Nat.beq n n', Nat.beq sz sz', Nat.beq rem 0, Nat.beq (P.cellsOf t) (n * sz) with
   | true, true, true, true => some (segPut cs off rows)
   | _, _, _, _ => none
  | _ => none
 | .sagg ds => match Nat.beq off 0, Nat.beq (segN ds) (P.cellsOf t), Nat.beq (segN cs) (P.cellsOf t) with
  | true, true, true => some ds
  | _, _, _ => none
 | x => match Nat.beq x.cellsA.length (P.cellsOf t) with
  | true => match x.cellsA with
   | [] => none
   | ps => segSpl cs off ps
  | false => none
def loadA (P : Program) (L : Nat → Option AObj) (t : TypeId) (p : AV) (an : Ann) : Option Out :=
 match p with
 | .fr f i ri sz off => match an with
  | .frow n rows r => match L n with
   | some (.fam _ f' sz' mem) => match Nat.beq sz sz', takeP P t r off with
    | true, some v => some ⟨[.e f f', .p (mem[i]? = some rows), .p (rows[ri]? = some r)], v, []⟩
    | _, _ => none
   | _ => none
  | _ => none
 | .fref cs => match an with
  | .val v => some ⟨[.p (takeP P t cs 0 = some v)], v, []⟩
  | .no => (takeP P t cs 0).map fun v => ⟨[], v, []⟩
  | _ => none
 | .ref n ri sz off => match L n with
  | some (.var cs) => match ri, an with
   | 0, .val v => some ⟨[.p (takeV P t cs off = some v)], v, []⟩
   | 0, .no => (takeV P t cs off).map fun v => ⟨[], v, []⟩
   | _, _ => none
  | some (.varp cs) => match ri, an with
   | 0, .val v => some ⟨[.p (takeP P t cs off = some v)], v, []⟩
   | 0, .no => (takeP P t cs off).map fun v => ⟨[], v, []⟩
   | _, _ => none
  | some (.varf cs) => match ri, an with
   | 0, .no => (takeP P t cs off).map fun v => ⟨[], v, []⟩
   | _, _ => none
  | some (.sl _ sz' rows) => match an, Nat.beq sz sz' with
   | .row r, true => (takeP P t r off).map fun v => ⟨[.p (rows[ri]? = some r)], v, []⟩
   | _, _ => none
  | some (.svar cs) => match an, Nat.beq sz 0 with
   | .no, true => (segTake P t cs off).map fun v => ⟨[], v, []⟩
   | .row r, false => match segAt cs off with
    | some (.ar _ s rows, rem) => match Nat.beq s sz, Nat.ble (rem + P.cellsOf t) s with
     | true, true => (takeP P t r rem).map fun v => ⟨[.p (rows[ri]? = some r)], v, []⟩
     | _, _ => none
    | _ => none
   | _, _ => none
  | _ => none
 | _ => none
def storeA (P : Program) (L : Nat → Option AObj) (t : TypeId) (p x : AV) (an : Ann) : Option Out :=
 match p, x.plain with
 | .fr f i ri sz off, true => match an with
  | .frows n rows r mem' => match L n, x.cellsP with
   | some (.fam false f' sz' mem), some ps => match Nat.beq sz sz' with
    | true => some ⟨[.e f f', .p (mem[i]? = some rows), .p (rows[ri]? = some r), .e ps.length (P.cellsOf t), .e (Nat.ble (off + P.cellsOf t) r.length) true, .p (mem.set i (rows.set ri (splice r off ps)) = mem')], .undef, [(n, .fam false f' sz mem')]⟩
    | false => none
   | _, _ => none
  | _ => none
 | .ref n ri sz off, true => match L n with
  | some (.var cs) => match ri, Nat.ble (off + P.cellsOf t) cs.length with
   | 0, true => some ⟨[.e x.cellsA.length (P.cellsOf t)], .undef, [(n, match toPVs (splice cs off x.cellsA) with | some ps => .varp ps | none => .var (splice cs off x.cellsA))]⟩
   | _, _ => none
  | some (.varp cs) => match ri, x.cellsP, an with
   | 0, some ps, .obj (.varp ds) => some ⟨[.e ps.length (P.cellsOf t), .p (off + P.cellsOf t ≤ cs.length), .p (splice cs off ps = ds)], .undef, [(n, .varp ds)]⟩
   | 0, some ps, .no => match Nat.ble (off + P.cellsOf t) cs.length, Nat.beq off 0, Nat.beq cs.length (P.cellsOf t) with
    | true, true, true => some ⟨[.e ps.length (P.cellsOf t)], .undef, [(n, .varp ps)]⟩
    | true, _, _ => some ⟨[.e ps.length (P.cellsOf t)], .undef, [(n, .varp (splice cs off ps))]⟩
    | _, _, _ => none
   | 0, none, .no => match Nat.ble (off + P.cellsOf t) cs.length with
    | true => some ⟨[.e x.cellsA.length (P.cellsOf t)], .undef, [(n, .var (splice (cs.map .pv) off x.cellsA))]⟩
    | false => none
   | _, _, _ => none
  | some (.sl false sz' rows) => match an, Nat.beq sz sz', x.cellsP with
   | .rows r r' rs, true, some ps => some ⟨[.p (rows[ri]? = some r), .e ps.length (P.cellsOf t), .e (Nat.ble (off + P.cellsOf t) r.length) true, .e (splice r off (ps.map nz)) r', .p (rows.set ri r' = rs)], .undef, [(n, .sl false sz rs)]⟩
   | _, _, _ => none
  | some (.svar cs) => match an, Nat.beq sz 0 with
   | .no, true => (segStore P t cs off x).map fun ds => ⟨[], .undef, [(n, .svar ds)]⟩
   | .rows r r' rs, false => match segAt cs off, x.cellsP with
    | some (.ar _ s rows, rem), some ps => match Nat.beq s sz with
     | true => some ⟨[.p (rows[ri]? = some r), .e ps.length (P.cellsOf t), .e (Nat.ble (rem + P.cellsOf t) s) true, .e (splice r rem (ps.map nz)) r', .p (rows.set ri r' = rs)], .undef, [(n, .svar (segPut cs off rs))]⟩
     | _ => none
    | _, _ => none
   | _, _ => none
  | _ => none
 | _, _ => none
/-! Variables with slices of their own: a header that is looked at, or put back. -/
def stripO : AObj → AObj
 | .own cs _ _ _ => .svar cs
 | .slo rows _ => .sl false 1 rows
 | o => o
def fseg : List (Nat × Nat × Nat) → Nat → Option (Nat × Nat)
 | [], _ => none
 | (off, base, n) :: r, x => match Nat.beq off x with
  | true => some (base, n)
  | false => fseg r x
def ldO (P : Program) (L : Nat → Option AObj) (t : TypeId) (p : AV) (j : Nat) : Option Out := match p with
 | .ref n ri sz off => match L n with
  | some (.own cs gs _ os) => match os[j]?, fseg gs off, segAt cs off, Nat.beq sz 1, isAggT P t with
   | some (i, m), some (base, k), some (.ar k' 1 _, 0), true, some false => match Nat.beq k k' with
    | true => some ⟨[.p (ri < k), .p (base + ri = i)], .hw m 1, []⟩
    | false => none
   | _, _, _, _, _ => none
  | some (.slo rows m) => match Nat.beq sz 1, Nat.beq off 0, isAggT P t with
   | true, true, some false => some ⟨[.p (rows[ri]? = some [.ow 0])], .hw m 1, []⟩
   | _, _, _ => none
  | _ => none
 | _ => none
def stO (P : Program) (L : Nat → Option AObj) (t : TypeId) (p x : AV) (j : Nat) : Option Out := match p, x with
 | .ref n ri sz off, .hw m' s => match L n with
  | some (.own cs gs mem os) => match os[j]?, fseg gs off, segAt cs off, Nat.beq sz 1 && Nat.beq s 1, Nat.beq (P.cellsOf t) 1 with
   | some (i, _), some (base, k), some (.ar k' 1 rows, 0), true, true => match Nat.beq k k' with
    | true => some ⟨[.p (ri < k), .p (base + ri = i), .p (rows[ri]? = some [.ow 0])], .undef, [(n, .own cs gs mem (os.set j (i, m')))]⟩
    | false => none
   | _, _, _, _, _ => none
  | some (.slo rows _) => match Nat.beq sz 1, Nat.beq s 1, Nat.beq off 0, Nat.beq (P.cellsOf t) 1 with
   | true, true, true, true => some ⟨[.p (rows[ri]? = some [.ow 0]), .p (∀ i : Nat, rows[i]? = some [.ow 0] → i = ri)], .undef, [(n, .slo rows m')]⟩
   | _, _, _, _ => none
  | _ => none
 | _, _ => none
def isBit : Ann → Bool
 | .row _ => true
 | _ => false
def bigE (P : Program) (e : TypeId) : Option (Nat × Nat) := match P.underlying e with
 | some (.array m c) => match Nat.ble m 6 with
  | false => some (m, P.cellsOf c)
  | true => none
 | _ => none
def ixA (P : Program) (t : TypeId) (x i : AV) (an : Ann) : Option Out :=
 match i with
 | .pv (.int _ k) => match P.underlying t, x with
  | some (.slice e), .pv (.sl rows) => match an, Nat.beq (P.cellsOf e) 0 with
   | .row r, false => some ⟨[.p (0 ≤ k), .p (rows[k.toNat]? = some r), .e r.length (P.cellsOf e)], .fref r, []⟩
   | _, _ => none
  | some (.slice e), .hd n off len sz => match Nat.beq sz (P.cellsOf e), Nat.beq sz 0 with
   | true, false => some ⟨[.p (0 ≤ k), .p (k < len)], .ref n (off + k.toNat) sz 0, []⟩
   | _, _ => none
  | some (.slice e), .pv (.fh f i off len sz) => match Nat.beq sz (P.cellsOf e), Nat.beq sz 0 with
   | true, false => some ⟨[.p (0 ≤ k), .p (k < len)], .fr f i (off + k.toNat) sz 0, []⟩
   | _, _ => none
  | some (.array len e), .ref n ri sz off => match Nat.beq (P.cellsOf e) 0, Nat.ble len 6, Nat.beq sz 0 with
   | false, false, true => match bigE P e with
    | some (m, c) => match Nat.beq (m * c) (P.cellsOf e) with
     | true => some ⟨[litP (isBit an) (0 ≤ k), litP (isBit an) (k < len)], .ref n (k.toNat * m) c off, []⟩
     | false => none
    | none => some ⟨[litP (isBit an) (0 ≤ k), litP (isBit an) (k < len)], .ref n k.toNat (P.cellsOf e) off, []⟩
   | false, true, _ => some ⟨[litP (isBit an) (0 ≤ k), litP (isBit an) (k < len)], .ref n ri sz (off + k.toNat * P.cellsOf e), []⟩
   | false, false, false => match Nat.beq sz (P.cellsOf e) with
    | true => some ⟨[litP (isBit an) (0 ≤ k), litP (isBit an) (k < len)], .ref n (ri + k.toNat) sz off, []⟩
    | false => none
   | _, _, _ => none
  | some (.array len e), .fref cs => match Nat.beq (P.cellsOf e) 0 with
   | false => some ⟨[litP (isBit an) (0 ≤ k), litP (isBit an) (k < len)], .fref (cs.drop (k.toNat * P.cellsOf e)), []⟩
   | _ => none
  | _, _ => none
 | _ => none
def arrA (P : Program) (t : TypeId) (x : AV) (an : Ann) : Option Out :=
 match an, P.underlying t, x with
 | .row r, some (.array n _), .pv (.sl rows) => match Nat.beq n 0 with
  | false => some ⟨[.p (n ≤ rows.length), .p ((rows.take n).flatten = r)], .fref r, []⟩
  | true => none
 | _, _, _ => none
def strAt (s : ByteArray) (k : Int) : Option Int := (s[k.toNat]?).map fun b => (b.toNat : Int)
def indexA (P : Program) (t : TypeId) (x i : AV) (an : Ann) : Option Out :=
 match an with
 | .val v => match P.underlying t, x, i with
  | some .string, .pv (.str s), .pv (.int _ k) => match v with
   | .pv (.int .u8 n) => some ⟨[.p (0 ≤ k), .p (strAt s k = some n)], .pv (.int .u8 n), []⟩
   | _ => none
  | some (.array len e), .aggp cs, .pv (.int _ k) => match Nat.beq (P.cellsOf e) 0 with
   | false => some ⟨[.p (0 ≤ k), .p (k < len), .p (takeP P e cs (k.toNat * P.cellsOf e) = some v)], v, []⟩
   | true => none
  | _, _, _ => none
 | .row r => match P.underlying t, x, i with
  | some (.array len e), .ar n sz rows, .pv (.int _ k) => match Nat.beq (P.cellsOf e) sz, Nat.beq n len, Nat.beq (P.cellsOf e) 0 with
   | true, true, false => (takeP P e r 0).map fun v => ⟨[.p (0 ≤ k), .p (rows[k.toNat]? = some r)], v, []⟩
   | _, _, _ => none
  | some (.array len e), .aggp cs, .pv (.int _ k) => match Nat.beq (P.cellsOf e) 0, decide (0 ≤ k ∧ k < len), takeP P e cs (k.toNat * P.cellsOf e) with
   | false, true, some v => some ⟨[], v, []⟩
   | _, _, _ => none
  | _, _, _ => none
 | _ => none
def sliceA (P : Program) (t : TypeId) (x : AV) (lo hi : Option AV) (an : Ann) : Option Out :=
 match P.underlying t with
 | some (.slice e) => match x with
  | .pv (.sl rows) => match an, slBounds lo hi rows.length, Nat.beq (P.cellsOf e) 0 with
   | .sls rs, some (p, l, h), false => some ⟨p ++ [.p (cut1 rows l (h - l) = rs), .p (∀ r ∈ rs, r.length = P.cellsOf e)], .pv (.sl rs), []⟩
   | _, _, _ => none
  | .pv .nilsl => match slBounds lo hi 0, Nat.beq (P.cellsOf e) 0 with
   | some (p, _, _), false => some ⟨p, .pv .nilsl, []⟩
   | _, _ => none
  | .hd n off len sz => match slBounds lo hi len, Nat.beq sz (P.cellsOf e), Nat.beq sz 0 with
   | some (p, l, h), true, false => some ⟨p, .hd n (off + l) (h - l) sz, []⟩
   | _, _, _ => none
  | .pv (.fh f i off len sz) => match slBounds lo hi len, Nat.beq sz (P.cellsOf e), Nat.beq sz 0 with
   | some (p, l, h), true, false => some ⟨p, .pv (.fh f i (off + l) (h - l) sz), []⟩
   | _, _, _ => none
  | _ => none
 | _ => none
def sliceOA (P : Program) (L : Nat → Option AObj) (t : TypeId) (x : AV) (lo hi : Option AV) (m : Nat) (rs : List (List PV)) : Option Out :=
 match P.underlying t, x with
 | some (.slice e), .hd n off len sz => match L n, L m, m % 2, slBounds lo hi len with
  | some (.sl false sz' rows), none, 1, some (p, l, h) => match Nat.beq sz sz', Nat.beq sz (P.cellsOf e) with
   | true, true => some ⟨p ++ [.e off 0, .e len rows.length, .p (cut1 rows l (h - l) = rs)], .hw m sz, [(n, .dead), (m, .sl false sz rs)]⟩
   | _, _ => none
  | _, _, _, _ => none
 | _, _ => none
def rowsC (sz n : Nat) (ps : List PV) : List (List PV) := (List.range n).map fun i => cut1 ps (i * sz) sz
def sliceVA (P : Program) (L : Nat → Option AObj) (t : TypeId) (x : AV) (m : Nat) (rs : List (List PV)) : Option Out :=
 match P.underlying t, x, L m with
 | some (.array len e), .ref n 0 0 0, some (.varp ps) => match Nat.beq n m, Nat.beq len 0, Nat.beq (P.cellsOf e) 0, Nat.beq (len * P.cellsOf e) ps.length with
  | true, false, false, true => some ⟨[.e (rowsC (P.cellsOf e) len ps) rs], .pv (.sl rs), [(n, .varf ps)]⟩
  | _, _, _, _ => none
 | some (.array len e), .ref n 0 0 0, some (.varf ps) => match Nat.beq n m, Nat.beq len 0, Nat.beq (P.cellsOf e) 0, Nat.beq (len * P.cellsOf e) ps.length with
  | true, false, false, true => some ⟨[.e (rowsC (P.cellsOf e) len ps) rs], .pv (.sl rs), [(n, .varf ps)]⟩
  | _, _, _, _ => none
 | _, _, _ => none
def sliceXA (P : Program) (t : TypeId) (x : AV) (lo hi : Option AV) : Option Out :=
 match P.underlying t, x with
 | some (.slice e), .hd n off len sz => match lo, hi, slBounds lo hi len, Nat.beq sz (P.cellsOf e), Nat.beq sz 0 with
  | none, some _, some (p, _, h), true, false => some ⟨p ++ [.e off 0, .p (0 < len)], .hx n h sz len, []⟩
  | _, _, _, _, _ => none
 | some (.slice e), .hv n sz N => match hi, slBounds lo hi N, Nat.beq sz (P.cellsOf e), Nat.beq sz 0 with
  | some _, some (p, l, h), true, false => some ⟨p, .hd n l (h - l) sz, []⟩
  | _, _, _, _ => none
 | _, _ => none
def sliceB (P : Program) (L : Nat → Option AObj) (t : TypeId) (x : AV) (lo hi : Option AV) (an : Ann) : Option Out :=
 match an with
 | .app m rs => sliceOA P L t x lo hi m rs
 | .appO m rs => match lo, hi with
  | none, none => sliceVA P L t x m rs
  | _, _ => none
 | .row _ => sliceXA P t x lo hi
 | an => sliceA P t x lo hi an
def slice3A (P : Program) (t : TypeId) (x : AV) (lo hi : Option AV) (mx : AV) (an : Ann) : Option Out :=
 match P.underlying t, x, lo, hi, mx, an with
 | some (.slice e), .pv (.sl rows), none, some (.pv (.int _ h)), .pv (.int _ m), .sls rs => match Nat.beq (P.cellsOf e) 0 with
  | false => some ⟨[.p (0 ≤ h), .p (h = m), .p (m ≤ (rows.length : Int)), .p (cut1 rows 0 h.toNat = rs)], .cp rs, []⟩
  | true => none
 | some (.slice e), .hd _ _ len _, some (.pv (.int _ l)), some (.pv (.int _ h)), .pv (.int _ m), .row _ => match Nat.beq (P.cellsOf e) 0 with
  | false => some ⟨[.p (0 ≤ l), .p (l ≤ h), .p (h ≤ m), .p (m ≤ (len : Int))], .undef, []⟩
  | true => none
 | _, _, _, _, _, _ => none
def mapOf (P : Program) (L : Nat → Option AObj) (et : TypeId) (m : AV) : Option (Bool × List PV × List (List PV)) :=
 match m with
 | .mp n => match L n with
  | some (.mp _ g _ ks rows) => some (g, ks, rows)
  | _ => none
 | .pv (.mp g ks rows) => some (g, ks, rows)
 | .pv .nilmap => some (false, [], [])
 | _ => none
def zRow : Bool → AV → Option (List PV)
 | true, .aggp zc => some (zc.map nz)
 | false, .pv p => some [nz p]
 | _, _ => none
def zRowK : Bool → AV → Option (List PV)
 | false, .pv p => some [p]
 | _, _ => none
def lookupZ (zf : Bool → AV → Option (List PV)) (P : Program) (L : Nat → Option AObj) (t : TypeId) (m k : AV) (ok : Bool) (r : List PV) (b : Bool) : Option Out :=
 match P.underlying t, k with
  | some (.map kt et), .pv (.int kk x) => match P.underlying kt, mapOf P L et m, zeroA P et with
   | some (.int q), some (g, ks, rows), some z => match decide (q = kk), zf g z, rowAV g r with
    | true, some zr, some v => some ⟨[.p (intKeys kk ks), .p ((mfind ks rows (.int kk x)).getD zr = r), .p ((mfind ks rows (.int kk x)).isSome = b)], match ok with | true => .tup [v, .pv (.bool b)] | false => v, []⟩
    | _, _, _ => none
   | _, _, _ => none
  | _, _ => none
def lookupA (P : Program) (L : Nat → Option AObj) (t : TypeId) (m k : AV) (ok : Bool) (an : Ann) : Option Out :=
 match an with
 | .mget v r => match P.underlying t, k with
  | some (.map kt et), .pv (.int kk x) => match P.underlying kt, mapOf P L et m, zeroA P et with
   | some (.int q), some (g, ks, rows), some z =>
    match decide (q = kk), r with
    | false, _ => none
    | true, some row => some ⟨[.p (intKeys kk ks), .p (mfind ks rows (.int kk x) = some row), .e (rowAV g row) (some v)], match ok with | true => .tup [v, .pv (.bool true)] | false => v, []⟩
    | true, none => some ⟨[.p (intKeys kk ks), .p (mfind ks rows (.int kk x) = none)], match ok with | true => .tup [z, .pv (.bool false)] | false => z, []⟩
   | _, _, _ => none
  | _, _ => none
 | .mrow r b => lookupZ zRow P L t m k ok r b
 | .mrowK r b => lookupZ zRowK P L t m k ok r b
 | _ => none
def mdel : List PV → List (List PV) → PV → List PV × List (List PV)
 | k :: ks, r :: rs, x => match keyEq k x with
  | true => (ks, rs)
  | false => (k :: (mdel ks rs x).1, r :: (mdel ks rs x).2)
 | ks, rs, _ => (ks, rs)
def deleteA (P : Program) (L : Nat → Option AObj) (t : TypeId) (b : Nat) (k : AV) (ks' : List PV) (rows' : List (List PV)) : Option Out :=
 match P.underlying t, k, L b with
 | some (.map kt _), .pv (.int kk n), some (.mp false g _ ks rows) => match P.underlying kt with
  | some (.int q) => match decide (q = kk) with
   | true => some ⟨[.p (intKeys kk ks), .p (mdel ks rows (.int kk n) = (ks', rows'))], .tup [], [(b, .mp false g false ks' rows')]⟩
   | false => none
  | _ => none
 | _, _, _ => none
def mapUpdateZ (z : PV → PV) (P : Program) (L : Nat → Option AObj) (t : TypeId) (m k x : AV) (ks' : List PV) (rows' : List (List PV)) : Option Out :=
 match P.underlying t, k, m with
  | some (.map kt _), .pv (.int kk n), .mp b => match P.underlying kt, L b, (fnV x).cellsP with
   | some (.int q), some (.mp false g rg ks rows), some ps => match decide (q = kk), g, fnV x with
    | true, true, .aggp _ => some ⟨[.p (intKeys kk ks), .p (mput ks rows (.int kk n) (ps.map z) = (ks', rows'))], .undef, [(b, .mp false g rg ks' rows')]⟩
    | true, false, .pv _ => some ⟨[.p (intKeys kk ks), .p (mput ks rows (.int kk n) (ps.map z) = (ks', rows'))], .undef, [(b, .mp false g rg ks' rows')]⟩
    | _, _, _ => none
   | _, _, _ => none
  | _, _, _ => none
def mapUpdateA (P : Program) (L : Nat → Option AObj) (t : TypeId) (m k x : AV) (an : Ann) : Option Out :=
 match an with
 | .mset ks' rows' => mapUpdateZ nz P L t m k x ks' rows'
 | .msetK ks' rows' => mapUpdateZ (fun p => p) P L t m k x ks' rows'
 | _ => none
def makeMapA (P : Program) (L : Nat → Option AObj) (t : TypeId) (an : Ann) : Option Out :=
 match an with
 | .nm n => match P.underlying t, L n, n % 2 with
  | some (.map _ et), none, 1 => match isAggT P et with
   | some g => some ⟨[], .mp n, [(n, .mp false g true [] [])]⟩
   | none => none
  | _, _, _ => none
 | _ => none
def rangeA (P : Program) (L : Nat → Option AObj) (t : TypeId) (x : AV) (an : Ann) : Option Out :=
 match an with
 | .nm n => match P.underlying t, x, L n, n % 2 with
  | some (.map _ _), .mp m, none, 1 => match L m with
   | some (.mp _ _ true ks _) => some ⟨[], .ref n 0 0 0, [(n, .it m ks.length [])]⟩
   | _ => none
  | _, _, _, _ => none
 | _ => none
def entryA (L : Nat → Option AObj) (x : AV) (an : Ann) : Option Out :=
 match an, x with
 | .ent m i k r, .ref n 0 0 0 => match L n, L m with
  | some (.it m' nn (j :: _)), some (.mp _ g true ks rows) => match Nat.beq m m', rowAV g r with
   | true, some v => some ⟨[.e j i, .p (ks[i]? = some k), .p (rows[i]? = some r), .e ks.length nn], .tup [.pv k, v], []⟩
   | _, _ => none
  | _, _ => none
 | _, _ => none
def yId : Nat := 4294967295
def callOpA (P : Program) (SP : SpecT) (L : Nat → Option AObj) (f : AV) (args : List AV) (an : Ann) : Option Out :=
 match clA f with
 | .clo g caps => match P.funcs[g]? with
  | some fn => match fn.body, fn.name == "runtime.NumGoroutine" with
   | some _, false => callA SP L g (args ++ caps) an
   | _, _ => none
  | none => none
 | .bnd g r => match P.funcs[g]? with
  | some fn => match fn.body, fn.name == "runtime.NumGoroutine" with
   | some _, false => callA SP L g (r :: args) an
   | _, _ => none
  | none => none
 | .yl n => match P.funcs[yId]? with
  | none => callA SP L yId (.yl n :: args) an
  | some _ => none
 | _ => none
def copyA (P : Program) (L : Nat → Option AObj) (t : TypeId) (x y : AV) (an : Ann) : Option Out :=
 match an with
 | .frows n rows _ mem' => match P.underlying t, x, y with
  | some (.slice e), .pv (.fh f i off len sz), .pv (.sl rows2) => match L n, Nat.beq sz 1, (P.info? e).map (·.size) with
   | some (.fam false f' sz' mem), true, some 1 => match Nat.beq sz' 1 with
    | true => some ⟨[.e f f', .p (mem[i]? = some rows), .p (off + len ≤ rows.length), .p (∀ r ∈ rows2, r.length = 1), .p (mem.set i (splice rows off (rows2.take (min rows2.length len))) = mem')], .undef, [(n, .fam false f' sz' mem')]⟩
    | false => none
   | _, _, _ => none
  | _, _, _ => none
 | _ => none
def bltA (P : Program) (L : Nat → Option AObj) (b : Builtin) (args : List AV) (ts : List TypeId) (an : Ann) : Option Out :=
 match b, args, ts, an with
 | .append, [.pv .nilsl, .pv (.int k l)], [t, tx], .app m rs => appendZ P L (.pv (.int k l)) t tx m rs
 | .append, [.cp rows, y], [t, tx], an => appendC P L rows y t tx an
 | .append, [x, y], [t, tx], .app m rs => appendA P L true x y t tx m rs
 | .append, [x, y], [t, tx], .appO m rs => appendA P L false x y t tx m rs
 | .len, [.mp n], [t], _ => match P.underlying t, L n with
  | some (.map _ _), some (.mp _ _ _ ks _) => some ⟨[], .pv (.int .i64 ks.length), []⟩
  | _, _ => none
 | .len, [.hd n off len sz], [t], _ => (lenA P t (.hd n off len sz)).map fun v => ⟨[], v, []⟩
 | .cap, [.pv .nilsl], [t], _ => match P.underlying t with
  | some (.slice _) => some ⟨[], .pv (.int .i64 0), []⟩
  | _ => none
 | .delete, [.mp n, k], [t, _], .mset ks' rows' => deleteA P L t n k ks' rows'
 | .copy, [x, y], [t, _], an => copyA P L t x y an
 | _, _, _, _ => none
def zeroRows (rows : List (List PV)) (off len : Nat) (z : List PV) : List (List PV) := rows.take off ++ List.replicate (min len (rows.length - off)) z ++ rows.drop (off + len)
def appendI (P : Program) (L : Nat → Option AObj) (n len sz N : Nat) (x : AV) (t tx : TypeId) (m : Nat) (rs : List (List PV)) : Option Out :=
 match elemOfP P t, elemOfP P tx, L n, L m, m % 2, srcA L false x with
 | some e, some _, some (.sl false sz' rows), none, 1, some (p, sz2, rows2) => match Nat.beq sz sz', Nat.beq sz (P.cellsOf e), Nat.beq sz2 0 || Nat.beq sz2 sz with
  | true, true, true => some ⟨p ++ [.p (0 < rows.length), .p (len + rows2.length ≤ N), .p (len ≤ rows.length), .p (rows.take len ++ rows2 = rs), .p (∀ r ∈ rows2, r.length = sz)], .hv m sz N, [(n, .dead), (m, .sl false sz rs)]⟩
  | _, _, _ => none
 | _, _, _, _, _, _ => none
def clearA (P : Program) (L : Nat → Option AObj) (n off len sz : Nat) (t : TypeId) (rs : List (List PV)) : Option Out :=
 match elemOfP P t, L n with
 | some e, some (.sl false sz' rows) => match Nat.beq sz sz', Nat.beq sz (P.cellsOf e), (zeroA P e).bind AV.cellsP with
  | true, true, some z => match Nat.beq z.length sz with
   | true => some ⟨[.p (zeroRows rows off len (z.map nz) = rs)], .undef, [(n, .sl false sz rs)]⟩
   | false => none
  | _, _, _ => none
 | _, _ => none
def bltB (P : Program) (L : Nat → Option AObj) (b : Builtin) (args : List AV) (ts : List TypeId) (an : Ann) : Option Out :=
 match b, args, ts, an with
 | .append, [.hx n len sz N, y], [t, tx], .app m rs => appendI P L n len sz N y t tx m rs
 | .len, [.hv n sz _], [t], _ => match L n with
  | some (.sl _ _ rows) => (lenA P t (.hd n 0 rows.length sz)).map fun v => ⟨[], v, []⟩
  | _ => none
 | .clear, [.hd n off len sz], [t], .sls rs => clearA P L n off len sz t rs
 | b, args, ts, an => bltA P L b args ts an
def effO (P : Program) (SP : SpecT) (L : Nat → Option AObj) (op : Op) (ρ : Operand → AV) (an : Ann) : Option Out :=
 match op with
 | .assign x => assignA L x an
 | .alloc t => allocA P L t an
 | .box _ x => boxA L (ρ x) an
 | .buildSlice t len parts => bsA P L t len (parts.toList.map fun (i, x) => (i, ρ x)) an
 | .load t p => match an with
  | .opn j => ldO P L t (ρ p) j
  | an => loadA P (fun n => (L n).map stripO) t (ρ p) an
 | .store t p x => match (P.info? t).isSome with
  | true => match an with
   | .opn j => stO P L t (ρ p) (ρ x) j
   | an => storeA P L t (ρ p) (ρ x) an
  | false => none
 | .makeSlice t x y => msA P L t (ρ x) (ρ y) an
 | .indexAddr t x i => ixA P t (ρ x) (ρ i) an
 | .index t x i => indexA P t (ρ x) (ρ i) an
 | .sliceToArrayPointer t x => arrA P t (ρ x) an
 | .slice t x lo hi mx => match mx with
  | none => sliceB P L t (ρ x) (lo.map ρ) (hi.map ρ) an
  | some m => slice3A P t (ρ x) (lo.map ρ) (hi.map ρ) (ρ m) an
 | .makeMap t r => match r with
  | none => makeMapA P L t an
  | some _ => none
 | .lookup t m k ok => lookupA P L t (ρ m) (ρ k) ok an
 | .mapUpdate t m k x => mapUpdateA P L t (ρ m) (ρ k) (ρ x) an
 | .insert t m k x => mapUpdateA P L t (ρ m) (ρ k) (ρ x) an
 | .range t x => rangeA P L t (ρ x) an
 | .entry x => entryA L (ρ x) an
 | .call c => match c.callee with
  | .builtin b => bltB P L b (c.args.toList.map ρ) c.argTypes.toList an
  | .value f => callOpA P SP L (ρ f) (c.args.toList.map ρ) an
  | _ => none
 | _ => none
def isTrueO : Operand → Bool
 | .const (.bool true) => true
 | _ => false
def isFalseO : Operand → Bool
 | .const (.bool false) => true
 | _ => false
def selB (xt yf t p q : Bool) : Bool := match xt, yf with
 | true, _ => t || q
 | false, true => t && p
 | false, false => cond t p q
def pickA (op : Op) (ρ : Operand → AV) (b : Bool) : Option Out :=
 match op with
 | .pick c x y => match ρ c with
  | .pv (.bool t) => some ⟨[.p (t = b)], match b with | true => ρ x | false => ρ y, []⟩
  | _ => none
 | _ => none
def unG (c : Nat × Bool × Bool) : AV → List Obl × AV
 | .gv j t w v => match Nat.beq j c.1 && (w == c.2.2) with
  | true => ([.e t c.2.1], v)
  | false => ([], .gv j t w v)
 | v => ([], v)
def unGs : List (Nat × Bool × Bool) → AV → List Obl × AV
 | [], v => ([], v)
 | c :: cs, v => ((unG c v).1 ++ (unGs cs (unG c v).2).1, (unGs cs (unG c v).2).2)
def wrapG : List (Nat × Bool × Bool) → AV → AV
 | [], v => v
 | c :: cs, v => .gv c.1 c.2.1 c.2.2 (wrapG cs v)
def unObs (cs : List (Nat × Bool × Bool)) : List AV → List Obl
 | [] => []
 | v :: vs => (unGs cs v).1 ++ unObs cs vs
def pickG (c x y : Operand) (ρ : Operand → AV) : Option (List Obl × AV) :=
 match c, ρ c with
 | .tmp j, .pv (.bool t) => match unG (j, t, true) (ρ x), unG (j, t, false) (ρ y) with
  | (p, .pv (.bool a)), (q, .pv (.bool b)) => some (p ++ q, .pv (.bool (selB (isTrueO x) (isFalseO y) t a b)))
  | (p, .pv (.int k a)), (q, .pv (.int k' b)) => match decide (k = k') with
   | true => some (p ++ q, .pv (.int k (cond t a b)))
   | false => none
  | _, _ => none
 | _, _ => none
def effG (P : Program) (op : Op) (ρ : Operand → AV) : Option (List Obl × AV) :=
 match op with
 | .pick c x y => pickG c x y ρ
 | op => effV P op ρ
def eff0 (P : Program) (SP : SpecT) (L : Nat → Option AObj) (op : Op) (ρ : Operand → AV) (an : Ann) : Option Out :=
 match an with
 | .no => match effV P op ρ with
  | some (p, v) => some ⟨p, v, []⟩
  | none => effO P SP L op ρ .no
 | .val v => match effV P op ρ with
  | some (p, x) => match cvA L x v with
   | some q => some ⟨p ++ q, v, []⟩
   | none => none
  | none => effO P SP L op ρ (.val v)
 | .bit b => pickA op ρ b
 | .sel => match effG P op ρ with
  | some (p, v) => some ⟨p, v, []⟩
  | none => none
 | an => effO P SP L op ρ an
def memT (x : Nat) : List Nat → Bool
 | [] => false
 | y :: r => match Nat.beq y x with
  | true => true
  | false => memT x r
def hwA (L : Nat → Option AObj) : AV → AV
 | .hw n sz => match L n with
  | some (.sl _ _ rows) => .hd n 0 rows.length sz
  | some (.slo rows _) => .hd n 0 rows.length sz
  | _ => .hw n sz
 | v => v
def resOp : Op → Bool
 | .indexAddr _ _ _ => true
 | .slice _ _ _ _ _ => true
 | .call c => match c.callee with
  | .builtin _ => true
  | _ => false
 | _ => false
def resF (L : Nat → Option AObj) (ρ : Operand → AV) : Operand → AV
 | .tmp t => hwA L (ρ (.tmp t))
 | x => ρ x
def effR (P : Program) (SP : SpecT) (L : Nat → Option AObj) (op : Op) (ρ : Operand → AV) (an : Ann) : Option Out := match resOp op with
 | true => eff0 P SP L op (resF L ρ) an
 | false => eff0 P SP L op ρ an
def onto (wf : List (Nat × AObj)) (L : Nat → Option AObj) (n : Nat) : Option AObj := match lk (wrO [] wf) n with
 | some o => some o
 | none => L n
def preF (L : Nat → Option AObj) (frz : List Nat) (ρ : Operand → AV) : Operand → AV
 | .tmp t => match frzArg2 L frz (ρ (.tmp t)) with
  | some (_, v) => v
  | none => ρ (.tmp t)
 | x => ρ x
def eff (P : Program) (SP : SpecT) (L : Nat → Option AObj) (op : Op) (ρ : Operand → AV) (an : Ann) : Option Out :=
 match an with
 | .fz m an' => match effR P SP L op ρ an' with
  | some out => match frzObjs (lk (wrO [] out.wr)) [m], frzArg2 (lk (wrO [] out.wr)) [m] out.v, memT m (out.wr.map (·.1)) with
   | some wf, some (q, v), true => some ⟨out.ob ++ q, v, out.wr ++ wf⟩
   | _, _, _ => none
  | none => none
 | .mi n m i mem' an' => match effR P SP L op ρ an' with
  | some out => match L n, lk (wrO [] out.wr) m, hwA (lk (wrO [] out.wr)) out.v with
   | some (.fam false f sz mem), some (.sl false sz' rows), .hd m' off len sz2 =>
    match Nat.beq m' m && Nat.beq off 0 && Nat.beq sz sz' && Nat.beq sz sz2 && memT m (out.wr.map (·.1)) && allNat n (out.wr.map (·.1)) with
    | true => some ⟨out.ob ++ [.e mem.length i, .p (mem ++ [rows] = mem'), .e len rows.length], .pv (.fh f i 0 len sz), out.wr ++ [(m, .dead), (n, .fam false f sz mem')]⟩
    | false => none
   | _, _, _ => none
  | none => none
 | .pre frz an' => match frzObjs L frz, frzArgs L frz (op.operands.toList.map ρ), nodupN frz with
  | some wf, some (p, _), true => match effR P SP (onto wf L) op (preF L frz ρ) an' with
   | some out => some ⟨p ++ out.ob, out.v, wf ++ out.wr⟩
   | none => none
  | _, _, _ => none
 | an => effR P SP L op ρ an
def St.putD (σ : St) (d : Option Tmp) (v : AV) : Option St := match d with
 | none => some σ
 | some d => match Nat.blt d σ.n with
  | true => some { σ with t := up σ.t d v }
  | false => none
abbrev Anns := List (Nat × Option Bool × Ann)
def annAt (as : Anns) (i : Nat) : Option Bool × Ann := match lk as i with
 | some x => x
 | none => (none, .no)
/-! Regions in which an order is drawn. -/
def Ann.nms : Ann → List Nat
 | .nm n => [n]
 | .nmv n v => n :: v.nms
 | .nmr n _ => [n]
 | .val v => v.nms
 | .mk n _ => [n]
 | .app m _ => [m]
 | .appO m _ => [m]
 | .call frz imps _ _ _ _ news keep => frz ++ (imps ++ (news ++ keep))
 | .fz m an => m :: an.nms
 | .pre frz an => frz ++ an.nms
 | .ent m _ _ _ => [m]
 | .frow n _ _ => [n]
 | .frows n _ _ _ => [n]
 | .mi n m _ _ an => n :: m :: an.nms
 | _ => []
def quietOp : Op → Bool
 | .move _ => true
 | .assign _ => true
 | .pick _ _ _ => true
 | .build _ _ => true
 | .binOp _ _ _ _ _ => true
 | .unOp _ _ _ => true
 | .convert _ _ _ => true
 | .makeFunc _ _ _ => true
 | .nilCheck _ => true
 | .fieldAddr _ _ _ => true
 | .field _ _ _ => true
 | .extract _ _ => true
 | .indexAddr _ _ _ => true
 | .index _ _ _ => true
 | _ => false
def hwN : List AV → List Nat
 | [] => []
 | .hw n _ :: r => n :: hwN r
 | _ :: r => hwN r
def opNms (op : Op) (ρ : Operand → AV) : List Nat := match quietOp op with
 | true => match resOp op with
  | true => hwN (op.operands.toList.map ρ)
  | false => []
 | false => nmsL (op.operands.toList.map ρ)
def lookN (σ : St) (o : Oper) (an : Ann) : List Nat := opNms o.op σ.ev ++ an.nms
def guardCs (tj : Nat) (want : Bool) : AV → Option (List (Nat × Bool × Bool))
 | .pv (.bool t) => some [(tj, t, want)]
 | .gv j t w v => (guardCs tj want v).map ((j, t, w) :: ·)
 | _ => none
def unF (cs : List (Nat × Bool × Bool)) (ρ : Operand → AV) : Operand → AV
 | .tmp t => (unGs cs (ρ (.tmp t))).2
 | x => ρ x
def specA (P : Program) (cs : List (Nat × Bool × Bool)) (op : Op) (ρ : Operand → AV) : Option Out :=
 match effG P op (unF cs ρ) with
 | some (p, v) => match v.nms with
  | [] => some ⟨unObs cs (op.operands.toList.map ρ) ++ p, wrapG cs v, []⟩
  | _ => none
 | none => none
def opN (P : Program) (SP : SpecT) (ops : Array Oper) (o : Oper) (gb : Option Bool) (an : Ann) (σ : St) : Option Out :=
 match o.guard with
 | none => eff P SP σ.obj o.op σ.ev an
 | some (j, want) => match (ops[j]?).bind (·.dst) with
  | some tj => match lk σ.t tj with
   | some g => match gb with
    | some b => match g with
     | .pv (.bool t) => match want == b with
      | true => match eff P SP σ.obj o.op σ.ev an with
       | some out => some ⟨.p (t = b) :: out.ob, out.v, out.wr⟩
       | none => none
      | false => some ⟨[.p (t = b)], .tup [], []⟩
     | _ => none
    | none => match g with
     | .tup [] => some ⟨[], .tup [], []⟩
     | g => match guardCs tj want g with
      | some cs => specA P cs o.op σ.ev
      | none => none
   | none => none
  | none => none
def nextN (σ : St) (o : Oper) (out : Out) : Option St := match σ.putD o.dst out.v with
 | some σ' => some { σ' with o := wrO σ'.o out.wr }
 | none => none
structure Foot where
 i : Nat
 out : Out
 look : List Nat
def disjN (a b : List Nat) : Bool := match a with
 | [] => true
 | x :: r => match allNat x b with
  | true => disjN r b
  | false => false
def opdTmps : List Operand → List Tmp
 | [] => []
 | .tmp t :: r => t :: opdTmps r
 | _ :: r => opdTmps r
def rdN (ops : Array Oper) (o : Oper) : List Tmp := opdTmps o.op.operands.toList ++ (match o.guard with
 | some (g, _) => match (ops[g]?).bind (·.dst) with
  | some t => [t]
  | none => []
 | none => [])
def notD (d : Option Tmp) (l : List Tmp) : Bool := match d with
 | some d => !memT d l
 | none => true
def neD (d e : Option Tmp) : Bool := match d, e with
 | some d, some e => !Nat.beq d e
 | _, _ => true
def cmN (ops : Array Oper) (x y : Foot) : Bool := match ops[x.i]?, ops[y.i]? with
 | some a, some b => notD a.dst (rdN ops b) && notD b.dst (rdN ops a) && neD a.dst b.dst && disjN (x.out.wr.map (·.1)) (y.look ++ y.out.wr.map (·.1)) && disjN (y.out.wr.map (·.1)) x.look
 | _, _ => false
def predsN (ops : Array Oper) (i : Nat) : List Nat := match ops[i]? with
 | some o => (o.after.toList.filter fun e => Region.binds .any e).map (·.on)
 | none => []
def mustN (ops : Array Oper) : Nat → Nat → Nat → Bool
 | 0, _, _ => false
 | f + 1, x, y => (predsN ops y).any fun z => Nat.beq z x || mustN ops f x z
def pairsN (ops : Array Oper) : List Foot → Bool
 | [] => true
 | x :: r => (r.all fun y => cmN ops x y || mustN ops ops.size x.i y.i) && pairsN ops r
def traceN (P : Program) (SP : SpecT) (ops : Array Oper) (as : Anns) : List Nat → St → Option (List Foot × St)
 | [], σ => some ([], σ)
 | i :: r, σ => match ops[i]? with
  | none => none
  | some o => match opN P SP ops o (annAt as i).1 (annAt as i).2 σ with
   | none => none
   | some out => match nextN σ o out with
    | none => none
    | some σ₁ => match traceN P SP ops as r σ₁ with
     | none => none
     | some (tr, σ₂) => some (⟨i, out, lookN σ o (annAt as i).2⟩ :: tr, σ₂)
def obsN : List Foot → List Obl
 | [] => []
 | x :: r => x.out.ob ++ obsN r
def ltN (n : Nat) : List Nat → Bool
 | [] => true
 | x :: r => match Nat.blt x n with
  | true => ltN n r
  | false => false
def selN (ops : Array Oper) : Bool := ops.toList.all fun o => match o.op with | .select .. => false | _ => true
def topoB (ops : Array Oper) : Array Bool → List Nat → Bool
 | _, [] => true
 | l, i :: r => match (predsN ops i).all fun z => l.getD z false with
  | true => topoB ops (l.setIfInBounds i true) r
  | false => false
def drawA (P : Program) (SP : SpecT) (ops : Array Oper) (as : Anns) (plan : List Nat) (σ : St) : Option (List Obl × St) :=
 match nodupN plan && ltN ops.size plan && Nat.beq plan.length ops.size && P.follows .mixedOrders && topoB ops (Array.replicate ops.size false) plan && selN ops with
 | true => match traceN P SP ops as plan σ with
  | some (tr, σ') => match pairsN ops tr with
   | true => some (obsN tr, σ')
   | false => none
  | none => none
 | false => none
def sub : Code → List Nat → Code
 | c, [] => c
 | .seq a _, 0 :: p => sub a p
 | .seq _ b, _ :: p => sub b p
 | .cond _ a _, 0 :: p => sub a p
 | .cond _ _ b, _ :: p => sub b p
 | .block _ c, _ :: p => sub c p
 | .loop c, _ :: p => sub c p
 | .scope c, _ :: p => sub c p
 | c, _ => c
def body (fn : Func) : Code := match fn.body with
 | some c => c
 | none => .skip
def keepT (t : List (Nat × AV)) (ρ : Nat → Option Nat) : List Nat → Option (List (Nat × AV))
 | [] => some []
 | x :: xs => match lk t x with
  | some v => match v.ren ρ, keepT t ρ xs with
   | some v', some r => some ((x, v') :: r)
   | _, _ => none
  | none => none
def keepO (o : List (Nat × AObj)) (ρ : Nat → Option Nat) : List (Nat × Nat) → Option (List (Nat × AObj))
 | [] => some []
 | (a, b) :: xs => match lk o a with
  | some v => match v.renK ρ, keepO o ρ xs with
   | some v', some r => some ((b, v') :: r)
   | _, _ => none
  | none => none
def evenOk : List (Nat × Nat) → Bool
 | [] => true
 | (x, b) :: r => match b % 2, Nat.beq x b with
  | 0, false => false
  | _, _ => evenOk r
def lowOk : List (Nat × Nat) → Bool
 | [] => true
 | (x, b) :: r => match Nat.blt x 16, Nat.beq b x with
  | true, false => false
  | _, _ => lowOk r
def keepSt (kt : List Nat) (ko : List (Nat × Nat)) (σ : St) : Option St :=
 match nodupN (ko.map (·.1)) && nodupN (ko.map (·.2)) && evenOk ko && lowOk ko, keepT σ.t (lk ko) kt, keepO σ.o (lk ko) ko with
 | true, some t, some o => some ⟨σ.n, t, o⟩
 | _, _, _ => none
end Go.Fx
