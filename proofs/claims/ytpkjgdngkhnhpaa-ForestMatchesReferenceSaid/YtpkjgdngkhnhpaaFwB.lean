/- The abstract machine: what each operation does, and the run of code between cuts. Definitions only. -/
import Derived.Test.YtpkjgdngkhnhpaaFwA
namespace Go.Fw
abbrev SpecT := Nat → List AV → List AObj → AV → List AObj → Prop
def binA (P : Program) (op : BinOp) (t : TypeId) (x y : AV) : Option (List Prop × AV) :=
 match x, y with
 | .pv (.int k a), .pv (.int k' b) =>
  match op with
  | .shl => some ([0 ≤ b], .pv (.int k (k.wrap (a * 2 ^ (min b.toNat k.bits)))))
  | .shr => some ([0 ≤ b], .pv (.int k (a.fdiv (2 ^ (min b.toNat k.bits)))))
  | op =>
   match decide (k = k') with
   | false => none
   | true =>
    match op with
    | .add => some ([], .pv (.int k (k.wrap (a + b))))
    | .sub => some ([], .pv (.int k (k.wrap (a - b))))
    | .mul => some ([], .pv (.int k (k.wrap (a * b))))
    | .quo => some ([b ≠ 0], .pv (.int k (k.wrap (a.tdiv b))))
    | .rem => some ([b ≠ 0], .pv (.int k (a.tmod b)))
    | .eql => some ([], .pv (.bool (a == b)))
    | .neq => some ([], .pv (.bool (a != b)))
    | .lss => some ([], .pv (.bool (decide (a < b))))
    | .leq => some ([], .pv (.bool (decide (a ≤ b))))
    | .gtr => some ([], .pv (.bool (decide (a > b))))
    | .geq => some ([], .pv (.bool (decide (a ≥ b))))
    | _ => none
 | .pv (.bool a), .pv (.bool b) =>
  match P.underlying t with
  | some .bool =>
   match op with
   | .eql => some ([], .pv (.bool (a == b)))
   | .neq => some ([], .pv (.bool (!(a == b))))
   | _ => none
  | _ => none
 | .pv .nilsl, .pv .nilsl =>
  match P.underlying t with
  | some (.slice _) =>
   match op with
   | .eql => some ([], .pv (.bool true))
   | .neq => some ([], .pv (.bool false))
   | _ => none
  | _ => none
 | .pv (.sl rows), .pv .nilsl =>
  match P.underlying t with
  | some (.slice _) =>
   match op with
   | .eql => some ([rows ≠ []], .pv (.bool false))
   | .neq => some ([rows ≠ []], .pv (.bool true))
   | _ => none
  | _ => none
 | _, _ => none
def unA (op : UnOp) (x : AV) : Option AV :=
 match op, x with
 | .not, .pv (.bool b) => some (.pv (.bool (!b)))
 | .neg, .pv (.int k n) => some (.pv (.int k (k.wrap (0 - n))))
 | _, _ => none
def fieldAtP (P : Program) (s : TypeId) (f : Nat) : Option (Nat × TypeId) :=
 match P.underlying s with
 | some (.struct fs) => match fs[f]? with
  | some fd => match Nat.beq (P.cellsOf fd.type) 0 with
   | true => none
   | false => some (fd.offset, fd.type)
  | none => none
 | _ => none
def AV.plain : AV → Bool
 | .undef => false
 | .tup _ => false
 | _ => true
def takeV (P : Program) (t : TypeId) (cs : List AV) (off : Nat) : Option AV :=
 match isAggT P t with
 | some true => match Nat.ble (off + P.cellsOf t) cs.length with
  | true => some (mkAgg (cut1 cs off (P.cellsOf t)))
  | false => none
 | some false => match cs[off]? with
  | some v => match v.plain with
   | true => match v with
    | .agg _ => none
    | .aggp _ => none
    | v => some v
   | false => none
  | none => none
 | none => none
def takeP (P : Program) (t : TypeId) (cs : List PV) (off : Nat) : Option AV :=
 match isAggT P t with
 | some true => match Nat.ble (off + P.cellsOf t) cs.length with
  | true => some (.aggp (cut1 cs off (P.cellsOf t)))
  | false => none
 | some false => (cs[off]?).map .pv
 | none => none
def zeroA (P : Program) (t : TypeId) : Option AV := ((P.info? t).bind (·.zero)).map avOf
def fillA (P : Program) (fs : Array Field) : List (Nat × AV) → List AV → Option (List AV)
 | [], cs => some cs
 | (i, v) :: r, cs => match fs[i]? with
  | some f => match v.plain, Nat.beq v.cellsA.length (P.cellsOf f.type), Nat.ble (f.offset + v.cellsA.length) cs.length with
   | true, true, true => fillA P fs r (splice cs f.offset v.cellsA)
   | _, _, _ => none
  | none => none
def arrFields (P : Program) (n : Nat) (e : TypeId) : Array Field := ((List.range n).map fun i => ({ (default : Field) with type := e, offset := i * P.cellsOf e } : Field)).toArray
def rowsFill : List (Nat × List PV) → List (List PV) → List (List PV)
 | [], rows => rows
 | (i, r) :: ps, rows => rowsFill ps (rows.set i r)
def ltAll (len : Nat) : List (Nat × List PV) → Bool
 | [] => true
 | (i, _) :: ps => match Nat.blt i len with
  | true => ltAll len ps
  | false => false
def lenObs (sz : Nat) : List (Nat × List PV) → List Prop
 | [] => []
 | (_, r) :: ps => (r.length = sz) :: lenObs sz ps
def partsP (ps : List (Nat × AV)) : Option (List (Nat × List PV)) := match ps with
 | [] => some []
 | (i, v) :: r => match v.cellsP, partsP r with
  | some c, some cs => some ((i, c) :: cs)
  | _, _ => none
def elemOfP (P : Program) (t : TypeId) : Option TypeId := match P.underlying t with
 | some (.slice e) => some e
 | _ => none
def lenA (P : Program) (t : TypeId) (x : AV) : Option AV := match P.underlying t, x with
 | some (.slice _), .pv (.sl rows) => some (.pv (.int .i64 rows.length))
 | some (.slice _), .pv .nilsl => some (.pv (.int .i64 0))
 | some (.slice _), .hd _ _ len _ => some (.pv (.int .i64 len))
 | some (.slice _), .pv (.fh _ _ _ len _) => some (.pv (.int .i64 len))
 | some .string, .pv (.str s) => some (.pv (.int .i64 s.size))
 | some (.array n _), _ => some (.pv (.int .i64 n))
 | _, _ => none
def minA (isMax : Bool) (x y : AV) : Option AV := match x, y with
 | .pv (.int k a), .pv (.int _ b) => some (.pv (.int k (match isMax with
  | false => if b < a then b else a
  | true => if b > a then b else a)))
 | _, _ => none
def minsA (isMax : Bool) : AV → List AV → Option AV
 | x, [] => some x
 | x, y :: r => match minA isMax x y with
  | some z => minsA isMax z r
  | none => none
def bigLen : Nat := 1073741824
def newNames (L : Nat → Option AObj) : List Nat → Bool
 | [] => true
 | n :: ns => match L n, n % 2 with
  | none, 1 => newNames L ns
  | _, _ => false
def callA (SP : SpecT) (L : Nat → Option AObj) (g : Nat) (args : List AV) (an : Ann) : Option Out :=
 match an with
 | .call frz imps r outs news =>
  match frzArgs L frz args, frzObjs L frz with
  | some (p, args'), some wf =>
   match renL (toIm imps) args', objsAt L imps, nodupN (frz ++ (imps ++ news)) && newNames L news, Nat.beq outs.length (imps.length + news.length) with
   | some cargs, some os, true, true =>
    match renObjs (toIm imps) os, r.ren (ofIm (imps ++ news)), renObjs (ofIm (imps ++ news)) outs with
    | some ext, some r', some outs' =>
     some ⟨p ++ [SP g cargs ext r outs], r', wf ++ zipNm (imps ++ news) outs'⟩
    | _, _, _ => none
   | _, _, _, _ => none
  | _, _ => none
 | _ => none
def builtinV (P : Program) (b : Builtin) (args : List AV) (ts : List TypeId) : Option (List Prop × AV) :=
 match b with
 | .len => match args, ts with
  | [x], [t] => (lenA P t x).map fun v => ([], v)
  | _, _ => none
 | .min => match args with
  | x :: r => (minsA false x r).map fun v => ([], v)
  | [] => none
 | .max => match args with
  | x :: r => (minsA true x r).map fun v => ([], v)
  | [] => none
 | _ => none
def effV (P : Program) (op : Op) (ρ : Operand → AV) : Option (List Prop × AV) :=
 match op with
 | .move x => some ([], ρ x)
 | .assign x => some ([], ρ x)
 | .pick c x y => match ρ c with
  | .pv (.bool true) => some ([], ρ x)
  | .pv (.bool false) => some ([], ρ y)
  | _ => none
 | .build t parts => match P.underlying t with
  | some (.struct fs) => match zeroA P t with
   | some z => match z.plain, fillA P fs (parts.toList.map fun (i, x) => (i, ρ x)) z.cellsA, fs.toList.mapM (fun f => (P.info? f.type).map fun i => (f.offset, i.size)) with
    | true, some cs, some _ => some ([], mkAgg cs)
    | _, _, _ => none
   | none => none
  | some (.array n e) => match zeroA P t, P.info? e with
   | some z, some _ => match z.plain, fillA P (arrFields P n e) (parts.toList.map fun (i, x) => (i, ρ x)) z.cellsA with
    | true, some cs => some ([], mkAgg cs)
    | _, _ => none
   | _, _ => none
  | _ => none
 | .binOp op t x y _ => binA P op t (ρ x) (ρ y)
 | .unOp op _ x => (unA op (ρ x)).map fun v => ([], v)
 | .convert src dst x => match P.underlying src, P.underlying dst, ρ x with
  | some (.int _), some (.int k), .pv (.int _ n) => some ([], .pv (.int k (k.wrap n)))
  | _, _, _ => none
 | .makeFunc fn first captured => match fn, first.toList with
  | .func f, [] => some ([], .clo f (captured.toList.map ρ))
  | _, _ => none
 | .nilCheck x => match ρ x with
  | .ref n a b c => some ([], .ref n a b c)
  | _ => none
 | .fieldAddr s x f => match fieldAtP P s f with
  | some (o, _) => match ρ x with
   | .ref n ri sz off => some ([], .ref n ri sz (off + o))
   | .fref cs => some ([], .fref (cs.drop o))
   | .fr f i ri sz off => some ([], .fr f i ri sz (off + o))
   | _ => none
  | none => none
 | .field s x f => match fieldAtP P s f with
  | some (o, t) => match ρ x with
   | .agg cs => (takeV P t cs o).map fun v => ([], v)
   | .aggp cs => (takeP P t cs o).map fun v => ([], v)
   | _ => none
  | none => none
 | .extract x i => match ρ x with
  | .tup vs => (vs[i]?).map fun v => ([], v)
  | _ => none
 | .call c => match c.callee with
  | .builtin b => builtinV P b (c.args.toList.map ρ) c.argTypes.toList
  | _ => none
 | _ => none
def slBounds (lo hi : Option AV) (len : Nat) : Option (List Prop × Nat × Nat) :=
 match lo, hi with
 | none, none => some ([], 0, len)
 | some (.pv (.int _ l)), none => some ([0 ≤ l, l ≤ len], l.toNat, len)
 | none, some (.pv (.int _ h)) => some ([0 ≤ h, h ≤ len], 0, h.toNat)
 | some (.pv (.int _ l)), some (.pv (.int _ h)) => some ([0 ≤ l, l ≤ h, h ≤ len], l.toNat, h.toNat)
 | _, _ => none
def srcA (L : Nat → Option AObj) (x : AV) : Option (List Prop × Nat × List (List PV)) :=
 match x with
 | .pv (.sl rows) => some ([], 0, rows)
 | .pv .nilsl => some ([], 0, [])
 | .hd n off len sz => match L n with
  | some (.sl _ sz' rows) => match Nat.beq sz sz' with
   | true => some ([off + len ≤ rows.length], sz, cut1 rows off len)
   | false => none
  | _ => none
 | _ => none
def appendA (P : Program) (L : Nat → Option AObj) (s x : AV) (t tx : TypeId) (m : Nat) (rs : List (List PV)) : Option Out :=
 match elemOfP P t, elemOfP P tx, L m, m % 2 with
 | some e, some _, none, 1 => match s, srcA L x with
  | .hd n off len sz, some (p, sz2, rows2) => match L n, Nat.beq sz (P.cellsOf e), Nat.ble (P.bytesOf e) 65536, zeroA P e with
   | some (.sl false sz' rows), true, true, some z => match Nat.beq sz sz', Nat.beq sz2 0 || Nat.beq sz2 sz, z.plain && Nat.beq z.cellsA.length sz with
    | true, true, true => some ⟨p ++ [off + len = rows.length, rows.drop off ++ rows2 = rs, rs.length ≤ bigLen, ∀ r ∈ rows2, r.length = sz], .hd m 0 rs.length sz, [(n, .dead), (m, .sl false sz rs)]⟩
    | _, _, _ => none
   | _, _, _, _ => none
  | _, _ => none
 | _, _, _, _ => none
def msA (P : Program) (L : Nat → Option AObj) (t : TypeId) (x y : AV) (an : Ann) : Option Out :=
 match an with
 | .app n rs => match L n, n % 2, elemOfP P t with
  | none, 1, some e => match x, y, zeroA P e with
   | .pv (.int _ l), .pv (.int _ c), some z => match z.cellsP, Nat.beq (P.cellsOf e) 0, Nat.ble (P.bytesOf e) 65536 with
    | some zc, false, true => some ⟨[zc.length = P.cellsOf e, 0 ≤ l, l ≤ c, c ≤ (bigLen : Int), List.replicate l.toNat zc = rs], .hd n 0 rs.length (P.cellsOf e), [(n, .sl false (P.cellsOf e) rs)]⟩
    | _, _, _ => none
   | _, _, _ => none
  | _, _, _ => none
 | _ => none
def assignA (L : Nat → Option AObj) (x : Operand) (an : Ann) : Option Out :=
 match an with
 | .mk n sz => match x, L n, Nat.beq sz 0, n % 2 with
  | .const (.slice none 0 0), none, false, 1 => some ⟨[], .hd n 0 0 sz, [(n, .sl false sz [])]⟩
  | _, _, _, _ => none
 | .row _ => match x with
  | .const (.slice none 0 0) => some ⟨[], .pv .nilsl, []⟩
  | _ => none
 | _ => none
def cvC (L : Nat → Option AObj) (x v : AV) : Option (List Prop) := match x, v with
 | .pv .nilsl, .pv (.sl []) => some []
 | .pv .nilsl, .hd n 0 0 _ => match L n with
  | some _ => some []
  | none => none
 | x, v => some [x = v]
def cvCs (L : Nat → Option AObj) : List AV → List AV → Option (List Prop)
 | [], [] => some []
 | x :: xs, v :: vs => match cvC L x v, cvCs L xs vs with
  | some p, some q => some (p ++ q)
  | _, _ => none
 | _, _ => none
def cvA (L : Nat → Option AObj) (x v : AV) : Option (List Prop) := match x, v with
 | .agg cs, .agg ds => cvCs L cs ds
 | .aggp ps, .agg ds => cvCs L (ps.map .pv) ds
 | .aggp ps, .aggp qs => cvCs L (ps.map .pv) (qs.map .pv)
 | x, v => cvC L x v
def allocA (P : Program) (L : Nat → Option AObj) (t : TypeId) (an : Ann) : Option Out :=
 match an with
 | .nm n => match zeroA P t, L n, n % 2 with
  | some z, none, 1 => match z.plain with
   | true => some ⟨[], .ref n 0 0 0, [(n, mkVar z)]⟩
   | false => none
  | _, _, _ => none
 | .nmv n v => match zeroA P t, L n, n % 2 with
  | some z, none, 1 => match v.plain, cvA L z v with
   | true, some q => some ⟨q, .ref n 0 0 0, [(n, mkVar v)]⟩
   | _, _ => none
  | _, _, _ => none
 | _ => none
def boxA (L : Nat → Option AObj) (x : AV) (an : Ann) : Option Out :=
 match an with
 | .nm n => match L n, n % 2, x.plain with
  | none, 1, true => some ⟨[], .ref n 0 0 0, [(n, mkVar x)]⟩
  | _, _, _ => none
 | _ => none
def nilP : PV → PV → Prop
 | .nilsl, .sl [] => True
 | x, y => x = y
def nilL : List PV → List PV → Prop
 | [], [] => True
 | x :: xs, y :: ys => nilP x y ∧ nilL xs ys
 | _, _ => False
def nilLL : List (List PV) → List (List PV) → Prop
 | [], [] => True
 | x :: xs, y :: ys => nilL x y ∧ nilLL xs ys
 | _, _ => False
def bsN : Ann → Option Nat
 | .nm n => some n
 | .app n _ => some n
 | _ => none
def bsO (rows : List (List PV)) : Ann → List Prop × List (List PV)
 | .app _ rs => ([nilLL rows rs], rs)
 | _ => ([], rows)
def bsA (P : Program) (L : Nat → Option AObj) (t : TypeId) (len : Nat) (parts : List (Nat × AV)) (an : Ann) : Option Out :=
 match bsN an with
 | some n => match L n, n % 2, elemOfP P t with
  | none, 1, some e => match zeroA P e, partsP parts with
   | some z, some ps => match z.cellsP, ltAll len ps with
    | some zc, true => match Nat.beq (P.cellsOf e) 0, Nat.ble (len * P.cellsOf e) 16777216 with
     | false, true => some ⟨(zc.length = P.cellsOf e) :: (lenObs (P.cellsOf e) ps ++ (bsO (rowsFill ps (List.replicate len zc)) an).1), .hd n 0 len (P.cellsOf e), [(n, .sl false (P.cellsOf e) (bsO (rowsFill ps (List.replicate len zc)) an).2)]⟩
     | _, _ => none
    | _, _ => none
   | _, _ => none
  | _, _, _ => none
 | none => none
def loadA (P : Program) (L : Nat → Option AObj) (t : TypeId) (p : AV) (an : Ann) : Option Out :=
 match p with
 | .fr f i ri sz off => match an with
  | .frow n rows r => match L n with
   | some (.fam _ f' sz' mem) => match Nat.beq sz sz', takeP P t r off with
    | true, some v => some ⟨[f = f', mem[i]? = some rows, rows[ri]? = some r], v, []⟩
    | _, _ => none
   | _ => none
  | _ => none
 | .fref cs => match an with
  | .val v => some ⟨[takeP P t cs 0 = some v], v, []⟩
  | .no => (takeP P t cs 0).map fun v => ⟨[], v, []⟩
  | _ => none
 | .ref n ri sz off => match L n with
  | some (.var cs) => match ri, an with
   | 0, .val v => some ⟨[takeV P t cs off = some v], v, []⟩
   | 0, .no => (takeV P t cs off).map fun v => ⟨[], v, []⟩
   | _, _ => none
  | some (.varp cs) => match ri, an with
   | 0, .val v => some ⟨[takeP P t cs off = some v], v, []⟩
   | 0, .no => (takeP P t cs off).map fun v => ⟨[], v, []⟩
   | _, _ => none
  | some (.sl _ sz' rows) => match an, Nat.beq sz sz' with
   | .row r, true => (takeP P t r off).map fun v => ⟨[rows[ri]? = some r], v, []⟩
   | _, _ => none
  | _ => none
 | _ => none
def storeA (P : Program) (L : Nat → Option AObj) (t : TypeId) (p x : AV) (an : Ann) : Option Out :=
 match p, x.plain with
 | .fr f i ri sz off, true => match an with
  | .frows n rows r mem' => match L n, x.cellsP with
   | some (.fam false f' sz' mem), some ps => match Nat.beq sz sz' with
    | true => some ⟨[f = f', mem[i]? = some rows, rows[ri]? = some r, ps.length = P.cellsOf t, off + P.cellsOf t ≤ r.length, mem.set i (rows.set ri (splice r off ps)) = mem'], .undef, [(n, .fam false f' sz mem')]⟩
    | false => none
   | _, _ => none
  | _ => none
 | .ref n ri sz off, true => match L n with
  | some (.var cs) => match ri, Nat.ble (off + P.cellsOf t) cs.length with
   | 0, true => some ⟨[x.cellsA.length = P.cellsOf t], .undef, [(n, match toPVs (splice cs off x.cellsA) with | some ps => .varp ps | none => .var (splice cs off x.cellsA))]⟩
   | _, _ => none
  | some (.varp cs) => match ri, x.cellsP, an with
   | 0, some ps, .obj (.varp ds) => some ⟨[ps.length = P.cellsOf t, off + P.cellsOf t ≤ cs.length, splice cs off ps = ds], .undef, [(n, .varp ds)]⟩
   | 0, some ps, .no => match Nat.ble (off + P.cellsOf t) cs.length, Nat.beq off 0, Nat.beq cs.length (P.cellsOf t) with
    | true, true, true => some ⟨[ps.length = P.cellsOf t], .undef, [(n, .varp ps)]⟩
    | true, _, _ => some ⟨[ps.length = P.cellsOf t], .undef, [(n, .varp (splice cs off ps))]⟩
    | _, _, _ => none
   | 0, none, .no => match Nat.ble (off + P.cellsOf t) cs.length with
    | true => some ⟨[x.cellsA.length = P.cellsOf t], .undef, [(n, .var (splice (cs.map .pv) off x.cellsA))]⟩
    | false => none
   | _, _, _ => none
  | some (.sl false sz' rows) => match an, Nat.beq sz sz', x.cellsP with
   | .rows r rs, true, some ps => some ⟨[rows[ri]? = some r, ps.length = P.cellsOf t, off + P.cellsOf t ≤ r.length, rows.set ri (splice r off ps) = rs], .undef, [(n, .sl false sz rs)]⟩
   | _, _, _ => none
  | _ => none
 | _, _ => none
def ixA (P : Program) (t : TypeId) (x i : AV) (an : Ann) : Option Out :=
 match i with
 | .pv (.int _ k) => match P.underlying t, x with
  | some (.slice e), .pv (.sl rows) => match an, Nat.beq (P.cellsOf e) 0 with
   | .row r, false => some ⟨[0 ≤ k, rows[k.toNat]? = some r, r.length = P.cellsOf e], .fref r, []⟩
   | _, _ => none
  | some (.slice e), .hd n off len sz => match Nat.beq sz (P.cellsOf e), Nat.beq sz 0 with
   | true, false => some ⟨[0 ≤ k, k < len], .ref n (off + k.toNat) sz 0, []⟩
   | _, _ => none
  | some (.slice e), .pv (.fh f i off len sz) => match Nat.beq sz (P.cellsOf e), Nat.beq sz 0 with
   | true, false => some ⟨[0 ≤ k, k < len], .fr f i (off + k.toNat) sz 0, []⟩
   | _, _ => none
  | some (.array len e), .ref n ri sz off => match Nat.beq (P.cellsOf e) 0 with
   | false => some ⟨[0 ≤ k, k < len], .ref n ri sz (off + k.toNat * P.cellsOf e), []⟩
   | _ => none
  | some (.array len e), .fref cs => match Nat.beq (P.cellsOf e) 0 with
   | false => some ⟨[0 ≤ k, k < len], .fref (cs.drop (k.toNat * P.cellsOf e)), []⟩
   | _ => none
  | _, _ => none
 | _ => none
def indexA (P : Program) (t : TypeId) (x i : AV) (an : Ann) : Option Out :=
 match an with
 | .val v => match P.underlying t, x, i with
  | some (.array len e), .aggp cs, .pv (.int _ k) => match Nat.beq (P.cellsOf e) 0 with
   | false => some ⟨[0 ≤ k, k < len, takeP P e cs (k.toNat * P.cellsOf e) = some v], v, []⟩
   | true => none
  | _, _, _ => none
 | _ => none
def sliceA (P : Program) (t : TypeId) (x : AV) (lo hi : Option AV) (an : Ann) : Option Out :=
 match P.underlying t with
 | some (.slice e) => match x with
  | .pv (.sl rows) => match an, slBounds lo hi rows.length, Nat.beq (P.cellsOf e) 0 with
   | .sls rs, some (p, l, h), false => some ⟨p ++ [cut1 rows l (h - l) = rs, ∀ r ∈ rs, r.length = P.cellsOf e], .pv (.sl rs), []⟩
   | _, _, _ => none
  | .pv .nilsl => match slBounds lo hi 0, Nat.beq (P.cellsOf e) 0 with
   | some (p, _, _), false => some ⟨p, .pv (.sl []), []⟩
   | _, _ => none
  | .hd n off len sz => match slBounds lo hi len, Nat.beq sz (P.cellsOf e), Nat.beq sz 0 with
   | some (p, l, h), true, false => some ⟨p, .hd n (off + l) (h - l) sz, []⟩
   | _, _, _ => none
  | .pv (.fh f i off len sz) => match slBounds lo hi len, Nat.beq sz (P.cellsOf e), Nat.beq sz 0 with
   | some (p, l, h), true, false => some ⟨p, .pv (.fh f i (off + l) (h - l) sz), []⟩
   | _, _, _ => none
  | _ => none
 | _ => none
def mapOf (P : Program) (L : Nat → Option AObj) (et : TypeId) (m : AV) : Option (Bool × List PV × List (List PV)) :=
 match m with
 | .mp n => match L n with
  | some (.mp _ g _ ks rows) => some (g, ks, rows)
  | _ => none
 | .pv (.mp g ks rows) => some (g, ks, rows)
 | .pv .nilmap => some (false, [], [])
 | _ => none
def lookupA (P : Program) (L : Nat → Option AObj) (t : TypeId) (m k : AV) (ok : Bool) (an : Ann) : Option Out :=
 match an with
 | .mget v r => match P.underlying t, k with
  | some (.map kt et), .pv (.int kk x) => match P.underlying kt, mapOf P L et m, zeroA P et with
   | some (.int q), some (g, ks, rows), some z =>
    match decide (q = kk), r with
    | false, _ => none
    | true, some row => some ⟨[intKeys kk ks, mfind ks rows (.int kk x) = some row, rowAV g row = some v], match ok with | true => .tup [v, .pv (.bool true)] | false => v, []⟩
    | true, none => some ⟨[intKeys kk ks, mfind ks rows (.int kk x) = none], match ok with | true => .tup [z, .pv (.bool false)] | false => z, []⟩
   | _, _, _ => none
  | _, _ => none
 | _ => none
def mapUpdateA (P : Program) (L : Nat → Option AObj) (t : TypeId) (m k x : AV) (an : Ann) : Option Out :=
 match an with
 | .mset ks' rows' => match P.underlying t, k, m with
  | some (.map kt _), .pv (.int kk n), .mp b => match P.underlying kt, L b, x.cellsP with
   | some (.int q), some (.mp false g rg ks rows), some ps => match decide (q = kk), g, x with
    | true, true, .aggp _ => some ⟨[intKeys kk ks, mput ks rows (.int kk n) ps = (ks', rows')], .undef, [(b, .mp false g rg ks' rows')]⟩
    | true, false, .pv _ => some ⟨[intKeys kk ks, mput ks rows (.int kk n) ps = (ks', rows')], .undef, [(b, .mp false g rg ks' rows')]⟩
    | _, _, _ => none
   | _, _, _ => none
  | _, _, _ => none
 | _ => none
def makeMapA (P : Program) (L : Nat → Option AObj) (t : TypeId) (an : Ann) : Option Out :=
 match an with
 | .nm n => match P.underlying t, L n, n % 2 with
  | some (.map _ et), none, 1 => match isAggT P et with
   | some g => some ⟨[], .mp n, [(n, .mp false g true [] [])]⟩
   | none => none
  | _, _, _ => none
 | _ => none
def rangeA (P : Program) (L : Nat → Option AObj) (t : TypeId) (x : AV) (an : Ann) : Option Out :=
 match an with
 | .nm n => match P.underlying t, x, L n, n % 2 with
  | some (.map _ _), .mp m, none, 1 => match L m with
   | some (.mp _ _ true ks _) => some ⟨[], .ref n 0 0 0, [(n, .it m ks.length [])]⟩
   | _ => none
  | _, _, _, _ => none
 | _ => none
def entryA (L : Nat → Option AObj) (x : AV) (an : Ann) : Option Out :=
 match an, x with
 | .ent m i k r, .ref n 0 0 0 => match L n, L m with
  | some (.it m' nn seen), some (.mp _ g true ks rows) => match Nat.beq m m', rowAV g r with
   | true, some v => some ⟨[seen.getLast? = some i, ks[i]? = some k, rows[i]? = some r, ks.length = nn], .tup [.pv k, v], []⟩
   | _, _ => none
  | _, _ => none
 | _, _ => none
def callOpA (P : Program) (SP : SpecT) (L : Nat → Option AObj) (f : AV) (args : List AV) (an : Ann) : Option Out :=
 match f with
 | .clo g caps => match P.funcs[g]? with
  | some fn => match fn.body, fn.name == "runtime.NumGoroutine" with
   | some _, false => callA SP L g (args ++ caps) an
   | _, _ => none
  | none => none
 | _ => none
def bltA (P : Program) (L : Nat → Option AObj) (b : Builtin) (args : List AV) (ts : List TypeId) (an : Ann) : Option Out :=
 match b, args, ts, an with
 | .append, [x, y], [t, tx], .app m rs => appendA P L x y t tx m rs
 | .len, [.mp n], [t], _ => match P.underlying t, L n with
  | some (.map _ _), some (.mp _ _ _ ks _) => some ⟨[], .pv (.int .i64 ks.length), []⟩
  | _, _ => none
 | _, _, _, _ => none
def effO (P : Program) (SP : SpecT) (L : Nat → Option AObj) (op : Op) (ρ : Operand → AV) (an : Ann) : Option Out :=
 match op with
 | .assign x => assignA L x an
 | .alloc t => allocA P L t an
 | .box _ x => boxA L (ρ x) an
 | .buildSlice t len parts => bsA P L t len (parts.toList.map fun (i, x) => (i, ρ x)) an
 | .load t p => loadA P L t (ρ p) an
 | .store t p x => match (P.info? t).isSome with
  | true => storeA P L t (ρ p) (ρ x) an
  | false => none
 | .makeSlice t x y => msA P L t (ρ x) (ρ y) an
 | .indexAddr t x i => ixA P t (ρ x) (ρ i) an
 | .index t x i => indexA P t (ρ x) (ρ i) an
 | .slice t x lo hi mx => match mx with
  | none => sliceA P t (ρ x) (lo.map ρ) (hi.map ρ) an
  | some _ => none
 | .makeMap t r => match r with
  | none => makeMapA P L t an
  | some _ => none
 | .lookup t m k ok => lookupA P L t (ρ m) (ρ k) ok an
 | .mapUpdate t m k x => mapUpdateA P L t (ρ m) (ρ k) (ρ x) an
 | .range t x => rangeA P L t (ρ x) an
 | .entry x => entryA L (ρ x) an
 | .call c => match c.callee with
  | .builtin b => bltA P L b (c.args.toList.map ρ) c.argTypes.toList an
  | .value f => callOpA P SP L (ρ f) (c.args.toList.map ρ) an
  | _ => none
 | _ => none
def All : List Prop → Prop
 | [] => True
 | p :: ps => p ∧ All ps
def pickA (op : Op) (ρ : Operand → AV) (b : Bool) : Option Out :=
 match op with
 | .pick c x y => match ρ c with
  | .pv (.bool t) => some ⟨[t = b], match b with | true => ρ x | false => ρ y, []⟩
  | _ => none
 | _ => none
def eff0 (P : Program) (SP : SpecT) (L : Nat → Option AObj) (op : Op) (ρ : Operand → AV) (an : Ann) : Option Out :=
 match an with
 | .no => match effV P op ρ with
  | some (p, v) => some ⟨p, v, []⟩
  | none => effO P SP L op ρ .no
 | .val v => match effV P op ρ with
  | some (p, x) => match cvA L x v with
   | some q => some ⟨p ++ q, v, []⟩
   | none => none
  | none => effO P SP L op ρ (.val v)
 | .bit b => pickA op ρ b
 | an => effO P SP L op ρ an
def wrO : List (Nat × AObj) → List (Nat × AObj) → List (Nat × AObj)
 | o, [] => o
 | o, (n, x) :: r => wrO (up o n x) r
def memT (x : Nat) : List Nat → Bool
 | [] => false
 | y :: r => match Nat.beq y x with
  | true => true
  | false => memT x r
def eff (P : Program) (SP : SpecT) (L : Nat → Option AObj) (op : Op) (ρ : Operand → AV) (an : Ann) : Option Out :=
 match an with
 | .fz m an' => match eff0 P SP L op ρ an' with
  | some out => match frzObjs (lk (wrO [] out.wr)) [m], frzArg2 (lk (wrO [] out.wr)) [m] out.v, memT m (out.wr.map (·.1)) with
   | some wf, some (q, v), true => some ⟨out.ob ++ q, v, out.wr ++ wf⟩
   | _, _, _ => none
  | none => none
 | .mi n m i mem' an' => match eff0 P SP L op ρ an' with
  | some out => match L n, lk (wrO [] out.wr) m, out.v with
   | some (.fam false f sz mem), some (.sl false sz' rows), .hd m' off len sz2 =>
    match Nat.beq m' m && Nat.beq off 0 && Nat.beq sz sz' && Nat.beq sz sz2 && memT m (out.wr.map (·.1)) && allNat n (out.wr.map (·.1)) with
    | true => some ⟨out.ob ++ [mem.length = i, mem ++ [rows] = mem', len = rows.length], .pv (.fh f i 0 len sz), out.wr ++ [(m, .dead), (n, .fam false f sz mem')]⟩
    | false => none
   | _, _, _ => none
  | none => none
 | an => eff0 P SP L op ρ an
def St.putD (σ : St) (d : Option Tmp) (v : AV) : Option St := match d with
 | none => some σ
 | some d => match Nat.blt d σ.n with
  | true => some { σ with t := up σ.t d v }
  | false => none
def guardA (σ : St) (tj : Nat) (gb : Option Bool) : Option (List Prop × Bool × St) :=
 match gb with
 | some b => match lk σ.t tj with
  | some (.pv (.bool t)) => some ([t = b], b, { σ with t := up σ.t tj (.pv (.bool b)) })
  | _ => none
 | none => match lk σ.t tj with
  | some (.pv (.bool true)) => some ([], true, σ)
  | some (.pv (.bool false)) => some ([], false, σ)
  | _ => none
def actA (P : Program) (SP : SpecT) (o : Oper) (an : Ann) (σ : St) : Option (List Prop × St) :=
 match eff P SP σ.obj o.op σ.ev an with
 | some out => match σ.putD o.dst out.v with
  | some σ' => some (out.ob, { σ' with o := wrO σ'.o out.wr })
  | none => none
 | none => none
def opA (P : Program) (SP : SpecT) (ops : Array Oper) (o : Oper) (gb : Option Bool) (an : Ann) (σ : St) : Option (List Prop × St) :=
 match o.guard with
 | none => actA P SP o an σ
 | some (j, want) => match (ops[j]?).bind (·.dst) with
  | some tj => match lk σ.t tj with
   | some (.tup []) => match σ.putD o.dst (.tup []) with
    | some σ₂ => some ([], σ₂)
    | none => none
   | _ => match guardA σ tj gb with
    | some (p, b, σ₁) => match want == b with
     | true => match actA P SP o an σ₁ with
      | some (q, σ₂) => some (p ++ q, σ₂)
      | none => none
     | false => match σ₁.putD o.dst (.tup []) with
      | some σ₂ => some (p, σ₂)
      | none => none
    | none => none
  | none => none
abbrev Anns := List (Nat × Option Bool × Ann)
def annAt (as : Anns) (i : Nat) : Option Bool × Ann := match lk as i with
 | some x => x
 | none => (none, .no)
def opsA (P : Program) (SP : SpecT) (ops : Array Oper) (as : Anns) : List Nat → St → Option (List Prop × St)
 | [], σ => some ([], σ)
 | i :: r, σ => match ops[i]? with
  | none => none
  | some o => match opA P SP ops o (annAt as i).1 (annAt as i).2 σ with
   | none => none
   | some (p, σ₁) => match opsA P SP ops as r σ₁ with
    | none => none
    | some (q, σ₂) => some (p ++ q, σ₂)
/-! Regions in which an order is drawn. -/
def Ann.nms : Ann → List Nat
 | .nm n => [n]
 | .nmv n v => n :: v.nms
 | .val v => v.nms
 | .mk n _ => [n]
 | .app m _ => [m]
 | .call frz imps _ _ news => frz ++ (imps ++ news)
 | .fz m an => m :: an.nms
 | .ent m _ _ _ => [m]
 | .frow n _ _ => [n]
 | .frows n _ _ _ => [n]
 | .mi n m _ _ an => n :: m :: an.nms
 | _ => []
def quietOp : Op → Bool
 | .move _ => true
 | .assign _ => true
 | .pick _ _ _ => true
 | .build _ _ => true
 | .binOp _ _ _ _ _ => true
 | .unOp _ _ _ => true
 | .convert _ _ _ => true
 | .makeFunc _ _ _ => true
 | .nilCheck _ => true
 | .fieldAddr _ _ _ => true
 | .field _ _ _ => true
 | .extract _ _ => true
 | .indexAddr _ _ _ => true
 | .index _ _ _ => true
 | .slice _ _ _ _ _ => true
 | _ => false
def opNms (op : Op) (ρ : Operand → AV) : List Nat := match quietOp op with
 | true => []
 | false => nmsL (op.operands.toList.map ρ)
def lookN (σ : St) (o : Oper) (an : Ann) : List Nat := opNms o.op σ.ev ++ an.nms
def opN (P : Program) (SP : SpecT) (ops : Array Oper) (o : Oper) (gb : Option Bool) (an : Ann) (σ : St) : Option Out :=
 match o.guard with
 | none => eff P SP σ.obj o.op σ.ev an
 | some (j, want) => match (ops[j]?).bind (·.dst) with
  | some tj => match lk σ.t tj with
   | some (.pv (.bool t)) => match gb with
    | some b => match want == b with
     | true => match eff P SP σ.obj o.op σ.ev an with
      | some out => some ⟨(t = b) :: out.ob, out.v, out.wr⟩
      | none => none
     | false => some ⟨[t = b], .tup [], []⟩
    | none => match want == t with
     | true => eff P SP σ.obj o.op σ.ev an
     | false => some ⟨[], .tup [], []⟩
   | some (.tup []) => some ⟨[], .tup [], []⟩
   | _ => none
  | none => none
def nextN (σ : St) (o : Oper) (out : Out) : Option St := match σ.putD o.dst out.v with
 | some σ' => some { σ' with o := wrO σ'.o out.wr }
 | none => none
structure Foot where
 i : Nat
 out : Out
 look : List Nat
def disjN (a b : List Nat) : Bool := match a with
 | [] => true
 | x :: r => match allNat x b with
  | true => disjN r b
  | false => false
def opdTmps : List Operand → List Tmp
 | [] => []
 | .tmp t :: r => t :: opdTmps r
 | _ :: r => opdTmps r
def rdN (ops : Array Oper) (o : Oper) : List Tmp := opdTmps o.op.operands.toList ++ (match o.guard with
 | some (g, _) => match (ops[g]?).bind (·.dst) with
  | some t => [t]
  | none => []
 | none => [])
def notD (d : Option Tmp) (l : List Tmp) : Bool := match d with
 | some d => !memT d l
 | none => true
def neD (d e : Option Tmp) : Bool := match d, e with
 | some d, some e => !Nat.beq d e
 | _, _ => true
def cmN (ops : Array Oper) (x y : Foot) : Bool := match ops[x.i]?, ops[y.i]? with
 | some a, some b => notD a.dst (rdN ops b) && notD b.dst (rdN ops a) && neD a.dst b.dst && disjN (x.out.wr.map (·.1)) (y.look ++ y.out.wr.map (·.1)) && disjN (y.out.wr.map (·.1)) x.look
 | _, _ => false
def predsN (ops : Array Oper) (i : Nat) : List Nat := match ops[i]? with
 | some o => (o.after.toList.filter fun e => Region.binds .any e).map (·.on)
 | none => []
def mustN (ops : Array Oper) : Nat → Nat → Nat → Bool
 | 0, _, _ => false
 | f + 1, x, y => (predsN ops y).any fun z => Nat.beq z x || mustN ops f x z
def pairsN (ops : Array Oper) : List Foot → Bool
 | [] => true
 | x :: r => (r.all fun y => cmN ops x y || mustN ops ops.size x.i y.i) && pairsN ops r
def traceN (P : Program) (SP : SpecT) (ops : Array Oper) (as : Anns) : List Nat → St → Option (List Foot × St)
 | [], σ => some ([], σ)
 | i :: r, σ => match ops[i]? with
  | none => none
  | some o => match opN P SP ops o (annAt as i).1 (annAt as i).2 σ with
   | none => none
   | some out => match nextN σ o out with
    | none => none
    | some σ₁ => match traceN P SP ops as r σ₁ with
     | none => none
     | some (tr, σ₂) => some (⟨i, out, lookN σ o (annAt as i).2⟩ :: tr, σ₂)
def obsN : List Foot → List Prop
 | [] => []
 | x :: r => x.out.ob ++ obsN r
def ltN (n : Nat) : List Nat → Bool
 | [] => true
 | x :: r => match Nat.blt x n with
  | true => ltN n r
  | false => false
def selN (ops : Array Oper) : Bool := ops.toList.all fun o => match o.op with | .select .. => false | _ => true
def topoB (ops : Array Oper) : Array Bool → List Nat → Bool
 | _, [] => true
 | l, i :: r => match (predsN ops i).all fun z => l.getD z false with
  | true => topoB ops (l.setIfInBounds i true) r
  | false => false
def drawA (P : Program) (SP : SpecT) (ops : Array Oper) (as : Anns) (plan : List Nat) (σ : St) : Option (List Prop × St) :=
 match nodupN plan && ltN ops.size plan && Nat.beq plan.length ops.size && P.follows .mixedOrders && topoB ops (Array.replicate ops.size false) plan && selN ops with
 | true => match traceN P SP ops as plan σ with
  | some (tr, σ') => match pairsN ops tr with
   | true => some (obsN tr, σ')
   | false => none
  | none => none
 | false => none
inductive An where
 | new (n sz : Nat)
 | reg (as : Anns)
 | draw (plan : List Nat) (as : Anns)
 | br (b : Bool)
 | bk
 | lp
def evK (P : Program) (SP : SpecT) : Nat → List An → List Item → St → Option (List Prop × List Item × St)
 | 0, _, _, _ => none
 | f + 1, as, k, σ =>
  match k with
  | .code (.seq a b) :: k => evK P SP f as (.code a :: .code b :: k) σ
  | .code (.block id c) :: k => evK P SP f as (.code c :: .inBlock id :: k) σ
  | .code .skip :: k => evK P SP f as k σ
  | .inBlock _ :: k => evK P SP f as k σ
  | .code (.scope c) :: k => evK P SP f as (.code c :: .inScope c :: k) σ
  | .inScope _ :: k => evK P SP f as k σ
  | .code (.label _) :: k => evK P SP f as k σ
  | .code (.exit id) :: k => match exitTo id k with
   | some k' => evK P SP f as k' σ
   | none => none
  | .code (.region id ops draw) :: k => match as with
   | .new n sz :: as => match lk σ.o n, n % 2, Nat.beq sz 0 with
    | none, 1, false => evK P SP f as (.code (.region id ops draw) :: k) { σ with o := up σ.o n (.sl false sz []) }
    | _, _, _ => none
   | .reg an :: as => match draw with
    | false => match opsA P SP ops an (List.range ops.size) σ with
     | some (p, σ') => match evK P SP f as k σ' with
      | some (q, r) => some (p ++ q, r)
      | none => none
     | none => none
    | true => none
   | .draw plan an :: as => match draw with
    | true => match drawA P SP ops an plan σ with
     | some (p, σ') => match evK P SP f as k σ' with
      | some (q, r) => some (p ++ q, r)
      | none => none
     | none => none
    | false => none
   | _ => some ([], .code (.region id ops draw) :: k, σ)
  | .code (.cond c x y) :: k => match as with
   | .br b :: as => match σ.ev c with
    | .pv (.bool t) => match evK P SP f as (.code (match b with | true => x | false => y) :: k) σ with
     | some (q, r) => some ((t = b) :: q, r)
     | none => none
    | _ => none
   | .bk :: as => match σ.ev c with
    | .pv (.bool true) => evK P SP f as (.code x :: k) σ
    | .pv (.bool false) => evK P SP f as (.code y :: k) σ
    | _ => none
   | _ => some ([], .code (.cond c x y) :: k, σ)
  | .code (.loop c) :: k => match as with
   | .lp :: as => evK P SP f as (.code c :: .inLoop c :: k) σ
   | _ => some ([], .code (.loop c) :: k, σ)
  | .inLoop c :: k => match as with
   | .lp :: as => evK P SP f as (.code c :: .inLoop c :: k) σ
   | _ => some ([], .inLoop c :: k, σ)
  | k => some ([], k, σ)
def sub : Code → List Nat → Code
 | c, [] => c
 | .seq a _, 0 :: p => sub a p
 | .seq _ b, _ :: p => sub b p
 | .cond _ a _, 0 :: p => sub a p
 | .cond _ _ b, _ :: p => sub b p
 | .block _ c, _ :: p => sub c p
 | .loop c, _ :: p => sub c p
 | .scope c, _ :: p => sub c p
 | c, _ => c
def body (fn : Func) : Code := match fn.body with
 | some c => c
 | none => .skip
def keepT (t : List (Nat × AV)) (ρ : Nat → Option Nat) : List Nat → Option (List (Nat × AV))
 | [] => some []
 | x :: xs => match lk t x with
  | some v => match v.ren ρ, keepT t ρ xs with
   | some v', some r => some ((x, v') :: r)
   | _, _ => none
  | none => none
def keepO (o : List (Nat × AObj)) (ρ : Nat → Option Nat) : List (Nat × Nat) → Option (List (Nat × AObj))
 | [] => some []
 | (a, b) :: xs => match lk o a with
  | some v => match v.renK ρ, keepO o ρ xs with
   | some v', some r => some ((b, v') :: r)
   | _, _ => none
  | none => none
def evenOk : List (Nat × Nat) → Bool
 | [] => true
 | (x, b) :: r => match b % 2, Nat.beq x b with
  | 0, false => false
  | _, _ => evenOk r
def lowOk : List (Nat × Nat) → Bool
 | [] => true
 | (x, b) :: r => match Nat.blt x 16, Nat.beq b x with
  | true, false => false
  | _, _ => lowOk r
def keepSt (kt : List Nat) (ko : List (Nat × Nat)) (σ : St) : Option St :=
 match nodupN (ko.map (·.1)) && nodupN (ko.map (·.2)) && evenOk ko && lowOk ko, keepT σ.t (lk ko) kt, keepO σ.o (lk ko) ko with
 | true, some t, some o => some ⟨σ.n, t, o⟩
 | _, _, _ => none
def evKeep (P : Program) (SP : SpecT) (as : List An) (k : List Item) (σ : St) (kt : List Nat) (ko : List (Nat × Nat)) : Option (List Prop × List Item × St) :=
 match evK P SP 100000 as k σ with
 | some (p, k', σ') => match keepSt kt ko σ' with
  | some σ'' => some (p, k', σ'')
  | none => none
 | none => none
end Go.Fw
