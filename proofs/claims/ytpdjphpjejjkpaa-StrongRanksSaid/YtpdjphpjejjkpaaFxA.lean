/- The abstract machine of the framework: values, local objects, and the evaluator of loaded code. Definitions only; nothing is claimed here. -/
import Derived.CallsIn
import Derived.Below
import Derived.KernelRfl
namespace Go.Fx
inductive PV where
 | int (k : IntKind) (n : Int)
 | bool (b : Bool)
 | str (s : ByteArray)
 | sl (rows : List (List PV))
 | fh (f i off len sz : Nat)
 | mp (g : Bool) (ks : List PV) (rows : List (List PV))
 | nilsl
 | nilmap
 | fn (f : Nat)
 | ow (i : Nat)
 deriving Inhabited
inductive AV where
 | undef
 | pv (p : PV)
 | agg (cells : List AV)
 | aggp (cells : List PV)
 | tup (vs : List AV)
 | fref (cells : List PV)
 | ref (n ri sz off : Nat)
 | hd (n off len sz : Nat)
 | hw (n sz : Nat)
 | mp (n : Nat)
 | fr (f i ri sz off : Nat)
 | clo (f : Nat) (caps : List AV)
 | gv (j : Nat) (t want : Bool) (v : AV)
 | ar (n sz : Nat) (rows : List (List PV))
 | sagg (cells : List AV)
 | bnd (f : Nat) (r : AV)
 | cp (rows : List (List PV))
 | nilp
 | nilf
 | hx (n len sz cap : Nat)
 | hv (n sz cap : Nat)
 | yl (n : Nat)
 deriving Inhabited
def fnV : AV → AV
 | .clo f [] => .pv (.fn f)
 | x => x
def clA : AV → AV
 | .pv (.fn f) => .clo f []
 | x => x
inductive AObj where
 | var (cells : List AV)
 | varp (cells : List PV)
 | varf (cells : List PV)
 | svar (cells : List AV)
 | sl (fz : Bool) (sz : Nat) (rows : List (List PV))
 | mp (fz g rg : Bool) (ks : List PV) (rows : List (List PV))
 | it (m n : Nat) (seen : List Nat)
 | fam (fz : Bool) (f sz : Nat) (mem : List (List (List PV)))
 | own (cs : List AV) (gs : List (Nat × Nat × Nat)) (mem : List (List (List PV))) (os : List (Nat × Nat))
 | slo (rows : List (List PV)) (m : Nat)
 | lp (ps : List Nat) (asg bdy : Code) (nt : Nat) (ks : List Nat) (vs : List AV) (js : List Code) (p : Nat)
 | dead
 deriving Inhabited
structure St where
 n : Nat
 t : List (Nat × AV)
 o : List (Nat × AObj)
def lk {α : Type} : List (Nat × α) → Nat → Option α
 | [], _ => none
 | (k, v) :: r, x => match Nat.beq k x with
  | true => some v
  | false => lk r x
def up {α : Type} : List (Nat × α) → Nat → α → List (Nat × α)
 | [], x, v => [(x, v)]
 | (k, u) :: r, x, v => match Nat.beq k x with
  | true => (k, v) :: r
  | false => (k, u) :: up r x v
def St.obj (σ : St) (n : Nat) : Option AObj := lk σ.o n
def pvOf : Value → Option PV
 | .int k n => some (.int k n)
 | .bool b => some (.bool b)
 | .string s => some (.str s)
 | .slice none 0 0 => some .nilsl
 | .map none => some .nilmap
 | _ => none
def pvsOf : List Value → Option (List PV)
 | [] => some []
 | v :: r => match pvOf v, pvsOf r with
  | some p, some ps => some (p :: ps)
  | _, _ => none
def avOf1 : Value → AV
 | .pointer none => .nilp
 | .nilFunc => .nilf
 | v => match pvOf v with
  | some p => .pv p
  | none => .undef
def avOf : Value → AV
 | .agg cs => match pvsOf cs.toList with
  | some ps => .aggp ps
  | none => match cs.toList.all (fun v => match v with | .agg _ => false | .tuple _ => false | _ => true) with
  | true => .agg (cs.toList.map avOf1)
  | false => .undef
 | v => avOf1 v
def St.ev (σ : St) : Operand → AV
 | .tmp t => (lk σ.t t).getD .undef
 | .const v => avOf v
 | .func f => .clo f []
 | .global _ => .undef
def toPVs : List AV → Option (List PV)
 | [] => some []
 | .pv p :: r => (toPVs r).map (p :: ·)
 | _ :: _ => none
def mkAgg (cs : List AV) : AV := match toPVs cs with
 | some ps => .aggp ps
 | none => .agg cs
def mkVar : AV → AObj
 | .aggp ps => .varp ps
 | .agg cs => .var cs
 | .pv p => .varp [p]
 | .ar n sz rows => .svar [.ar n sz rows]
 | .sagg cs => .svar cs
 | v => .var [v]
def flatC : List AV → List AV
 | [] => []
 | .ar _ _ rows :: r => rows.flatten.map .pv ++ flatC r
 | v :: r => v :: flatC r
def AV.cellsA : AV → List AV
 | .agg cs => cs
 | .aggp ps => ps.map .pv
 | .ar _ _ rows => rows.flatten.map .pv
 | .sagg cs => flatC cs
 | v => [v]
def AV.cellsP : AV → Option (List PV)
 | .pv p => some [p]
 | .aggp ps => some ps
 | .ar _ _ rows => some rows.flatten
 | _ => none
inductive Ann where
 | no
 | bit (b : Bool)
 | nm (n : Nat)
 | nmv (n : Nat) (v : AV)
 | nmr (n : Nat) (cs : List AV)
 | mk (n sz : Nat)
 | row (r : List PV)
 | rows (r r' : List PV) (rs : List (List PV))
 | val (v : AV)
 | obj (o : AObj)
 | sls (rs : List (List PV))
 | app (n : Nat) (rs : List (List PV))
 | appO (n : Nat) (rs : List (List PV))
 | mget (v : AV) (r : Option (List PV))
 | mset (ks : List PV) (rows : List (List PV))
 | msetK (ks : List PV) (rows : List (List PV))
 | mrow (r : List PV) (b : Bool)
 | mrowK (r : List PV) (b : Bool)
 | ent (m i : Nat) (k : PV) (r : List PV)
 | frow (n : Nat) (rows : List (List PV)) (r : List PV)
 | frows (n : Nat) (rows : List (List PV)) (r : List PV) (mem : List (List (List PV)))
 | mi (n m i : Nat) (mem : List (List (List PV))) (an : Ann)
 | call (frz imps : List Nat) (xs : List AV) (es : List AObj) (r : AV) (outs : List AObj) (news keep : List Nat)
 | fz (m : Nat) (an : Ann)
 | pre (frz : List Nat) (an : Ann)
 | sel
 | opn (j : Nat)
 deriving Inhabited
inductive Obl : Type 1 where
 | p (q : Prop)
 | e {α : Type} (a b : α)
def All : List Obl → Prop
 | [] => True
 | .p q :: r => q ∧ All r
 | .e a b :: r => a = b ∧ All r
structure Out : Type 1 where
 ob : List Obl
 v : AV
 wr : List (Nat × AObj)
def isAggT (P : Program) (t : TypeId) : Option Bool := match P.underlying t with
 | some (.struct _) => some true
 | some (.array _ _) => some true
 | some _ => some false
 | none => none
def rowAV (g : Bool) (r : List PV) : Option AV := match g with
 | true => some (.aggp r)
 | false => match r with
  | [p] => some (.pv p)
  | _ => none
def keyEq : PV → PV → Bool
 | .int _ a, .int _ b => decide (a = b)
 | _, _ => false
def mfind : List PV → List (List PV) → PV → Option (List PV)
 | k :: ks, r :: rs, x => match keyEq k x with
  | true => some r
  | false => mfind ks rs x
 | _, _, _ => none
def mput : List PV → List (List PV) → PV → List PV → List PV × List (List PV)
 | k :: ks, r :: rs, x, v => match keyEq k x with
  | true => (k :: ks, v :: rs)
  | false => (k :: (mput ks rs x v).1, r :: (mput ks rs x v).2)
 | _, _, x, v => ([x], [v])
def intKeys (k : IntKind) (ks : List PV) : Prop := ∀ p ∈ ks, ∃ n, p = .int k n
def splice {α : Type} (l : List α) (off : Nat) (ps : List α) : List α := l.take off ++ ps ++ l.drop (off + ps.length)
def cut1 {α : Type} (l : List α) (off n : Nat) : List α := (l.drop off).take n
def allNat (n : Nat) (l : List Nat) : Bool := match l with
 | [] => true
 | x :: r => match Nat.beq x n with
  | true => false
  | false => allNat n r
mutual
def AV.nms : AV → List Nat
 | .agg cs => nmsL cs
 | .sagg cs => nmsL cs
 | .tup cs => nmsL cs
 | .clo _ cs => nmsL cs
 | .gv _ _ _ v => v.nms
 | .bnd _ r => r.nms
 | .ref n _ _ _ => [n]
 | .hd n _ _ _ => [n]
 | .hw n _ => [n]
 | .hx n _ _ _ => [n]
 | .hv n _ _ => [n]
 | .yl n => [n]
 | .mp n => [n]
 | _ => []
def nmsL : List AV → List Nat
 | [] => []
 | c :: cs => c.nms ++ nmsL cs
end
def AObj.nms : AObj → List Nat
 | .var cs => nmsL cs
 | .svar cs => nmsL cs
 | .own cs _ _ os => nmsL cs ++ os.map Prod.snd
 | .slo _ m => [m]
 | .it m _ _ => [m]
 | .lp _ _ _ _ _ vs _ _ => nmsL vs
 | _ => []
def idxOf (l : List Nat) (n : Nat) (i : Nat) : Option Nat := match l with
 | [] => none
 | x :: r => match Nat.beq x n with
  | true => some i
  | false => idxOf r n (i + 1)
mutual
def AV.ren (ρ : Nat → Option Nat) : AV → Option AV
 | .agg cs => (renL ρ cs).map .agg
 | .sagg cs => (renL ρ cs).map .sagg
 | .tup cs => (renL ρ cs).map .tup
 | .clo f cs => (renL ρ cs).map (.clo f)
 | .gv j t w v => (v.ren ρ).map (.gv j t w)
 | .bnd f r => (r.ren ρ).map (.bnd f)
 | .ref n a b c => (ρ n).map fun m => .ref m a b c
 | .hd n a b c => (ρ n).map fun m => .hd m a b c
 | .hw n a => (ρ n).map fun m => .hw m a
 | .hx n a b c => (ρ n).map fun m => .hx m a b c
 | .hv n a b => (ρ n).map fun m => .hv m a b
 | .yl n => (ρ n).map .yl
 | .mp n => (ρ n).map .mp
 | v => some v
def renL (ρ : Nat → Option Nat) : List AV → Option (List AV)
 | [] => some []
 | c :: cs => match c.ren ρ, renL ρ cs with
  | some d, some ds => some (d :: ds)
  | _, _ => none
end
def AObj.ren (ρ : Nat → Option Nat) : AObj → Option AObj
 | .var cs => (renL ρ cs).map .var
 | .svar cs => (renL ρ cs).map .svar
 | .fam _ _ _ _ => none
 | .own cs gs mem [] => (renL ρ cs).map (.own · gs mem [])
 | .own _ _ _ (_ :: _) => none
 | .slo rows m => (ρ m).map (.slo rows)
 | .it m n seen => (ρ m).map fun k => .it k n seen
 | .lp ps a b nt ks vs js p => (renL ρ vs).map fun vs => .lp ps a b nt ks vs js p
 | o => some o
def AObj.renK (ρ : Nat → Option Nat) : AObj → Option AObj
 | .fam fz f sz mem => some (.fam fz f sz mem)
 | o => o.ren ρ
def renObjs (ρ : Nat → Option Nat) : List AObj → Option (List AObj)
 | [] => some []
 | o :: os => match o.ren ρ, renObjs ρ os with
  | some p, some ps => some (p :: ps)
  | _, _ => none
def objsAt (L : Nat → Option AObj) : List Nat → Option (List AObj)
 | [] => some []
 | n :: ns => match L n, objsAt L ns with
  | some o, some os => some (o :: os)
  | _, _ => none
def toIm (imps : List Nat) (n : Nat) : Option Nat := (idxOf imps n 0).map (2 * ·)
def ofIm (names : List Nat) (n : Nat) : Option Nat := match n % 2 with
 | 0 => names[n / 2]?
 | _ => none
def zipNm : List Nat → List AObj → List (Nat × AObj)
 | n :: ns, o :: os => (n, o) :: zipNm ns os
 | _, _ => []
def nodupN : List Nat → Bool
 | [] => true
 | x :: r => match allNat x r with
  | true => nodupN r
  | false => false
def frzArg (L : Nat → Option AObj) (frz : List Nat) : AV → Option (List Obl × AV)
 | .hd n off len sz => match allNat n frz, L n with
  | false, some (.sl _ sz' rows) => match Nat.beq off 0, Nat.beq sz sz' with
   | true, true => some ([.e len rows.length], .pv (.sl rows))
   | _, _ => none
  | _, _ => some ([], .hd n off len sz)
 | .hw n sz => match allNat n frz, L n with
  | false, some (.sl _ sz' rows) => match Nat.beq sz sz' with
   | true => some ([], .pv (.sl rows))
   | false => none
  | _, _ => some ([], .hw n sz)
 | .mp n => match allNat n frz, L n with
  | false, some (.mp _ g _ ks rows) => some ([], .pv (.mp g ks rows))
  | _, _ => some ([], .mp n)
 | v => some ([], v)
def frzArgs1 (L : Nat → Option AObj) (frz : List Nat) : List AV → Option (List Obl × List AV)
 | [] => some ([], [])
 | v :: r => match frzArg L frz v, frzArgs1 L frz r with
  | some (p, d), some (q, es) => some (p ++ q, d :: es)
  | _, _ => none
def frzArg2 (L : Nat → Option AObj) (frz : List Nat) : AV → Option (List Obl × AV)
 | .agg cs => match frzArgs1 L frz cs with
  | some (p, ds) => some (p, mkAgg ds)
  | none => none
 | v => frzArg L frz v
def frzArgs (L : Nat → Option AObj) (frz : List Nat) : List AV → Option (List Obl × List AV)
 | [] => some ([], [])
 | v :: r => match frzArg2 L frz v, frzArgs L frz r with
  | some (p, d), some (q, es) => some (p ++ q, d :: es)
  | _, _ => none
def frzObjs (L : Nat → Option AObj) : List Nat → Option (List (Nat × AObj))
 | [] => some []
 | n :: ns => match L n, frzObjs L ns with
  | some (.sl _ sz rows), some os => some ((n, .sl true sz rows) :: os)
  | some (.mp _ g rg ks rows), some os => some ((n, .mp true g rg ks rows) :: os)
  | some (.varp ps), some os => some ((n, .varf ps) :: os)
  | _, _ => none
end Go.Fx
