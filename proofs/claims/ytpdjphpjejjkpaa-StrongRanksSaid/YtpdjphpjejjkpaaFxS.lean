/- A function as a tree: a plain program, and the check that the loaded code computes it. Definitions only. -/
import Derived.Test.YtpdjphpjejjkpaaFxR
import Derived.Test.YtpdjphpjejjkpaaFxTc
namespace Go.Fx
def sd {α : Type} (s : Bool) (a b : α) : α := match s with
 | true => a
 | false => b
inductive T : Type 1 where
 | ok
 | bad (s : Bool)
 | v {α : Type} (a : α) (t : T)
 | all {α : Type} (f : α → T)
 | two (a b : T)
def obT (s : Bool) : List Obl → T → T
 | [], t => t
 | .p _ :: r, t => obT s r t
 | .e a b :: r, t => .v (sd s a b) (obT s r t)
def obP : List Obl → List Prop
 | [] => []
 | .p q :: r => q :: obP r
 | .e _ _ :: r => obP r
def AllP : List Prop → Prop
 | [] => True
 | p :: r => p ∧ AllP r
inductive Ex (A B C : Type) where
 | a (x : A)
 | b (x : B)
 | c (x : C)
abbrev Enc := List (Nat × AV) × List (Nat × AObj)
inductive Pt where
 | nat
 | ext (id : Nat)
inductive Xt (A : Type) where
 | inl
 | cut (pt : Pt) (out : A → Enc)
inductive Jk where
 | cond (t : Nat)
 | reg (id : Nat)
 | blk (id : Nat)
inductive Prg (P : Program) : Type → Type 1 where
 | ret {β : Type} (x : β) : Prg P β
 | no {β : Type} : Prg P β
 | br {β : Type} (c : Bool) (t f : Prg P β) : Prg P β
 | op {β γ : Type} (c : Option γ) (an : Nat → γ → Ann) (ob : γ → List Prop) (h : ∀ y, c = some y → AllP (ob y)) (k : γ → Prg P β) : Prg P β
 | call {β γ : Type} (c : Option γ) (g : Nat) (args : List AV) (ext : List AObj) (r : γ → AV) (outs : γ → List AObj) (kp : List Nat)
   (h : ∀ y, c = some y → SpecY P g args ext (r y) (outs y)) (k : γ → Prg P β) : Prg P β
 | loop {β S A B C : Type} (s0 : S) (bd : S → Prg P (Nx S (Ex A B C))) (enc : S → Enc) (xa : Xt A) (ka : A → Prg P β) (xb : Xt B) (kb : B → Prg P β) (xc : Xt C) (kc : C → Prg P β) : Prg P β
 | join {β A B C : Type} (j : Jk) (q : Prg P (Ex A B C)) (xa : Xt A) (ka : A → Prg P β) (xb : Xt B) (kb : B → Prg P β) (xc : Xt C) (kc : C → Prg P β) : Prg P β
 | both {β : Type} (c : Bool) (x0 : β) (is : β → Bool) (h : ∀ y, is y = true → y = x0) (f : Prg P β) : Prg P β
 | ask {β : Type} (c : Bool) (t f : Prg P β) : Prg P β
 | opS {β γ : Type} (d : Nat) (c : Option γ) (an : Nat → γ → Ann) (ob : γ → List Prop) (h : ∀ y, c = some y → AllP (ob y)) (k : γ → Prg P β) : Prg P β
 | mloop {β S A B C : Type} (nn : Nat) (s0 : S) (bd : List Nat → Nat → S → Prg P (Nx S (Ex A B C))) (enc : S → List Nat → Enc) (kd : S → Prg P β) (xa : Xt A) (ka : A → Prg P β) (xb : Xt B) (kb : B → Prg P β) (xc : Xt C) (kc : C → Prg P β) : Prg P β
 | rf {β γ : Type} (js : List Code) (ks : List Nat) (c : Option γ) (g : Nat) (args : List AV) (ext : List AObj) (r : γ → AV) (outs : γ → List AObj) (pe : γ → Nat)
   (h : ∀ y, c = some y → SpecY P g args ext (r y) (outs y)) (k0 k1 : γ → Prg P β) : Prg P β
 | eqo {β : Type} (b : Bool) (m : Nat) (o o' : AObj) (h : b = true → o = o') (k : Prg P β) : Prg P β
 | gs {β γ : Type} (c : Option γ) (g : γ → Gst) (hg : ∀ y, GsOk (g y)) (ob : γ → List Prop) (h : ∀ y, c = some y → AllP (ob y)) (k : γ → Prg P β) : Prg P β
 | tell {β γ : Type} (c : Option γ) (m f sz : Nat) (mem : List (List (List PV))) (o : AObj) (o' : γ → AObj) (h : ∀ y, c = some y → TellO f sz mem o (o' y)) (k : γ → Prg P β) : Prg P β
def fuel : Nat := 18446744073709551616
def br {α : Type} (b : Bool) (t f : Option α) : Option α := match b with
 | true => t
 | false => f
def bd {α β : Type} (o : Option α) (k : α → Option β) : Option β := match o with
 | some a => k a
 | none => none
def ex3 {A B C β : Type} (e : Ex A B C) (ka : A → Option β) (kb : B → Option β) (kc : C → Option β) : Option β := match e with
 | .a x => ka x
 | .b x => kb x
 | .c x => kc x
def alike {α : Type} (c : Bool) (is : α → Bool) (f : Option α) : Option α := match f with
 | some y => match c, is y with
  | true, false => none
  | _, _ => some y
 | none => none
def nx3 {S R β : Type} (e : Nx S R) (kd : S → Option β) (kr : R → Option β) : Option β := match e with
 | .cont s => kd s
 | .done r => kr r
noncomputable def Prg.run {P : Program} : {β : Type} → Prg P β → Option β
 | _, .ret x => some x
 | _, .no => none
 | _, .br c t f => Fx.br c t.run f.run
 | _, .ask c t f => Fx.br c t.run f.run
 | _, .opS _ c _ _ _ k => Fx.bd c fun y => (k y).run
 | _, .both c _ is _ f => alike c is f.run
 | _, .op c _ _ _ k => Fx.bd c fun y => (k y).run
 | _, .call c _ _ _ _ _ _ _ k => Fx.bd c fun y => (k y).run
 | _, .tell c _ _ _ _ _ _ _ k => Fx.bd c fun y => (k y).run
 | _, .eqo b _ _ _ _ k => Fx.br b k.run none
 | _, .gs c _ _ _ _ k => Fx.bd c fun y => (k y).run
 | _, .rf _ _ c _ _ _ _ _ pe _ k0 k1 => Fx.bd c fun y => Fx.br (Nat.beq (pe y) 0) (k0 y).run (k1 y).run
 | _, .loop s0 bd _ _ ka _ kb _ kc => Fx.bd (loopN fuel (fun s => (bd s).run) s0) fun e => ex3 e (fun x => (ka x).run) (fun x => (kb x).run) (fun x => (kc x).run)
 | _, .mloop nn s0 bd _ kd _ ka _ kb _ kc => Fx.bd (mapL (fun i s => runAll fun seen => (bd seen i s).run) nn s0) fun e => nx3 e (fun s => (kd s).run) fun e => ex3 e (fun x => (ka x).run) (fun x => (kb x).run) (fun x => (kc x).run)
 | _, .join _ q _ ka _ kb _ kc => Fx.bd q.run fun e => ex3 e (fun x => (ka x).run) (fun x => (kb x).run) (fun x => (kc x).run)
/-! Which name stands for which. -/
structure MS where
 frz : List Nat
 imp : List (Nat × Nat)
 gh : List (Nat × Nat)
 n : Nat
def MS.add (m : MS) (e a : Nat) : MS := match lk m.imp e with
 | some _ => m
 | none => { m with imp := m.imp ++ [(e, a)] }
def MS.addF (m : MS) (a : Nat) : MS := match memT a m.frz with
 | true => m
 | false => { m with frz := m.frz ++ [a] }
def MS.ghost (m : MS) (e sz : Nat) : MS := match lk m.imp e with
 | some _ => m
 | none => { m with imp := m.imp ++ [(e, m.n)], gh := m.gh ++ [(m.n, sz)], n := m.n + 2 }
def mtP : List PV → List AV → MS → MS
 | .nilsl :: r, .hd e _ _ sz :: s, m => mtP r s (m.ghost e sz)
 | .nilsl :: r, .hw e sz :: s, m => mtP r s (m.ghost e sz)
 | _ :: r, _ :: s, m => mtP r s m
 | _, _, m => m
mutual
def mtV : AV → AV → MS → MS
 | .hd n _ _ _, .pv (.sl _), m => m.addF n
 | .mp n, .pv (.mp _ _ _), m => m.addF n
 | .hd n _ _ _, .hd e _ _ _, m => m.add e n
 | .hw n _, .pv (.sl _), m => m.addF n
 | .hw n _, .hw e _, m => m.add e n
 | .pv .nilsl, .hw e sz, m => m.ghost e sz
 | .ref n _ _ _, .ref e _ _ _, m => m.add e n
 | .mp n, .mp e, m => m.add e n
 | .pv .nilsl, .hd e _ _ sz, m => m.ghost e sz
 | .agg cs, .agg ds, m => mtL cs ds m
 | .sagg cs, .sagg ds, m => mtL cs ds m
 | .agg cs, .aggp ds, m => mtL cs (ds.map .pv) m
 | .aggp cs, .agg ds, m => mtP cs ds m
 | .tup cs, .tup ds, m => mtL cs ds m
 | .clo _ cs, .clo _ ds, m => mtL cs ds m
 | .bnd _ c, .bnd _ d, m => mtV c d m
 | .yl n, .yl e, m => m.add e n
 | _, _, m => m
def mtL : List AV → List AV → MS → MS
 | c :: cs, d :: ds, m => mtL cs ds (mtV c d m)
 | _, _, m => m
end
def mtN : List (Nat × Nat) → List (Nat × Nat) → MS → MS
 | (_, a) :: l, (_, e) :: r, m => mtN l r (m.add e a)
 | _, _, m => m
def mtO : AObj → AObj → MS → MS
 | .var cs, .var ds, m => mtL cs ds m
 | .var cs, .varp ds, m => mtL cs (ds.map .pv) m
 | .varp cs, .var ds, m => mtP cs ds m
 | .svar cs, .svar ds, m => mtL cs ds m
 | .it n _ _, .it e _ _, m => m.add e n
 | .lp _ _ _ _ _ vs _ _, .lp _ _ _ _ _ ws _ _, m => mtL vs ws m
 | .own cs _ _ os, .own ds _ _ os', m => mtN os os' (mtL cs ds m)
 | .slo _ a, .slo _ e, m => m.add e a
 | _, _, m => m
def mtObjs (L X : Nat → Option AObj) : List (Nat × Nat) → MS → MS
 | [], m => m
 | (e, a) :: r, m => mtObjs L X r (match L a, X e with
  | some (.varp _), some (.varf _) => m.addF a
  | some o, some o' => mtO o o' m
  | _, _ => m)
def mtRounds (L X : Nat → Option AObj) : Nat → MS → MS
 | 0, m => m
 | r + 1, m => mtRounds L X r (mtObjs L X m.imp m)
def mtT (t : List (Nat × AV)) : List (Nat × AV) → MS → MS
 | [], m => m
 | (x, w) :: r, m => mtT t r (match lk t x with
  | some v => mtV v w m
  | none => m)
def swapN : List (Nat × Nat) → List (Nat × Nat)
 | [] => []
 | (a, b) :: r => (b, a) :: swapN r
/-! From one state to another one, that tells less, or tells it otherwise. -/
def ghosts : List (Nat × Nat) → St → Option St
 | [], σ => some σ
 | (n, sz) :: r, σ => match lk σ.o n, n % 2, Nat.beq sz 0 with
  | none, 1, false => ghosts r { σ with o := up σ.o n (.sl false sz []) }
  | _, _, _ => none
def frzT (L : Nat → Option AObj) (frz : List Nat) (t : List (Nat × AV)) : List (Nat × AV) → Option (List Obl × List (Nat × AV))
 | [] => some ([], [])
 | (x, _) :: r => match lk t x with
  | some v => match frzArg2 L frz v, frzT L frz t r with
   | some (p, v'), some (q, l) => some (p ++ q, (x, v') :: l)
   | _, _ => none
  | none => none
def cvT (L : Nat → Option AObj) (t : List (Nat × AV)) : List (Nat × AV) → Option (List Obl)
 | [] => some []
 | (x, w) :: r => match lk t x with
  | some v => match cvA L v w, cvT L t r with
   | some p, some q => some (p ++ q)
   | _, _ => none
  | none => none
def cvB (L : Nat → Option AObj) (o : List (Nat × AObj)) : List (Nat × AObj) → Option (List Obl)
 | [] => some []
 | (n, w) :: r => match lk o n with
  | some v => match cvO L v w, cvB L o r with
   | some p, some q => some (p ++ q)
   | _, _ => none
  | none => none
def domOk (o : List (Nat × AObj)) : List (Nat × AObj) → Bool
 | [] => true
 | (n, _) :: r => match lk o n with
  | some _ => domOk o r
  | none => false
def cutC (σ : St) (e : Enc) : Option (List Obl) :=
 match domOk e.2 σ.o, cvT σ.obj σ.t e.1, cvB σ.obj σ.o e.2 with
 | true, some p, some q => some (p ++ q)
 | _, _, _ => none
def cutB (σ : St) (e : Enc) (frz : List Nat) (ko : List (Nat × Nat)) : Option (List Obl) :=
 match frzObjs σ.obj frz, frzT σ.obj frz σ.t e.1, nodupN frz with
 | some wf, some (p, t), true => match keepSt (e.1.map (·.1)) ko ⟨σ.n, t, wrO σ.o wf⟩ with
  | some σ' => match cutC σ' e with
   | some q => some (p ++ q)
   | none => none
  | none => none
 | _, _, _ => none
def evenKeys : List (Nat × AObj) → List (Nat × Nat)
 | [] => []
 | (x, _) :: r => match x % 2, Nat.ble 16 x with
  | 0, _ => (x, x) :: evenKeys r
  | _, false => (x, x) :: evenKeys r
  | _, _ => evenKeys r
def cutM (σ : St) (e : Enc) (n : Nat) : MS := mtRounds σ.obj (lk e.2) e.2.length (mtT σ.t e.1 ⟨[], evenKeys e.2, [], n⟩)
def cutA (σ : St) (e : Enc) (n : Nat) : Option (List Obl) :=
 match ghosts (cutM σ e n).gh σ with
 | some σ' => cutB σ' e (cutM σ e n).frz (swapN (cutM σ e n).imp)
 | none => none
def pureT (s : Bool) (ob : List Obl) (t : T) : T := match obP ob with
 | [] => obT s ob t
 | _ :: _ => .bad s
def cutT (s : Bool) (N : Nat) (σ : St) (e : Enc) (n : Nat) : T := match cutA σ e n with
 | some ob => .v (sd s σ.n N) (pureT s ob .ok)
 | none => .bad s
/-! Returns. -/
def cvR (vs : List AV) (r : AV) : Option (List Obl) := match vs with
 | [v] => cvA noO v r
 | vs => match r with
  | .tup xs => cvL noO vs xs
  | _ => none
def retB (P : Program) (rs : List ResultVar) (σ : St) (nimp : Nat) (frz esc : List Nat) (r : AV) (outs : List AObj) : Option (List Obl) :=
 match retVals P σ.obj σ.t rs with
 | some vs => match frzArgs σ.obj frz vs, frzObjs σ.obj frz, nodupN (frz ++ (evens nimp 0 ++ esc)) with
  | some (p, vs'), some _, true => match renL (toIm (evens nimp 0 ++ esc)) vs', objsAt σ.obj (evens nimp 0 ++ esc) with
   | some rs', some os => match renObjs (toIm (evens nimp 0 ++ esc)) os with
    | some os' => match cvR rs' r, cvOs noO os' outs with
     | some q1, some q2 => some (p ++ (q1 ++ q2))
     | _, _ => none
    | none => none
   | _, _ => none
  | _, _, _ => none
 | none => none
def pairN : List Nat → List (Nat × Nat)
 | [] => []
 | x :: r => (x, x) :: pairN r
def atE {α : Type} (l : List α) (e : Nat) : Option α := match e % 2 with
 | 0 => l[e / 2]?
 | _ => none
def getN (l : List (Nat × Nat)) : List Nat → List Nat
 | [] => []
 | x :: r => (lk l x).getD 0 :: getN l r
def mtR (vs : List AV) (r : AV) (m : MS) : MS := match vs with
 | [v] => mtV v r m
 | vs => match r with
  | .tup xs => mtL vs xs m
  | _ => m
def retM (P : Program) (rs : List ResultVar) (σ : St) (nimp : Nat) (r : AV) (outs : List AObj) : MS :=
 mtRounds σ.obj (atE outs) outs.length (mtR ((retVals P σ.obj σ.t rs).getD []) r ⟨[], pairN (evens nimp 0), [], 0⟩)
def nilRet (rs : List ResultVar) (r : AV) (n : Nat) (σ : St) : St := match rs, r with
 | [.tmp x], .hw _ sz => match lk σ.t x, lk σ.o n, n % 2, Nat.beq sz 0 with
  | some (.pv .nilsl), none, 1, false => { σ with t := up σ.t x (.hw n sz), o := up σ.o n (.sl false sz []) }
  | _, _, _, _ => σ
 | _, _ => σ
def ownRet (ni : Nat) (rs : List ResultVar) (r : AV) (n : Nat) (σ : St) : St := match rs, r with
 | [.tmp x], .hw q _ => match Nat.blt q (2 * ni), lk σ.t x with
  | false, some (.hw e sz) => match Nat.blt e (2 * ni), lk σ.o e, lk σ.o n, n % 2 with
   | true, some (.sl false sz' rows), none, 1 => { σ with t := up σ.t x (.hw n sz), o := wrO σ.o [(e, .dead), (n, .sl false sz' rows)] }
   | _, _, _, _ => σ
  | _, _ => σ
 | _, _ => σ
def backRet (ni : Nat) (rs : List ResultVar) (r : AV) (n : Nat) (σ : St) : St := ownRet ni rs r n (nilRet rs r n σ)
def retT (P : Program) (s : Bool) (rs : List ResultVar) (nimp : Nat) (k : List Item) (σ : St) (r : AV) (outs : List AObj) : T :=
 match retB P rs σ nimp (retM P rs σ nimp r outs).frz (getN (retM P rs σ nimp r outs).imp (evens (outs.length - nimp) nimp)) r outs with
 | some ob => match k with
  | [] => pureT s ob .ok
  | .code .ret :: _ => pureT s ob .ok
  | _ => .bad s
 | none => .bad s
/-! Calls. -/
def callM (σ : St) (args xs : List AV) (es : List AObj) : MS :=
 mtRounds σ.obj (atE es) es.length (mtL args xs ⟨[], [], [], 0⟩)
def odds : Nat → Nat → List Nat
 | 0, _ => []
 | k + 1, n => n :: odds k (n + 2)
def callAnn (σ : St) (args xs : List AV) (es : List AObj) (r : AV) (outs : List AObj) (n : Nat) (kp : List Nat := []) : Ann :=
 .call (callM σ args xs es).frz (getN (callM σ args xs es).imp (evens es.length 0)) xs es r outs (odds (outs.length - es.length) n) (getN (callM σ args xs es).imp kp)
def calleeA (σ : St) (op : Op) : Option (Nat × List AV) := match op with
 | .call c => match c.callee with
  | .value f => match clA (σ.ev f) with
   | .clo g caps => some (g, c.args.toList.map σ.ev ++ caps)
   | .bnd g r => some (g, r :: c.args.toList.map σ.ev)
   | .yl n => some (yId, .yl n :: c.args.toList.map σ.ev)
   | _ => none
  | _ => none
 | _ => none
/-! How an operation is taken. -/
abbrev Kn := List (Nat × Bool)
def knOf (kn : Kn) : Operand → Option Bool
 | .tmp t => lk kn t
 | .const (.bool b) => some b
 | _ => none
def knDel (d : Nat) : Kn → Kn
 | [] => []
 | (x, b) :: r => match Nat.beq x d with
  | true => knDel d r
  | false => (x, b) :: knDel d r
def knPut (kn : Kn) (d : Nat) : Option Bool → Kn
 | some b => (d, b) :: knDel d kn
 | none => knDel d kn
def knUp (kn : Kn) (o : Oper) : Kn := match o.dst with
 | none => kn
 | some d => match o.op with
  | .move x => knPut kn d (knOf kn x)
  | .assign x => knPut kn d (knOf kn x)
  | .pick c x y => match knOf kn c with
   | some true => knPut kn d (knOf kn x)
   | some false => knPut kn d (knOf kn y)
   | none => knDel d kn
  | _ => knDel d kn
def knSkip (kn : Kn) (o : Oper) : Kn := match o.dst with
 | none => kn
 | some d => knDel d kn
def notNil : Operand → Bool
 | .const (.slice none _ _) => false
 | _ => true
def pureOp : Op → Bool
 | .move _ => true
 | .assign _ => true
 | .pick _ _ _ => true
 | .build _ _ => true
 | .binOp op _ _ y _ => match op with
  | .quo => isConst y
  | .rem => isConst y
  | .shl => isConst y
  | .shr => isConst y
  | .eql => notNil y
  | .neq => notNil y
  | _ => true
 | .unOp _ _ _ => true
 | .convert _ _ _ => true
 | .field _ _ _ => true
 | .extract _ _ => true
 | .call c => match c.callee with
  | .builtin .len => true
  | .builtin .min => true
  | .builtin .max => true
  | _ => false
 | _ => false
def pureG (ops : Array Oper) : Nat → Nat → Bool
 | 0, _ => false
 | f + 1, j => (List.range ops.size).all fun i => match ops[i]? with
  | some o => match o.guard with
   | some (j', _) => match Nat.beq j' j with
    | true => pureOp o.op && pureG ops f i
    | false => true
   | none => true
  | none => true
def frzN (L : Nat → Option AObj) : AV → List Nat
 | .hd n _ _ _ => match L n with
  | some (.sl false _ _) => [n]
  | _ => []
 | .hw n _ => match L n with
  | some (.sl false _ _) => [n]
  | _ => []
 | .mp n => match L n with
  | some (.mp false _ _ _ _) => [n]
  | _ => []
 | .agg cs => frzNs L cs
 | _ => []
where frzNs (L : Nat → Option AObj) : List AV → List Nat
 | [] => []
 | .hd n _ _ _ :: r => match L n with
  | some (.sl false _ _) => n :: frzNs L r
  | _ => frzNs L r
 | .hw n _ :: r => match L n with
  | some (.sl false _ _) => n :: frzNs L r
  | _ => frzNs L r
 | .mp n :: r => match L n with
  | some (.mp false _ _ _ _) => n :: frzNs L r
  | _ => frzNs L r
 | _ :: r => frzNs L r
def dedN : List Nat → List Nat
 | [] => []
 | x :: r => match memT x (dedN r) with
  | true => dedN r
  | false => x :: dedN r
inductive Om where
 | sil (an : Ann) (kp : Nat)
 | node (frz : List Nat)
 | call
 | split (t : Bool) (tj : Nat)
 | bad
def isSl (L : Nat → Option AObj) : AV → Bool
 | .ref n _ sz _ => match L n with
  | some (.sl _ _ _) => true
  | some (.svar _) => match Nat.beq sz 0 with
   | true => false
   | false => true
  | some (.own _ _ _ _) => match Nat.beq sz 0 with
   | true => false
   | false => true
  | some (.slo _ _) => true
  | _ => false
 | .fr _ _ _ _ _ => true
 | _ => false
def isOwnR (L : Nat → Option AObj) : AV → Bool
 | .ref n _ _ _ => match L n with
  | some (.own _ _ _ _) => true
  | some (.slo _ _) => true
  | _ => false
 | _ => false
def isArr (P : Program) (t : TypeId) : Bool := match P.underlying t with
 | some (.array _ _) => true
 | _ => false
def nilCmp : AV → AV → Bool
 | .pv (.sl _), .pv .nilsl => true
 | .ar _ _ _, .ar _ _ _ => true
 | _, _ => false
def segOf (P : Program) : Nat → TypeId → List AV → List AV × List AV
 | 0, _, l => ([], l)
 | f + 1, t, l => match P.underlying t with
  | some (.array n e) => match Nat.ble n 6 with
   | true => (l.take (P.cellsOf t), l.drop (P.cellsOf t))
   | false => match bigE P e with
    | some (m, c) => ([.ar (n * m) c (chunk (n * m) c (((toPVs (l.take (n * m * c))).getD []).map nz))], l.drop (n * m * c))
    | none => ([.ar n (P.cellsOf e) (chunk n (P.cellsOf e) (((toPVs (l.take (n * P.cellsOf e))).getD []).map nz))], l.drop (n * P.cellsOf e))
  | some (.struct fs) => segFs (segOf P f) (fs.toList.map (·.type)) l
  | _ => (l.take (P.cellsOf t), l.drop (P.cellsOf t))
where segFs (r : TypeId → List AV → List AV × List AV) : List TypeId → List AV → List AV × List AV
 | [], l => ([], l)
 | t :: ts, l => match r t l with
  | (a, l') => match segFs r ts l' with
   | (b, l'') => (a ++ b, l'')
def bigV (P : Program) (t : TypeId) (z : AV) : Option AV := match segOf P 9 t z.cellsA with
 | (cs, _) => match cs.any isArV with
  | false => none
  | true => match cs with
   | [.ar n sz rows] => match P.underlying t with
    | some (.array _ _) => some (.ar n sz rows)
    | _ => some (.sagg cs)
   | cs => some (.sagg cs)
def arrRows (P : Program) (t : TypeId) (o : Option AObj) : Option (List (List PV)) := match P.underlying t, o with
 | some (.array len e), some (.varp ps) => some (rowsC (P.cellsOf e) len ps)
 | some (.array len e), some (.varf ps) => some (rowsC (P.cellsOf e) len ps)
 | _, _ => none
def opM (P : Program) (kn : Kn) (σ : St) (n : Nat) (op : Op) : Om := match op with
 | .pick c x y => match knOf kn c with
  | some b => .sil (.bit b) 1
  | none => match pickG c x y σ.ev with
   | some _ => .sil .sel 0
   | none => match c, σ.ev c with
    | .tmp j, .pv (.bool t) => .split t j
    | _, _ => .bad
 | .binOp op _ x y _ => match op with
  | .quo => match isConst y with | true => .sil .no 0 | false => .node []
  | .rem => match isConst y with | true => .sil .no 0 | false => .node []
  | .shl => match isConst y with | true => .sil .no 0 | false => .node []
  | .shr => match isConst y with | true => .sil .no 0 | false => .node []
  | .eql => match nilCmp (σ.ev x) (σ.ev y) with | true => .node [] | false => .sil .no 0
  | .neq => match nilCmp (σ.ev x) (σ.ev y) with | true => .node [] | false => .sil .no 0
  | _ => .sil .no 0
 | .alloc t => match (zeroA P t).bind (bigV P t) with
  | some v => .sil (.nmv n v) 0
  | none => .sil (.nm n) 0
 | .box t x => match σ.ev x with
  | .agg cs => match bigV P t (.agg cs) with
   | some v => .sil (.nmv n v) 0
   | none => .sil (.nm n) 0
  | .aggp ps => match bigV P t (.aggp ps) with
   | some v => .sil (.nmv n v) 0
   | none => .sil (.nm n) 0
  | _ => .sil (.nm n) 0
 | .range _ _ => .sil (.nm n) 0
 | .makeMap _ _ => .sil (.nm n) 0
 | .buildSlice _ _ ps => .sil (.pre (dedN (frzN.frzNs σ.obj (ps.toList.map fun x => σ.ev x.2) ++ (ps.toList.map fun x => frzN σ.obj (σ.ev x.2)).flatten)) (.nm n)) 0
 | .load _ p => match isSl σ.obj (σ.ev p) with
  | true => .node []
  | false => .sil .no 0
 | .store _ p x => match isSl σ.obj (σ.ev p) with
  | true => match isOwnR σ.obj (σ.ev p) with
   | true => .node []
   | false => .node (dedN (frzN σ.obj (σ.ev x)))
  | false => .sil .no 0
 | .indexAddr t _ i => match isArr P t && isConst i with
  | true => .sil (.row []) 0
  | false => .node []
 | .index _ x i => match isConst i, σ.ev x with
  | true, .aggp _ => .sil (.row []) 0
  | _, _ => .node []
 | .sliceToArrayPointer _ _ => .node []
 | .slice _ x lo _ (some _) => match lo with
  | none => .node (dedN (frzN σ.obj (σ.ev x)))
  | some _ => .node []
 | .slice t x lo hi none => match σ.ev x, lo, hi with
  | .ref m _ _ _, none, none => match arrRows P t (σ.obj m) with
   | some rs => .sil (.appO m rs) 0
   | none => .bad
  | .hd _ _ _ _, none, none => .sil .no 0
  | .hw _ _, none, none => .sil .no 0
  | _, _, _ => .node []
 | .makeSlice _ _ _ => .node []
 | .lookup _ _ _ _ => .node []
 | .mapUpdate _ _ _ x => .node (dedN (frzN σ.obj (σ.ev x)))
 | .insert _ _ _ x => .node (dedN (frzN σ.obj (σ.ev x)))
 | .entry _ => .node []
 | .call c => match c.callee with
  | .builtin .append => .node []
  | .builtin .delete => .node []
  | .builtin .copy => .node []
  | .builtin .clear => .node []
  | .builtin _ => .sil .no 0
  | .value _ => .call
  | _ => .bad
 | _ => .sil .no 0
inductive Gm where
 | go (gb : Option Bool) (act : Bool)
 | split (t : Bool) (tj : Nat)
 | bad
def quietMove (o : Oper) (σ : St) : Bool := match o.op with
 | .move x => (σ.ev x).nms.isEmpty
 | _ => true
def guardM (ops : Array Oper) (o : Oper) (kn : Kn) (σ : St) : Gm := match o.guard with
 | none => .go none true
 | some (j, want) => match (ops[j]?).bind (·.dst) with
  | none => .bad
  | some tj => match lk kn tj with
   | some b => .go (some b) (want == b)
   | none => match lk σ.t tj with
    | some (.pv (.bool t)) => match pureG ops ops.size j && quietMove o σ with
     | true => .go none false
     | false => .split t tj
    | some _ => .go none false
    | none => .bad
def preAnn (frz : List Nat) (an : Ann) : Ann := match frz with
 | [] => an
 | _ :: _ => .pre frz an
def gbN : Option Bool → Nat
 | some _ => 1
 | none => 0
def firstReady (ops : Array Oper) (l : Array Bool) : List Nat → Option Nat
 | [] => none
 | i :: r => match l.getD i false, (predsN ops i).all fun z => l.getD z false with
  | false, true => some i
  | _, _ => firstReady ops l r
def sortN (ops : Array Oper) : Nat → Array Bool → List Nat
 | 0, _ => []
 | f + 1, l => match firstReady ops l (List.range ops.size) with
  | some i => i :: sortN ops f (l.setIfInBounds i true)
  | none => []
def planOf (ops : Array Oper) : List Nat := match topoB ops (Array.replicate ops.size false) (List.range ops.size) with
 | true => List.range ops.size
 | false => sortN ops ops.size (Array.replicate ops.size false)
def drawPre (P : Program) (ops : Array Oper) (plan : List Nat) : Bool :=
 nodupN plan && ltN ops.size plan && Nat.beq plan.length ops.size && P.follows .mixedOrders && topoB ops (Array.replicate ops.size false) plan && selN ops
def nilO (P : Program) (o : Oper) (σ : St) : Option (List (List PV)) := match o.guard, o.op with
 | none, .binOp .eql t x y _ => match P.underlying t, σ.ev x, σ.ev y with
  | some (.slice _), .pv (.sl rows), .pv .nilsl => some rows
  | _, _, _ => none
 | _, _ => none
def knB (kn : Kn) (o : Oper) (b : Bool) : Kn := match o.dst with
 | some d => (d, b) :: knSkip kn o
 | none => knSkip kn o
/-! The check. -/
inductive Md where
 | it (k : List Item)
 | rg (draw : Bool) (ops : Array Oper) (l : List Nat) (tr : List Foot) (k : List Item)
def fire (n0 : Nat) : List Item → Bool
 | .code .ret :: _ => true
 | .code (.exit id) :: k => match exitTo id k with
  | none => true
  | some _ => Nat.ble (k.length + 1) n0
 | k => Nat.ble k.length n0
def ptItems (k0 : List Item) : Pt → Option (List Item)
 | .nat => some k0
 | .ext id => exitTo id k0
def enc (N : Nat) (e : Enc) : St := ⟨N, e.1, e.2⟩
def jk (j : Jk) : List Item → Bool
 | .code (.cond c _ _) :: _ => match j, c with | .cond t, .tmp x => Nat.beq t x | _, _ => false
 | .code (.region id _ _) :: _ => match j with | .reg i => Nat.beq i id | _ => false
 | .code (.block id _) :: _ => match j with | .blk i => Nat.beq i id | _ => false
 | _ => false
def tailI : List Item → List Item
 | [] => []
 | _ :: k => k
def footN (draw : Bool) (tr : List Foot) (x : Foot) : List Foot := match draw with
 | true => tr ++ [x]
 | false => []
def leaf1 {P : Program} {A β : Type} (s : Bool) (E : Prg P β → Nat → Md → St → T) (N : Nat) (k0 : List Item) (xt : Xt A) (ka : A → Prg P β) (x : A) (n : Nat) (k : List Item) (σ : St) : T := match xt with
 | .inl => E (ka x) n (.it k) σ
 | .cut pt out => match ptItems k0 pt with
  | some kk => .v (sd s k kk) (cutT s N σ (out x) n)
  | none => .bad s
def cont1 {P : Program} {A β : Type} (s : Bool) (E : Prg P β → Nat → Md → St → T) (N : Nat) (k0 : List Item) (xt : Xt A) (ka : A → Prg P β) (n : Nat) : T := match xt with
 | .inl => .ok
 | .cut pt out => match ptItems k0 pt with
  | some kk => .all fun x => E (ka x) n (.it kk) (enc N (out x))
  | none => .bad s
def brT {P : Program} {β : Type} (s : Bool) (E : Prg P β → Bool → T) (t : Bool) (p : Prg P β) : T := match p with
 | .br c x y => .v (sd s t c) (.two (E x true) (E y false))
 | .no => .ok
 | _ => .bad s
abbrev Lf (β : Type) : Type 1 := β → Nat → List Item → St → T
def stepI {β : Type} (P : Program) (s : Bool) (E : Prg P β → Nat → Kn → Md → St → T) (p : Prg P β) (n : Nat) (kn : Kn) (k : List Item) (σ : St) : T := match k with
 | .code (.seq a b) :: k => E p n kn (.it (.code a :: .code b :: k)) σ
 | .code (.block id c) :: k => E p n kn (.it (.code c :: .inBlock id :: k)) σ
 | .code .skip :: k => E p n kn (.it k) σ
 | .inBlock _ :: k => E p n kn (.it k) σ
 | .code (.scope c) :: k => E p n kn (.it (.code c :: .inScope c :: k)) σ
 | .inScope _ :: k => E p n kn (.it k) σ
 | .code (.label _) :: k => E p n kn (.it k) σ
 | .code (.exit id) :: k => match exitTo id k with
  | some k' => E p n kn (.it k') σ
  | none => .bad s
 | .code (.region _ ops draw) :: k => match draw with
  | false => E p n kn (.rg false ops (List.range ops.size) [] k) σ
  | true => match drawPre P ops (planOf ops) with
   | true => E p n kn (.rg true ops (planOf ops) [] k) σ
   | false => .bad s
 | .code (.cond c x y) :: k => match knOf kn c with
  | some b => match σ.ev c with
   | .pv (.bool _) => E p n kn (.it (.code (match b with | true => x | false => y) :: k)) σ
   | _ => .bad s
  | none => match c, σ.ev c with
   | .tmp tj, .pv (.bool t) => brT s (fun q b => E q n ((tj, b) :: kn) (.it (.code (match b with | true => x | false => y) :: k)) σ) t p
   | _, _ => .bad s
 | .code (.loop c) :: k => E p n kn (.it (.inLoop c :: k)) σ
 | _ => .bad s
inductive Pre (P : Program) (β : Type) : Type 1 where
 | ask (t f : Prg P β)
 | eqo (m : Nat) (o o' : AObj) (k : Prg P β)
def askOf {P : Program} {β : Type} : Prg P β → Option (Pre P β)
 | .ask _ t f => some (.ask t f)
 | .eqo _ m o o' _ k => some (.eqo m o o' k)
 | _ => none
def isS {P : Program} {β : Type} (p : Prg P β) (o : Oper) : Bool := match p, o.dst with
 | .opS d _ _ _ _ _, some d' => Nat.beq d d'
 | _, _ => false
/-! Rounds over a map. -/
def unroll : Nat → List Item → List Item
 | f + 1, .code (.seq a b) :: k => unroll f (.code a :: .code b :: k)
 | f + 1, .code (.block id c) :: k => unroll f (.code c :: .inBlock id :: k)
 | f + 1, .code (.scope c) :: k => unroll f (.code c :: .inScope c :: k)
 | _, k => k
def mapHead (k : List Item) : Option (Code × Tmp × Tmp × Tmp × List Item) := match k with
 | .code c :: kp => match nextOf c with
  | some (it, d0, d1) => some (c, it, d0, d1, kp)
  | none => none
 | _ => none
structure ItD where
 n : Nat
 m : Nat
 nn : Nat
 seen : List Nat
 len : Nat
def itOf (σ : St) (it : Nat) : Option ItD := match lk σ.t it with
 | some (.ref n 0 0 0) => match lk σ.o n with
  | some (.it m nn seen) => match lk σ.o m with
   | some (.mp _ _ true ks _) => some ⟨n, m, nn, seen, ks.length⟩
   | _ => none
  | _ => none
 | _ => none
def stT (σ : St) (d : ItD) (d0 d1 : Nat) (l : List Nat) : St := { σ with t := up (up σ.t d0 .undef) d1 (.pv (.bool true)), o := up σ.o d.n (.it d.m d.nn l) }
def stF (σ : St) (d0 d1 : Nat) : St := { σ with t := up (up σ.t d0 .undef) d1 (.pv (.bool false)) }
def lp0 (ps : Array Tmp) (asg bdy : Code) (ks : List Nat) (js : List Code) (σ : St) : AObj := .lp ps.toList asg bdy σ.n ks (ks.map fun t => (lk σ.t t).getD .undef) js 0
def rfFn (P : Program) (g : Nat) : Bool := match P.funcs[g]? with
 | some fn => match fn.body, fn.name == "runtime.NumGoroutine" with
  | some _, false => true
  | _, _ => false
 | none => false
def rfJ (s : Bool) (js : List Code) (E : Code → T) : T := match js with
 | [] => .ok
 | [c] => E c
 | _ => .bad s
def ev (P : Program) (s : Bool) : Nat → {β : Type} → Prg P β → Nat → Lf β → Nat → Kn → Md → St → T
 | 0, _, _, _, _, _, _, _, _ => .bad s
 | f + 1, _, p, n0, lf, n, kn, .rg draw ops [] tr k, σ => match draw && !pairsN ops tr with
  | false => ev P s f p n0 lf n kn (.it k) σ
  | true => .bad s
 | f + 1, _, p, n0, lf, n, kn, .rg draw ops (i :: l) tr k, σ => match askOf p with
  | some (.eqo m o o' pk) => match lk σ.o m with
   | some o1 => .v (sd s o1 o) (ev P s f pk n0 lf n kn (.rg draw ops (i :: l) tr k) { σ with o := up σ.o m o' })
   | none => .bad s
  | some (.ask pt pu) => .two (ev P s f pt n0 lf n kn (.rg draw ops (i :: l) tr k) σ) (ev P s f pu n0 lf n kn (.rg draw ops (i :: l) tr k) σ)
  | none => match ops[i]? with
  | none => .bad s
  | some o => match guardM ops o kn σ with
   | .bad => .bad s
   | .split t tj => brT s (fun q b => ev P s f q n0 lf n ((tj, b) :: kn) (.rg draw ops (i :: l) tr k) σ) t p
   | .go gb false => match opN P (SpecY P) ops o gb .no σ with
    | some out => match nextN σ o out with
     | some σ' => match (obP out.ob).drop (gbN gb) with
      | [] => obT s out.ob (ev P s f p n0 lf (n + 2) (knSkip kn o) (.rg draw ops l (footN draw tr ⟨i, out, lookN σ o .no⟩) k) σ')
      | _ :: _ => .bad s
     | none => .bad s
    | none => .bad s
   | .go gb true => match opM P kn σ n o.op with
    | .bad => .bad s
    | .split t tj => brT s (fun q b => ev P s f q n0 lf n ((tj, b) :: kn) (.rg draw ops (i :: l) tr k) σ) t p
    | .sil an kp => match isS p o with
     | true => match p with
      | .opS _ _ an ob _ kk => .all fun y => match opN P (SpecY P) ops o gb (an n y) σ with
       | some out => match nextN σ o out with
        | some σ' => .v (sd s ((obP out.ob).drop (gbN gb)) (ob y)) (obT s out.ob (ev P s f (kk y) n0 lf (n + 2) (knSkip kn o) (.rg draw ops l (footN draw tr ⟨i, out, lookN σ o (an n y)⟩) k) σ'))
        | none => .bad s
       | none => .bad s
      | _ => .bad s
     | false => match opN P (SpecY P) ops o gb an σ with
      | some out => match nextN σ o out with
       | some σ' => match (obP out.ob).drop (gbN gb + kp) with
        | [] => obT s out.ob (ev P s f p n0 lf (n + 2) (knUp kn o) (.rg draw ops l (footN draw tr ⟨i, out, lookN σ o an⟩) k) σ')
        | _ :: _ => .bad s
       | none => .bad s
      | none => .bad s
    | .node frz => match p with
     | .op _ an ob _ kk => .all fun y => match opN P (SpecY P) ops o gb (preAnn frz (an n y)) σ with
      | some out => match nextN σ o out with
       | some σ' => .v (sd s ((obP out.ob).drop (gbN gb)) (ob y)) (obT s out.ob (ev P s f (kk y) n0 lf (n + 2) (knUp kn o) (.rg draw ops l (footN draw tr ⟨i, out, lookN σ o (preAnn frz (an n y))⟩) k) σ'))
       | none => .bad s
      | none => .bad s
     | .both c x0 _ _ pf => match draw, nilO P o σ, nextN σ o ⟨[], .pv (.bool true), []⟩, nextN σ o ⟨[], .pv (.bool false), []⟩ with
      | false, some rows, some σt, some σf => .v (sd s rows.isEmpty c) (.two (ev P s f (.ret x0) n0 lf (n + 2) (knB kn o true) (.rg false ops l [] k) σt) (ev P s f pf n0 lf (n + 2) (knB kn o false) (.rg false ops l [] k) σf))
      | _, _, _, _ => .bad s
     | .no => .ok
     | _ => .bad s
    | .call => match p, calleeA σ o.op with
     | .call _ g xs es r outs kp _ kk, some (g', args) => .v (sd s g' g) (.all fun y => match opN P (SpecY P) ops o gb (callAnn σ args xs es (r y) (outs y) n kp) σ with
      | some out => match nextN σ o out with
       | some σ' => .v (sd s ((obP out.ob).drop (gbN gb)) [SpecY P g xs es (r y) (outs y)]) (obT s out.ob (ev P s f (kk y) n0 lf (n + 100) (knUp kn o) (.rg draw ops l (footN draw tr ⟨i, out, lookN σ o (callAnn σ args xs es (r y) (outs y) n kp)⟩) k) σ'))
       | none => .bad s
      | none => .bad s)
     | .no, _ => .ok
     | _, _ => .bad s
 | f + 1, β, p, n0, lf, n, kn, .it k, σ =>
  match p with
  | .no => .ok
  | .ask _ pt pu => .two (ev P s f pt n0 lf n kn (.it k) σ) (ev P s f pu n0 lf n kn (.it k) σ)
  | .ret x => match fire n0 k with
   | true => lf x n k σ
   | false => stepI P s (fun q n kn md σ => ev P s f q n0 lf n kn md σ) p n kn k σ
  | .join (A := A) (B := B) (C := C) j q xa ka xb kb xc kc => match jk j k with
   | true =>
    let E : Prg P β → Nat → Md → St → T := fun p n md σ => ev P s f p n0 lf n [] md σ
    let k0 := tailI k
    .two (ev P s f q k0.length (fun e n k σ1 => match e with
     | .a x => leaf1 s E σ.n k0 xa ka x n k σ1
     | .b x => leaf1 s E σ.n k0 xb kb x n k σ1
     | .c x => leaf1 s E σ.n k0 xc kc x n k σ1) n kn (.it k) σ)
     (.two (cont1 s E σ.n k0 xa ka n) (.two (cont1 s E σ.n k0 xb kb n) (cont1 s E σ.n k0 xc kc n)))
   | false => stepI P s (fun q n kn md σ => ev P s f q n0 lf n kn md σ) p n kn k σ
  | .loop s0 bd en xa ka xb kb xc kc => match k with
   | .inLoop c :: k0 =>
    let E : Prg P β → Nat → Md → St → T := fun p n md σ => ev P s f p n0 lf n [] md σ
    .two (cutT s σ.n σ (en s0) n) (.two (.all fun s1 => ev P s f (bd s1) (k0.length + 1) (fun nx n k σ1 => match nx with
     | .cont s2 => .v (sd s k (.inLoop c :: k0)) (cutT s σ.n σ1 (en s2) n)
     | .done e => match e with
      | .a x => leaf1 s E σ.n k0 xa ka x n k σ1
      | .b x => leaf1 s E σ.n k0 xb kb x n k σ1
      | .c x => leaf1 s E σ.n k0 xc kc x n k σ1) n [] (.it (.code c :: .inLoop c :: k0)) (enc σ.n (en s1)))
     (.two (cont1 s E σ.n k0 xa ka n) (.two (cont1 s E σ.n k0 xb kb n) (cont1 s E σ.n k0 xc kc n))))
   | _ => stepI P s (fun q n kn md σ => ev P s f q n0 lf n kn md σ) p n kn k σ
  | .mloop nn s0 bd en kd xa ka xb kb xc kc => match k with
   | .inLoop c :: k0 => match mapHead (unroll 100 (.code c :: .inLoop c :: k0)) with
    | some (_, it, d0, d1, kp) => match Nat.blt d0 σ.n && Nat.blt d1 σ.n with
     | true =>
      let E : Prg P β → Nat → Md → St → T := fun p n md σ => ev P s f p n0 lf n [] md σ
      .two (cutT s σ.n σ (en s0 []) n) (.two (.all fun s1 => .all fun seen => match itOf (enc σ.n (en s1 seen)) it with
       | some d => .v (sd s (d.nn, d.seen, d.len) (nn, seen, nn)) (.two
        (.all fun i => ev P s f (bd seen i s1) (k0.length + 1) (fun nx n k σ1 => match nx with
         | .cont s2 => .v (sd s k (.inLoop c :: k0)) (cutT s σ.n σ1 (en s2 (i :: seen)) n)
         | .done e => match e with
          | .a x => leaf1 s E σ.n k0 xa ka x n k σ1
          | .b x => leaf1 s E σ.n k0 xb kb x n k σ1
          | .c x => leaf1 s E σ.n k0 xc kc x n k σ1) n [(d1, true)] (.it kp) (stT (enc σ.n (en s1 seen)) d d0 d1 (i :: seen)))
        (ev P s f (kd s1) n0 lf n [(d1, false)] (.it kp) (stF (enc σ.n (en s1 seen)) d0 d1)))
       | none => .bad s) (.two (cont1 s E σ.n k0 xa ka n) (.two (cont1 s E σ.n k0 xb kb n) (cont1 s E σ.n k0 xc kc n))))
     | false => .bad s
    | none => .bad s
   | _ => stepI P s (fun q n kn md σ => ev P s f q n0 lf n kn md σ) p n kn k σ
  | .eqo _ m o o' _ pk => match lk σ.o m with
   | some o1 => .v (sd s o1 o) (ev P s f pk n0 lf n kn (.it k) { σ with o := up σ.o m o' })
   | none => .bad s
  | .gs _ g _ ob _ kk => .all fun y => match g y σ with
   | some (l, σ') => .v (sd s (obP l) (ob y)) (obT s l (ev P s f (kk y) n0 lf n [] (.it k) σ'))
   | none => .bad s
  | .tell _ m g sz mem o o' _ kk => match lk σ.o 3, lk σ.o m, Nat.beq m 3 with
   | some (.fam false g1 sz1 mem1), some o1, false => .v (sd s (g1, sz1, mem1, o1) (g, sz, mem, o)) (.all fun y => ev P s f (kk y) n0 lf n kn (.it k) { σ with o := up (up σ.o 3 (.fam true g1 sz1 mem1)) m (o' y) })
   | _, _, _ => .bad s
  | .rf js ks _ g xs es r outs pe _ kk0 kk1 => match k with
   | .code (.rangeFunc fo ps asg bdy) :: k0 => match clA (σ.ev fo), lk σ.o n, n % 2 with
    | .clo g' caps, none, 1 => match rfFn P g' with
     | true => .v (sd s g' g) (.all fun y => match callA (SpecY P) (St.obj { σ with o := up σ.o n (lp0 ps asg bdy ks js σ) }) g' (.yl n :: caps) (callAnn { σ with o := up σ.o n (lp0 ps asg bdy ks js σ) } (.yl n :: caps) xs es (r y) (outs y) (n + 2)) with
      | some out => match lk (wrO (up σ.o n (lp0 ps asg bdy ks js σ)) out.wr) n with
       | some (.lp _ _ _ _ _ _ js' p') => .v (sd s (obP out.ob) [SpecY P g xs es (r y) (outs y)]) (.v (sd s (js', p') (js, pe y)) (obT s out.ob (.two
         (ev P s f (kk0 y) n0 lf (n + 100) kn (.it k0) { σ with o := up (wrO (up σ.o n (lp0 ps asg bdy ks js σ)) out.wr) n .dead })
         (rfJ s js fun c => ev P s f (kk1 y) n0 lf (n + 100) kn (.it (.code c :: k0)) { σ with o := up (wrO (up σ.o n (lp0 ps asg bdy ks js σ)) out.wr) n .dead }))))
       | _ => .bad s
      | none => .bad s)
     | false => .bad s
    | _, _, _ => .bad s
   | _ => stepI P s (fun q n kn md σ => ev P s f q n0 lf n kn md σ) p n kn k σ
  | _ => stepI P s (fun q n kn md σ => ev P s f q n0 lf n kn md σ) p n kn k σ
end Go.Fx
