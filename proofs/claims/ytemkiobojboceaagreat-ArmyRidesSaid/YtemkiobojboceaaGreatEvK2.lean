/- The order in which a region that leaves its order open is reckoned, and what is asked again on the way; then code and calls. Definitions alone. -/
import Derived.Test.YtemkiobojboceaaGreatEvK1
namespace Go.Proofs.YtemkiobojboceaaGreat.Ev
open Go
set_option linter.unusedVariables false

section plan
/-- 0: it reckons with what it is handed alone; 1: it looks into memory, and no more; 2: a variable is made; 3: it acts -/
noncomputable def callKind (c : Call) : Nat := Callee.casesOn c.callee (fun _ => 3) (fun _ _ => 3) (fun b => Builtin.casesOn b 3 3 3 3 3 3 3 3 1 3 0 0 3 3 3 3 3 3 3 3 3 3 3 3 3 3)
noncomputable def opKind (o : Op) : Nat := Op.casesOn o (fun _ => 0) (fun _ => 0) (fun _ _ _ => 0) (fun _ => 2) (fun _ _ => 3) (fun _ _ => 0) (fun _ _ _ => 3) (fun _ _ _ _ => 3) (fun _ _ => 1) (fun _ _ _ => 3) (fun _ => 3) (fun _ => 3) (fun _ => 0) (fun _ _ _ _ _ => 0) (fun _ _ _ => 0) (fun _ _ _ => 1) (fun _ _ => 3) (fun _ _ => 0) (fun _ _ _ => 0) (fun _ _ => 3) (fun _ _ => 3) (fun _ _ _ => 3) (fun _ _ _ _ _ => 1) (fun _ _ _ => 0) (fun _ _ _ => 0) (fun _ _ _ => 0) (fun _ _ _ => 0) (fun _ _ _ _ => 1) (fun _ _ _ _ => 3) (fun _ _ _ => 3) (fun _ _ _ _ => 3) (fun _ _ => 3) (fun _ _ => 3) (fun _ => 1) (fun _ _ _ _ => 3) (fun _ _ => 0) callKind (fun _ => 3) (fun _ => 3) (fun _ => 3) (fun _ _ => 3) (fun _ _ _ => 3) (fun _ _ => 3)
noncomputable def reads (o : Op) : Bool := Nat.beq (opKind o) 1
noncomputable def quiet (o : Op) : Bool := Nat.blt (opKind o) 2
/-- an edge that binds in every order -/
noncomputable def binding (e : Edge) : Bool := Ground.casesOn e.ground true true true true (fun _ => false) (fun _ => false)
noncomputable def bit (s j : Nat) : Bool := Nat.beq (Nat.mod (Nat.shiftRight s j) 2) 1
noncomputable def within (s t : Nat) : Bool := Nat.beq (Nat.land s t) s
/-- which operations stand ahead, as bits -/
noncomputable def bitsOf (acc : List Nat) (l : List Edge) : Nat := @List.rec Edge (fun _ => Nat) 0 (fun e _ ih => @Bool.rec (fun _ => Nat) ih (Nat.lor ih (Nat.lor (Nat.pow 2 e.on) (@Option.rec Nat (fun _ => Nat) 0 (fun b => b) (nth acc e.on)))) (binding e)) l
noncomputable def ancL (l : List Oper) : List Nat → List Nat := @List.rec Oper (fun _ => List Nat → List Nat) (fun acc => acc) (fun o _ ih acc => ih (snoc acc (bitsOf acc o.after.toList))) l
/-- an operation: its number, which stand ahead, the slots of variables that it can't know -/
structure It where
  j : Nat
  o : Oper
  anc : Nat
  mask : List Tmp
noncomputable def items (l : List Oper) : List Nat → Nat → List It := @List.rec Oper (fun _ => List Nat → Nat → List It) (fun _ _ => []) (fun o _ ih r j => @List.rec Nat (fun _ => List It) [] (fun b r _ => ⟨j, o, b, []⟩ :: ih r (Nat.add j 1)) r) l
noncomputable def isFloat (x : It) : Bool := andB (Nat.beq (opKind x.o.op) 2) (andB (Nat.beq x.anc 0) (andB (@Option.rec (Nat × Bool) (fun _ => Bool) true (fun _ => false) x.o.guard) (@Option.rec Tmp (fun _ => Bool) false (fun _ => true) x.o.dst)))
noncomputable def filterB {α : Type} (p : α → Bool) (l : List α) : List α := @List.rec α (fun _ => List α) [] (fun x _ ih => @Bool.rec (fun _ => List α) ih (x :: ih) (p x)) l
noncomputable def mapL {α β : Type} (f : α → β) (l : List α) : List β := @List.rec α (fun _ => List β) [] (fun x _ ih => f x :: ih) l
noncomputable def masks (anc : Nat) (l : List It) : List Tmp := @List.rec It (fun _ => List Tmp) [] (fun p _ ih => @Bool.rec (fun _ => List Tmp) (@Option.rec Tmp (fun _ => List Tmp) ih (fun d => d :: ih) p.o.dst) ih (bit anc p.j)) l
structure Step where
  it : It
  late : List It
noncomputable def lates (c : It) (l : List It) : List It := filterB (fun p => andB (reads p.o.op) (notB (bit c.anc p.j))) l
/-- what can go now goes, but for what acts: what is done, these, the others -/
structure Pass where
  done : Nat
  go : List It
  rest : List It
noncomputable def passR (x : It) (p : Pass) : Pass := ⟨p.done, p.go, x :: p.rest⟩
noncomputable def passG (x : It) (p : Pass) : Pass := ⟨p.done, x :: p.go, p.rest⟩
noncomputable def pass (l : List It) : Nat → Pass := @List.rec It (fun _ => Nat → Pass) (fun d => ⟨d, [], []⟩) (fun x _ ih d =>
  @Bool.rec (fun _ => Pass) (passR x (ih d)) (passG x (ih (Nat.lor d (Nat.pow 2 x.j)))) (andB (quiet x.o.op) (within x.anc d))) l
noncomputable def plainSteps (l : List It) : List Step := mapL (fun x => ⟨x, []⟩) l
noncomputable def behind (last : Option Nat) (anc : Nat) : Bool := @Option.rec Nat (fun _ => Bool) true (fun k => bit anc k) last
/-- all passes; was: what went; last: the last one that acts -/
noncomputable def passes (f : Nat) : List It → Nat → List It → Option Nat → Option (List Step) := @Nat.rec (fun _ => List It → Nat → List It → Option Nat → Option (List Step))
  (fun _ _ _ _ => none)
  (fun _ ih todo done was last => (fun p : Pass => guardB (allB (fun x => behind last x.anc) p.go) (@List.rec It (fun _ => Option (List Step)) (some (plainSteps p.go))
    (fun c rest _ => guardB (andB (notB (quiet c.o.op)) (andB (within c.anc p.done) (behind last c.anc)))
      (ob (ih rest (Nat.lor p.done (Nat.pow 2 c.j)) (app was p.go) (some c.j)) fun r => some (app (plainSteps p.go) (⟨c, lates c (app was p.go)⟩ :: r)))) p.rest)) (pass todo done)) f
noncomputable def writers (l : List It) : Tr Nat → Option (Tr Nat) := @List.rec It (fun _ => Tr Nat → Option (Tr Nat)) (fun t => some t) (fun x _ ih t => @Option.rec Tmp (fun _ => Option (Tr Nat)) (ih t) (fun d => @Option.rec Nat (fun _ => Option (Tr Nat)) (ih (t.put (some x.j) d)) (fun _ => none) (t.get d)) x.o.dst) l
noncomputable def okTmp (anc : List Nat) (wt : Tr Nat) (x : It) (t : Tmp) : Bool := @Option.rec Nat (fun _ => Bool) true (fun i => orB (Nat.beq i x.j) (orB (bit x.anc i) (@Option.rec Nat (fun _ => Bool) false (fun b => bit b x.j) (nth anc i)))) (wt.get t)
/-- what it looks at is written ahead, or not at all -/
noncomputable def stTmp (wt : Tr Nat) (x : It) (t : Tmp) : Bool := @Option.rec Nat (fun _ => Bool) true (fun i => bit x.anc i) (wt.get t)
noncomputable def stOperand (wt : Tr Nat) (x : It) (y : Operand) : Bool := Operand.casesOn y (fun t => stTmp wt x t) (fun _ => true) (fun _ => true) (fun _ => true)
noncomputable def stGuard (wt : Tr Nat) (ops : List Oper) (x : It) : Bool := @Option.rec (Nat × Bool) (fun _ => Bool) true (fun q => @Option.rec Oper (fun _ => Bool) true (fun y => @Option.rec Tmp (fun _ => Bool) true (fun d => stTmp wt x d) y.dst) (nth ops q.1)) x.o.guard
noncomputable def stIt (wt : Tr Nat) (ops : List Oper) (x : It) : Bool := andB (stGuard wt ops x) (allB (stOperand wt x) x.o.op.operands.toList)
noncomputable def okOperand (anc : List Nat) (wt : Tr Nat) (x : It) (y : Operand) : Bool := Operand.casesOn y (fun t => okTmp anc wt x t) (fun _ => true) (fun _ => true) (fun _ => true)
noncomputable def okGuard (anc : List Nat) (wt : Tr Nat) (ops : List Oper) (x : It) : Bool := @Option.rec (Nat × Bool) (fun _ => Bool) true (fun q => @Option.rec Oper (fun _ => Bool) true (fun y => @Option.rec Tmp (fun _ => Bool) true (fun d => okTmp anc wt x d) y.dst) (nth ops q.1)) x.o.guard
noncomputable def okEdges (x : It) : Bool := allB (fun e => orB (notB (binding e)) (Nat.blt e.on x.j)) x.o.after.toList
noncomputable def okIt (anc : List Nat) (wt : Tr Nat) (ops : List Oper) (x : It) : Bool := andB (okEdges x) (andB (okGuard anc wt ops x) (allB (okOperand anc wt x) x.o.op.operands.toList))
noncomputable def doneOf (l : List It) : Nat := @List.rec It (fun _ => Nat) 0 (fun x _ ih => Nat.lor ih (Nat.pow 2 x.j)) l
noncomputable def withMask (fl : List It) (x : It) : It := ⟨x.j, x.o, x.anc, masks x.anc fl⟩
noncomputable def planOf (ops : List Oper) (anc : List Nat) (its fl : List It) : Option (List Step) := ob (writers its .nil) fun wt => guardB (allB (okIt anc wt ops) its)
  (ob (passes (Nat.add (len ops) 1) (mapL (withMask fl) (filterB (fun x => notB (isFloat x)) its)) (doneOf fl) [] none) fun r => guardB (allB (fun s => allB (stIt wt ops) s.late) r) (some (app (plainSteps fl) r)))
noncomputable def planI (ops : List Oper) (anc : List Nat) (its : List It) : Option (List Step) := planOf ops anc its (filterB isFloat its)
noncomputable def planA (ops : List Oper) (anc : List Nat) : Option (List Step) := planI ops anc (items ops anc 0)
noncomputable def plan (ops : List Oper) : Option (List Step) := planA ops (ancL ops [])
end plan

/-- the same, seen at a glance -/
noncomputable def sameC (c c' : Option Nat) : Bool := @Option.rec Nat (fun _ => Bool) (@Option.rec Nat (fun _ => Bool) true (fun _ => false) c') (fun c => @Option.rec Nat (fun _ => Bool) false (fun c' => Nat.beq c c') c') c
noncomputable def isSome {α : Type} (x : Option α) : Bool := @Option.rec α (fun _ => Bool) false (fun _ => true) x
noncomputable def orF (x : Option Bool) : Bool := @Option.rec Bool (fun _ => Bool) false (fun b => b) x
noncomputable def same1 (x y : V) : Bool := V.casesOn x (fun a => orF (onB y fun b => some (a == b))) (fun k a => orF (onI y fun k' b => some (andB (kEq k k') (eqI a b)))) (fun _ => false) (fun r o => orF (onP y fun r' o' => some (andB (Nat.beq r r') (Nat.beq o o'))))
  (V.casesOn y (fun _ => false) (fun _ _ => false) (fun _ => false) (fun _ _ => false) true (fun _ _ _ _ => false) false (fun _ => false) false (fun _ _ => false) false (fun _ _ => false) false (fun _ => false) (fun _ => false) (fun _ _ _ => false))
  (fun r o n c => orF (onSl y none fun r' o' n' c' => some (andB (Nat.beq r r') (andB (Nat.beq o o') (andB (Nat.beq n n') (sameC c c'))))))
  (orF (onSl y (some true) fun _ _ _ _ => none)) (fun r => orF (onM y none fun r' => some (Nat.beq r r'))) (orF (onM y (some true) fun _ => none)) (fun _ _ => false)
  (V.casesOn y (fun _ => false) (fun _ _ => false) (fun _ => false) (fun _ _ => false) false (fun _ _ _ _ => false) false (fun _ => false) false (fun _ _ => false) true (fun _ _ => false) false (fun _ => false) (fun _ => false) (fun _ _ _ => false)) (fun _ _ => false)
  (V.casesOn y (fun _ => false) (fun _ _ => false) (fun _ => false) (fun _ _ => false) false (fun _ _ _ _ => false) false (fun _ => false) false (fun _ _ => false) false (fun _ _ => false) true (fun _ => false) (fun _ => false) (fun _ _ _ => false)) (fun _ => false) (fun _ => false)
  (fun j n c => V.casesOn y (fun _ => false) (fun _ _ => false) (fun _ => false) (fun _ _ => false) false (fun _ _ _ _ => false) false (fun _ => false) false (fun _ _ => false) false (fun _ _ => false) false (fun _ => false) (fun _ => false) (fun j' n' c' => andB (Nat.beq j j') (andB (Nat.beq n n') (Nat.beq c c'))))
noncomputable def sameL (l : List V) : List V → Bool := @List.rec V (fun _ => List V → Bool) (fun r => @List.rec V (fun _ => Bool) true (fun _ _ _ => false) r) (fun x _ ih r => @List.rec V (fun _ => Bool) false (fun y r' _ => andB (same1 x y) (ih r')) r) l
noncomputable def sameV (x y : V) : Bool := orB (same1 x y) (orB (orF (onAgg x fun l => onAgg y fun r => some (sameL l r))) (orF (onTup x fun l => onTup y fun r => some (sameL l r))))

/-- each slot that is written is there -/
noncomputable def dOk (n : Nat) (o : Oper) : Bool := @Option.rec Tmp (fun _ => Bool) true (fun d => Nat.blt d n) o.dst
noncomputable def codeOk (n : Nat) (c : Code) : Bool := @Code.rec (fun _ => Bool) true (fun _ ops _ => allB (dOk n) ops.toList) (fun _ _ a b => andB a b) (fun _ _ _ a b => andB a b) (fun _ _ a => a) (fun _ a => a) (fun _ _ _ _ _ _ => false) (fun _ => true) (fun _ _ => false) (fun _ => false) (fun _ => false) true (fun _ => false) c
section run
variable (E : Env) (F : Fns)
/-- it isn't one of which nothing is known -/
noncomputable def known (v : V) : Bool := V.casesOn v (fun _ => true) (fun _ _ => true) (fun _ => true) (fun _ _ => true) true (fun _ _ _ _ => true) true (fun _ => true) true (fun _ _ => true) true (fun _ _ => true) true (fun _ => true) (fun _ => true) (fun _ _ _ => false)
/-- does the guard let it run -/
noncomputable def goOn (ops : List Oper) (g : G) (gd : Option (Nat × Bool)) (f : Bool → Out) : Out := @Option.rec (Nat × Bool) (fun _ => Out) (f true) (fun q => ob (nth ops q.1) fun o => ob o.dst fun d => ob (g d) fun v => guardB (known v) (f (orF (onB v fun x => some (x == q.2))))) gd
noncomputable def evAny (ops : List Oper) (g : G) (o : Oper) (h : H) (nx : Nat) : Out := goOn ops g o.guard fun b => @Bool.rec (fun _ => Out) (out .undef h nx) (evOp o.op E F g h nx) b
noncomputable def putD (fr : Tr V) (d : Option Tmp) (v : V) : Tr V := @Option.rec Tmp (fun _ => Tr V) fr (fun t => fr.put (some v) t) d
/-- what comes of code: how it ends (0: at its end, 1: out of a block, 2: back), out of which block, frame, memory -/
abbrev Res := Option (Nat × Nat × Tr V × H × Nat)
abbrev Kont := Tr V → H → Nat → Res
noncomputable def evList (ops : List Oper) (k : Kont) (l : List Oper) : Kont := @List.rec Oper (fun _ => Kont) k (fun o _ ih fr h nx => ob (evAny E F ops fr.get o h nx) fun r => ih (putD fr o.dst r.1) r.2.1 r.2.2) l
/-- rows are laid aside -/
noncomputable def hide (g : G) (l : List Tmp) : H → Option (H × List (Nat × LObj)) := @List.rec Tmp (fun _ => H → Option (H × List (Nat × LObj))) (fun h => some (h, []))
  (fun t _ ih h => ob (g t) fun v => onP v fun r o => ob (h.get r) fun x => ob (ih (h.put none r)) fun q => some (q.1, (r, x) :: q.2)) l
noncomputable def unhide (l : List (Nat × LObj)) : H → H := @List.rec (Nat × LObj) (fun _ => H → H) (fun h => h) (fun q _ ih h => ih (h.put (some q.2) q.1)) l
/-- an operation, the variables that it can't know laid aside -/
noncomputable def evM (ops : List Oper) (g : G) (x : It) (h : H) (nx : Nat) : Out := ob (hide g x.mask h) fun q => ob (evAny E F ops g x.o q.1 nx) fun r => out r.1 (unhide q.2 r.2.1) r.2.2
noncomputable def again (ops : List Oper) (g : G) (h : H) (nx : Nat) (p : It) : Bool := orF (ob (evM E F ops g p h nx) fun r => @Option.rec Tmp (fun _ => Option Bool) (some true) (fun d => ob (g d) fun u => some (sameV r.1 u)) p.o.dst)
noncomputable def askAgain (ops : List Oper) (g : G) (h : H) (nx : Nat) (l : List It) : Bool := allB (again E F ops g h nx) l
noncomputable def stepTo (ops : List Oper) (x : Step) (k : Kont) (fr : Tr V) (h : H) (nx : Nat) : Res := guardB (askAgain E F ops fr.get h nx x.late) (k fr h nx)
noncomputable def evSteps (ops : List Oper) (k : Kont) (l : List Step) : Kont := @List.rec Step (fun _ => Kont) k (fun x _ ih fr h nx => ob (evM E F ops fr.get x.it h nx) fun r => stepTo E F ops x ih (putD fr x.it.o.dst r.1) r.2.1 r.2.2) l
noncomputable def evReg (ops : List Oper) (draw : Bool) (k : Kont) : Kont := @Bool.rec (fun _ => Kont) (evList E F ops k ops) (fun fr h nx => ob (plan ops) fun p => evSteps E F ops k p fr h nx) draw
noncomputable def resV (fr : Tr V) (h : H) (r : ResultVar) : Option V := ResultVar.casesOn r fr.get (fun p t => ob (fr.get p) fun v => onP v fun r o => onCells h r fun _ cs => partV E t cs o)
noncomputable def oneV (l : List V) : V := @List.rec V (fun _ => V) (.tup []) (fun x t _ => @List.rec V (fun _ => V) x (fun _ _ _ => .tup (x :: t)) t) l
noncomputable def frame (args : List V) : Nat → Tr V → Tr V := @List.rec V (fun _ => Nat → Tr V → Tr V) (fun _ t => t) (fun v _ ih j t => ih (Nat.add j 1) (t.put (some v) j)) args
noncomputable def kNorm : Kont := fun fr h nx => some (0, 0, fr, h, nx)
/-- on with what comes of it at its end -/
noncomputable def andThen (r : Res) (k : Kont) : Res := ob r fun q => @Bool.rec (fun _ => Res) r (k q.2.2.1 q.2.2.2.1 q.2.2.2.2) (Nat.beq q.1 0)
noncomputable def outOf (id : Nat) (r : Res) : Res := ob r fun q => @Bool.rec (fun _ => Res) r (some (0, 0, q.2.2)) (andB (Nat.beq q.1 1) (Nat.beq q.2.1 id))
abbrev CodeF := Env → Fns → Kont
noncomputable def cNone : CodeF := fun _ _ _ _ _ => none
noncomputable def cSkip : CodeF := fun _ _ => kNorm
noncomputable def cRegion (_ : Nat) (ops : Array Oper) (draw : Bool) : CodeF := fun E F fr h nx => evReg E F ops.toList draw kNorm fr h nx
noncomputable def cSeq (a b : Code) : CodeF := fun _ F fr h nx => andThen (F.code a fr h nx) (F.code b)
noncomputable def cCond (c : Operand) (x y : Code) : CodeF := fun _ F fr h nx => ob (val fr.get c) fun v => onB v fun t => F.code (@Bool.rec (fun _ => Code) y x t) fr h nx
noncomputable def cBlock (id : Nat) (b : Code) : CodeF := fun _ F fr h nx => outOf id (F.code b fr h nx)
noncomputable def cLoop (b : Code) : CodeF := fun _ F fr h nx => andThen (F.code b fr h nx) (F.code (.loop b))
noncomputable def cExit (id : Nat) : CodeF := fun _ _ fr h nx => some (1, id, fr, h, nx)
noncomputable def cRet : CodeF := fun _ _ fr h nx => some (2, 0, fr, h, nx)
noncomputable def evCode (c : Code) : CodeF := Code.casesOn c cSkip cRegion cSeq cCond cBlock cLoop (fun _ _ _ _ => cNone) cExit (fun _ => cNone) (fun _ => cNone) (fun _ => cNone) cRet (fun _ => cNone)
noncomputable def onU {β : Type} (v : V) (f : Nat → Option β) : Option β := onI v fun k n => guardB (Nat.beq (kNum k) 7) (@Int.rec (fun _ => Option β) f (fun _ => none) n)
noncomputable def evAdd64 (args : List V) (h : H) (nx : Nat) : Out := guardB (Nat.beq (len args) 3) (ob (hd args) fun x => ob (hd (tl args)) fun y => ob (hd (tl (tl args))) fun c => onU x fun x => onU y fun y => onU c fun c => guardB (Nat.ble c 1)
  (out (.tup [.i .u64 (Int.ofNat (Nat.mod (Nat.add (Nat.add x y) c) 18446744073709551616)), .i .u64 (Int.ofNat (Nat.div (Nat.add (Nat.add x y) c) 18446744073709551616))]) h nx))
noncomputable def evCall (f : FuncId) (args : List V) (h : H) (nx : Nat) : Out := ob (E.P.funcs[f]?) fun fn => @Option.rec Code (fun _ => Out) (guardB (E.add64 f) (evAdd64 args h nx))
  (fun c => guardB (codeOk fn.ntmps c) (ob (F.code c (frame args 0 .nil) h nx) fun q => guardB (notB (Nat.beq q.1 1)) (ob (mapO (resV E q.2.2.1 q.2.2.2.1) fn.results.toList) fun l => out (oneV l) q.2.2.2.1 q.2.2.2.2))) fn.body
end run
noncomputable def fns (E : Env) (n : Nat) : Fns := @Nat.rec (fun _ => Fns) ⟨fun _ _ _ _ => none, fun _ _ _ _ => none⟩ (fun _ ih => ⟨fun c fr h nx => evCode c E ih fr h nx, fun f args h nx => evCall E ih f args h nx⟩) n
end Go.Proofs.YtemkiobojboceaaGreat.Ev
