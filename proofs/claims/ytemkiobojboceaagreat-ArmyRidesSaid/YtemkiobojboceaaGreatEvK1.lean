/- A small machine that reckons closed calls: values, memory by rows, and what each operation comes to; written so that the kernel reckons it fast. No conditions: definitions alone. -/
import Derived.Control
namespace Go.Proofs.YtemkiobojboceaaGreat.Ev
open Go
set_option linter.unusedVariables false

/-! ### words that the kernel takes in one step -/
section words
variable {α β : Type}
@[reducible] noncomputable def ifB (b : Bool) (x y : α) : α := @Bool.rec (fun _ => α) y x b
noncomputable def ob (x : Option α) (f : α → Option β) : Option β := @Option.rec α (fun _ => Option β) none f x
noncomputable def guardB (b : Bool) (x : Option β) : Option β := @Bool.rec (fun _ => Option β) none x b
noncomputable def onPair {γ : Type} (x : α × γ) (f : α → γ → β) : β := f x.1 x.2
noncomputable def nth (l : List α) : Nat → Option α := @List.rec α (fun _ => Nat → Option α) (fun _ => none) (fun x _ ih n => @Bool.rec (fun _ => Option α) (ih (Nat.sub n 1)) (some x) (Nat.beq n 0)) l
noncomputable def snoc (l : List α) (x : α) : List α := @List.rec α (fun _ => List α) [x] (fun y _ ih => y :: ih) l
noncomputable def app (l r : List α) : List α := @List.rec α (fun _ => List α) r (fun y _ ih => y :: ih) l
noncomputable def len (l : List α) : Nat := @List.rec α (fun _ => Nat) 0 (fun _ _ ih => Nat.add ih 1) l
noncomputable def allB (p : α → Bool) (l : List α) : Bool := @List.rec α (fun _ => Bool) true (fun x _ ih => @Bool.rec (fun _ => Bool) false ih (p x)) l
noncomputable def anyB (p : α → Bool) (l : List α) : Bool := @List.rec α (fun _ => Bool) false (fun x _ ih => @Bool.rec (fun _ => Bool) ih true (p x)) l
noncomputable def andB (a b : Bool) : Bool := @Bool.rec (fun _ => Bool) false b a
noncomputable def orB (a b : Bool) : Bool := @Bool.rec (fun _ => Bool) b true a
noncomputable def notB (a : Bool) : Bool := @Bool.rec (fun _ => Bool) true false a
/-- each, if each has one -/
noncomputable def mapO (f : α → Option β) (l : List α) : Option (List β) := @List.rec α (fun _ => Option (List β)) (some []) (fun x _ ih => ob (f x) fun y => ob ih fun r => some (y :: r)) l
end words

/-! ### trees by number -/
inductive Tr (α : Type) where
  | nil
  | node (v : Option α) (l r : Tr α)
namespace Tr
variable {α : Type}
noncomputable def get (t : Tr α) : Nat → Option α := @Tr.rec α (fun _ => Nat → Option α) (fun _ => none)
  (fun v _ _ gl gr n => @Bool.rec (fun _ => Option α) (@Bool.rec (fun _ => Option α) (gr (Nat.sub (Nat.div n 2) 1)) (gl (Nat.div n 2)) (Nat.beq (Nat.mod n 2) 1)) v (Nat.beq n 0)) t
noncomputable def path (f : Nat) (x : Option α) : Nat → Tr α := @Nat.rec (fun _ => Nat → Tr α) (fun _ => .node x .nil .nil)
  (fun _ ih n => @Bool.rec (fun _ => Tr α) (@Bool.rec (fun _ => Tr α) (.node none .nil (ih (Nat.sub (Nat.div n 2) 1))) (.node none (ih (Nat.div n 2)) .nil) (Nat.beq (Nat.mod n 2) 1)) (.node x .nil .nil) (Nat.beq n 0)) f
noncomputable def put (t : Tr α) (x : Option α) : Nat → Tr α := @Tr.rec α (fun _ => Nat → Tr α) (fun n => path n x n)
  (fun v l r pl pr n => @Bool.rec (fun _ => Tr α) (@Bool.rec (fun _ => Tr α) (.node v l (pr (Nat.sub (Nat.div n 2) 1))) (.node v (pl (Nat.div n 2)) r) (Nat.beq (Nat.mod n 2) 1)) (.node x l r) (Nat.beq n 0)) t
end Tr

/-! ### values -/
inductive V where
  | b (x : Bool)
  | i (k : IntKind) (n : Int)
  | s (s : ByteArray)
  | p (r o : Nat)
  | pn
  | sl (r o n : Nat) (c : Option Nat)
  | sn
  | m (r : Nat)
  | mn
  | fn (f : FuncId) (caps : List V)
  | fnil
  | ifc (t : TypeId) (v : V)
  | inil
  | agg (l : List V)
  | tup (l : List V)
  | far (j n c : Nat)
  deriving Inhabited
abbrev Ent := V × V × Nat
/-- a block -/
inductive LObj where
  | cells (ty : TypeId) (cs : List V)
  | map (es : List Ent) (clock : Nat)
  | iter (m : Option Nat) (since : Nat) (seen : List Nat) (last : Nat)
abbrev H := Tr LObj
abbrev Out := Option (V × H × Nat)
noncomputable def out (v : V) (h : H) (nx : Nat) : Out := some (v, h, nx)

noncomputable def V.cells (v : V) : List V := V.casesOn v (fun x => [.b x]) (fun k n => [.i k n]) (fun s => [.s s]) (fun r o => [.p r o]) [.pn] (fun r o n c => [.sl r o n c]) [.sn] (fun r => [.m r]) [.mn] (fun f c => [.fn f c]) [.fnil] (fun t v => [.ifc t v]) [.inil] (fun l => l) (fun l => [.tup l]) (fun j n c => [.far j n c])
/-- does it fill one cell -/
noncomputable def V.one (v : V) : Bool := V.casesOn v (fun _ => true) (fun _ _ => true) (fun _ => true) (fun _ _ => true) true (fun _ _ _ _ => true) true (fun _ => true) true (fun _ _ => true) true (fun _ _ => true) true (fun _ => false) (fun _ => false) (fun _ _ _ => true)
abbrev V.undef : V := .tup []
section views
variable {β : Type} (v : V)
noncomputable def onB (f : Bool → Option β) : Option β := V.casesOn v f (fun _ _ => none) (fun _ => none) (fun _ _ => none) none (fun _ _ _ _ => none) none (fun _ => none) none (fun _ _ => none) none (fun _ _ => none) none (fun _ => none) (fun _ => none) (fun _ _ _ => none)
noncomputable def onI (f : IntKind → Int → Option β) : Option β := V.casesOn v (fun _ => none) f (fun _ => none) (fun _ _ => none) none (fun _ _ _ _ => none) none (fun _ => none) none (fun _ _ => none) none (fun _ _ => none) none (fun _ => none) (fun _ => none) (fun _ _ _ => none)
noncomputable def onP (f : Nat → Nat → Option β) : Option β := V.casesOn v (fun _ => none) (fun _ _ => none) (fun _ => none) f none (fun _ _ _ _ => none) none (fun _ => none) none (fun _ _ => none) none (fun _ _ => none) none (fun _ => none) (fun _ => none) (fun _ _ _ => none)
noncomputable def onSl (z : Option β) (f : Nat → Nat → Nat → Option Nat → Option β) : Option β := V.casesOn v (fun _ => none) (fun _ _ => none) (fun _ => none) (fun _ _ => none) none f z (fun _ => none) none (fun _ _ => none) none (fun _ _ => none) none (fun _ => none) (fun _ => none) (fun _ _ _ => none)
noncomputable def onM (z : Option β) (f : Nat → Option β) : Option β := V.casesOn v (fun _ => none) (fun _ _ => none) (fun _ => none) (fun _ _ => none) none (fun _ _ _ _ => none) none f z (fun _ _ => none) none (fun _ _ => none) none (fun _ => none) (fun _ => none) (fun _ _ _ => none)
noncomputable def onFn (f : FuncId → List V → Option β) : Option β := V.casesOn v (fun _ => none) (fun _ _ => none) (fun _ => none) (fun _ _ => none) none (fun _ _ _ _ => none) none (fun _ => none) none f none (fun _ _ => none) none (fun _ => none) (fun _ => none) (fun _ _ _ => none)
noncomputable def onAgg (f : List V → Option β) : Option β := V.casesOn v (fun _ => none) (fun _ _ => none) (fun _ => none) (fun _ _ => none) none (fun _ _ _ _ => none) none (fun _ => none) none (fun _ _ => none) none (fun _ _ => none) none f (fun _ => none) (fun _ _ _ => none)
noncomputable def onTup (f : List V → Option β) : Option β := V.casesOn v (fun _ => none) (fun _ _ => none) (fun _ => none) (fun _ _ => none) none (fun _ _ _ _ => none) none (fun _ => none) none (fun _ _ => none) none (fun _ _ => none) none (fun _ => none) f (fun _ _ _ => none)
noncomputable def onStr (f : ByteArray → Option β) : Option β := V.casesOn v (fun _ => none) (fun _ _ => none) f (fun _ _ => none) none (fun _ _ _ _ => none) none (fun _ => none) none (fun _ _ => none) none (fun _ _ => none) none (fun _ => none) (fun _ => none) (fun _ _ _ => none)
/-- a number from 0 on -/
noncomputable def onN (f : Nat → Option β) : Option β := onI v fun _ n => @Int.rec (fun _ => Option β) f (fun _ => none) n
end views
section obj
variable {β : Type}
noncomputable def onCells (h : H) (r : Nat) (f : TypeId → List V → Option β) : Option β := ob (h.get r) fun o => LObj.casesOn o f (fun _ _ => none) (fun _ _ _ _ => none)
noncomputable def onMap (h : H) (r : Nat) (f : List Ent → Nat → Option β) : Option β := ob (h.get r) fun o => LObj.casesOn o (fun _ _ => none) f (fun _ _ _ _ => none)
noncomputable def onIter (h : H) (r : Nat) (f : Option Nat → Nat → List Nat → Nat → Option β) : Option β := ob (h.get r) fun o => LObj.casesOn o (fun _ _ => none) (fun _ _ => none) f
end obj

/-- some cells from the head on, if there are so many -/
noncomputable def takeL (l : List V) : Nat → Option (List V) := @List.rec V (fun _ => Nat → Option (List V)) (fun n => guardB (Nat.beq n 0) (some []))
  (fun x _ ih n => @Bool.rec (fun _ => Option (List V)) (ob (ih (Nat.sub n 1)) fun r => some (x :: r)) (some []) (Nat.beq n 0)) l
noncomputable def dropL (l : List V) : Nat → List V := @List.rec V (fun _ => Nat → List V) (fun _ => [])
  (fun x t ih n => @Bool.rec (fun _ => List V) (ih (Nat.sub n 1)) (x :: t) (Nat.beq n 0)) l
noncomputable def subL (l : List V) (o n : Nat) : Option (List V) := takeL (dropL l o) n
/-- cells are laid over the head -/
noncomputable def over (vs : List V) : List V → Option (List V) := @List.rec V (fun _ => List V → Option (List V)) (fun l => some l)
  (fun v _ ih l => @List.rec V (fun _ => Option (List V)) none (fun _ t _ => ob (ih t) fun r => some (v :: r)) l) vs
/-- .. from a place on -/
noncomputable def putL (vs : List V) (l : List V) : Nat → Option (List V) := @List.rec V (fun _ => Nat → Option (List V)) (fun n => guardB (Nat.beq n 0) (over vs []))
  (fun x t ih n => @Bool.rec (fun _ => Option (List V)) (ob (ih (Nat.sub n 1)) fun r => some (x :: r)) (over vs (x :: t)) (Nat.beq n 0)) l
noncomputable def rep (n : Nat) (z : List V) : List V := @Nat.rec (fun _ => List V) [] (fun _ ih => app z ih) n
noncomputable def allOne (l : List V) : Bool := allB V.one l

/-! ### numbers -/
noncomputable def lim (k : IntKind) : Nat := IntKind.casesOn k 128 32768 2147483648 9223372036854775808 256 65536 4294967296 18446744073709551616
noncomputable def sgn (k : IntKind) : Bool := IntKind.casesOn k true true true true false false false false
noncomputable def wr (k : IntKind) (n : Int) : Int := @Int.rec (fun _ => Int) (fun m => @Bool.rec (fun _ => Int) (k.wrap (Int.ofNat m)) (Int.ofNat m) (Nat.blt m (lim k))) (fun m => @Bool.rec (fun _ => Int) (k.wrap (Int.negSucc m)) (Int.negSucc m) (andB (sgn k) (Nat.blt m (lim k)))) n
noncomputable def ltI (x y : Int) : Bool := @Int.rec (fun _ => Bool) (fun a => @Int.rec (fun _ => Bool) (fun b => Nat.blt a b) (fun _ => false) y) (fun a => @Int.rec (fun _ => Bool) (fun _ => true) (fun b => Nat.blt b a) y) x
noncomputable def eqI (x y : Int) : Bool := @Int.rec (fun _ => Bool) (fun a => @Int.rec (fun _ => Bool) (fun b => Nat.beq a b) (fun _ => false) y) (fun a => @Int.rec (fun _ => Bool) (fun _ => false) (fun b => Nat.beq a b) y) x
noncomputable def kNum (k : IntKind) : Nat := IntKind.casesOn k 0 1 2 3 4 5 6 7
noncomputable def kEq (k l : IntKind) : Bool := Nat.beq (kNum k) (kNum l)
noncomputable def iV (k : IntKind) (n : Int) : Option V := some (.i k (wr k n))
noncomputable def andI (k : IntKind) (m n : Int) : Option V := iV k (BitVec.ofInt k.bits m &&& BitVec.ofInt k.bits n).toNat
noncomputable def orI (k : IntKind) (m n : Int) : Option V := iV k (BitVec.ofInt k.bits m ||| BitVec.ofInt k.bits n).toNat
noncomputable def xorI (k : IntKind) (m n : Int) : Option V := iV k (BitVec.ofInt k.bits m ^^^ BitVec.ofInt k.bits n).toNat
noncomputable def andNotI (k : IntKind) (m n : Int) : Option V := iV k (BitVec.ofInt k.bits m &&& ~~~(BitVec.ofInt k.bits n)).toNat
noncomputable def addI (k : IntKind) (m n : Int) : Option V := iV k (Int.add m n)
noncomputable def subI (k : IntKind) (m n : Int) : Option V := iV k (Int.sub m n)
noncomputable def mulI (k : IntKind) (m n : Int) : Option V := iV k (Int.mul m n)
noncomputable def quoI (k : IntKind) (m n : Int) : Option V := @Bool.rec (fun _ => Option V) (iV k (Int.tdiv m n)) none (eqI n 0)
noncomputable def remI (k : IntKind) (m n : Int) : Option V := @Bool.rec (fun _ => Option V) (some (.i k (Int.tmod m n))) none (eqI n 0)
noncomputable def shlI (k : IntKind) (m n : Int) : Option V := @Bool.rec (fun _ => Option V) (iV k (m * 2 ^ min n.toNat k.bits)) none (ltI n 0)
noncomputable def shrI (k : IntKind) (m n : Int) : Option V := @Bool.rec (fun _ => Option V) (some (.i k (m.fdiv (2 ^ min n.toNat k.bits)))) none (ltI n 0)
noncomputable def eqlI (k : IntKind) (m n : Int) : Option V := some (.b (eqI m n))
noncomputable def neqI (k : IntKind) (m n : Int) : Option V := some (.b (notB (eqI m n)))
noncomputable def lssI (k : IntKind) (m n : Int) : Option V := some (.b (ltI m n))
noncomputable def leqI (k : IntKind) (m n : Int) : Option V := some (.b (notB (ltI n m)))
noncomputable def gtrI (k : IntKind) (m n : Int) : Option V := some (.b (ltI n m))
noncomputable def geqI (k : IntKind) (m n : Int) : Option V := some (.b (notB (ltI m n)))
noncomputable def binI (op : BinOp) : IntKind → Int → Int → Option V := BinOp.casesOn op addI subI mulI quoI remI andI orI xorI (fun _ _ _ => none) (fun _ _ _ => none) andNotI eqlI neqI lssI leqI gtrI geqI

/-! ### what a program's types say -/
structure Env where
  P : Program
  /-- structs of integers, that can be compared: how many; 0: it is none -/
  flat : TypeId → Nat
  /-- math/bits.Add64 -/
  add64 : FuncId → Bool
section env
variable {β : Type} (E : Env)
noncomputable def desc (t : TypeId) (f : TypeDesc → Option β) : Option β := ob (E.P.underlying t) f
noncomputable def isAggD (d : TypeDesc) : Bool := TypeDesc.casesOn d false false (fun _ => false) (fun _ => false) (fun _ => false) false false (fun _ => false) (fun _ => false) (fun _ _ => true) (fun _ _ => false) (fun _ _ => false) (fun _ => true) (fun _ _ _ => false) (fun _ => false) (fun _ => false) (fun _ _ => false)
noncomputable def onBoolD (d : TypeDesc) (x : Option β) : Option β := TypeDesc.casesOn d none x (fun _ => none) (fun _ => none) (fun _ => none) none none (fun _ => none) (fun _ => none) (fun _ _ => none) (fun _ _ => none) (fun _ _ => none) (fun _ => none) (fun _ _ _ => none) (fun _ => none) (fun _ => none) (fun _ _ => none)
noncomputable def onIntD (d : TypeDesc) (f : IntKind → Option β) : Option β := TypeDesc.casesOn d none none f (fun _ => none) (fun _ => none) none none (fun _ => none) (fun _ => none) (fun _ _ => none) (fun _ _ => none) (fun _ _ => none) (fun _ => none) (fun _ _ _ => none) (fun _ => none) (fun _ => none) (fun _ _ => none)
noncomputable def onStrD (d : TypeDesc) (x : Option β) : Option β := TypeDesc.casesOn d none none (fun _ => none) (fun _ => none) (fun _ => none) x none (fun _ => none) (fun _ => none) (fun _ _ => none) (fun _ _ => none) (fun _ _ => none) (fun _ => none) (fun _ _ _ => none) (fun _ => none) (fun _ => none) (fun _ _ => none)
noncomputable def onPtrD (d : TypeDesc) (x : Option β) : Option β := TypeDesc.casesOn d none none (fun _ => none) (fun _ => none) (fun _ => none) none none (fun _ => x) (fun _ => none) (fun _ _ => none) (fun _ _ => none) (fun _ _ => none) (fun _ => none) (fun _ _ _ => none) (fun _ => none) (fun _ => none) (fun _ _ => none)
noncomputable def onFuncD (d : TypeDesc) (x : Option β) : Option β := TypeDesc.casesOn d none none (fun _ => none) (fun _ => none) (fun _ => none) none none (fun _ => none) (fun _ => none) (fun _ _ => none) (fun _ _ => none) (fun _ _ => none) (fun _ => none) (fun _ _ _ => x) (fun _ => none) (fun _ => none) (fun _ _ => none)
noncomputable def onSliceD (d : TypeDesc) (f : TypeId → Option β) : Option β := TypeDesc.casesOn d none none (fun _ => none) (fun _ => none) (fun _ => none) none none (fun _ => none) f (fun _ _ => none) (fun _ _ => none) (fun _ _ => none) (fun _ => none) (fun _ _ _ => none) (fun _ => none) (fun _ => none) (fun _ _ => none)
noncomputable def onArrD (d : TypeDesc) (f : Nat → TypeId → Option β) : Option β := TypeDesc.casesOn d none none (fun _ => none) (fun _ => none) (fun _ => none) none none (fun _ => none) (fun _ => none) f (fun _ _ => none) (fun _ _ => none) (fun _ => none) (fun _ _ _ => none) (fun _ => none) (fun _ => none) (fun _ _ => none)
noncomputable def onMapD (d : TypeDesc) (f : TypeId → TypeId → Option β) : Option β := TypeDesc.casesOn d none none (fun _ => none) (fun _ => none) (fun _ => none) none none (fun _ => none) (fun _ => none) (fun _ _ => none) f (fun _ _ => none) (fun _ => none) (fun _ _ _ => none) (fun _ => none) (fun _ => none) (fun _ _ => none)
noncomputable def onStructD (d : TypeDesc) (f : Array Field → Option β) : Option β := TypeDesc.casesOn d none none (fun _ => none) (fun _ => none) (fun _ => none) none none (fun _ => none) (fun _ => none) (fun _ _ => none) (fun _ _ => none) (fun _ _ => none) f (fun _ _ _ => none) (fun _ => none) (fun _ => none) (fun _ _ => none)
noncomputable def isIfaceD (d : TypeDesc) : Bool := TypeDesc.casesOn d false false (fun _ => false) (fun _ => false) (fun _ => false) false false (fun _ => false) (fun _ => false) (fun _ _ => false) (fun _ _ => false) (fun _ _ => false) (fun _ => false) (fun _ _ _ => false) (fun _ => true) (fun _ => false) (fun _ _ => false)
noncomputable def sizeT (t : TypeId) (f : Nat → Option β) : Option β := ob (E.P.info? t) fun i => f i.size
end env

/-- constants, and zero values -/
noncomputable def ofCell (x : Value) : Option V := Value.casesOn x (fun b => some (.b b)) (fun k n => some (.i k n)) (fun _ _ => none) (fun _ _ _ => none) (fun s => some (.s s))
  (fun a => @Option.rec Addr (fun _ => Option V) (some .pn) (fun _ => none) a) (fun a n c => @Option.rec Addr (fun _ => Option V) (guardB (andB (Nat.beq n 0) (Nat.beq c 0)) (some .sn)) (fun _ => none) a)
  (fun r => @Option.rec Nat (fun _ => Option V) (some .mn) (fun _ => none) r) (fun _ => none) (fun _ _ _ => none) (some .fnil) (fun _ _ => none) (some .inil) (fun _ => none) (fun _ => none)
noncomputable def ofValue (x : Value) : Option V := Value.casesOn x (fun b => some (.b b)) (fun k n => some (.i k n)) (fun _ _ => none) (fun _ _ _ => none) (fun s => some (.s s))
  (fun a => ofCell (.pointer a)) (fun a n c => ofCell (.slice a n c)) (fun r => ofCell (.map r)) (fun _ => none) (fun _ _ _ => none) (some .fnil) (fun _ _ => none) (some .inil) (fun cs => ob (mapO ofCell cs.toList) fun l => some (.agg l)) (fun cs => @List.rec Value (fun _ => Option V) (some (.tup [])) (fun _ _ _ => none) cs.toList)
section env2
variable {β : Type} (E : Env)
noncomputable def zeroT (t : TypeId) (f : List V → Option β) : Option β := ob (E.P.info? t) fun i => ob i.zero fun z => ob (mapO ofCell z.cells.toList) f
abbrev G := Nat → Option V
noncomputable def val (g : G) (x : Operand) : Option V := Operand.casesOn x g ofValue (fun _ => none) (fun f => some (.fn f []))
noncomputable def vals (g : G) (l : List Operand) : Option (List V) := mapO (val g) l
noncomputable def optV (g : G) (x : Option Operand) : Option (Option V) := @Option.rec Operand (fun _ => Option (Option V)) (some none) (fun x => ob (val g x) fun v => some (some v)) x
noncomputable def valsP (g : G) (l : List (Nat × Operand)) : Option (List (Nat × V)) := mapO (fun p => ob (val g p.2) fun v => some (p.1, v)) l
/-- what lies at a place, as a value of a type -/
noncomputable def partV (t : TypeId) (l : List V) (o : Nat) : Option V := desc E t fun d => @Bool.rec (fun _ => Option V) (nth l o) (sizeT E t fun n => ob (subL l o n) fun r => some (.agg r)) (isAggD d)
noncomputable def allInts (l : List V) : Bool := allB (fun v => @Option.rec Unit (fun _ => Bool) false (fun _ => true) (onI v fun _ _ => some ())) l
noncomputable def eqInts (l : List V) : List V → Option Bool := @List.rec V (fun _ => List V → Option Bool) (fun r => @List.rec V (fun _ => Option Bool) (some true) (fun _ _ _ => none) r)
  (fun x t ih r => @List.rec V (fun _ => Option Bool) none (fun y r' _ => onI x fun k a => onI y fun k' b => guardB (kEq k k') (@Bool.rec (fun _ => Option Bool) (guardB (andB (allInts t) (allInts r')) (some false)) (ih r') (eqI a b))) r) l
/-- are two values the same -/
noncomputable def eqV (t : TypeId) (x y : V) : Option Bool := V.casesOn x
  (fun a => onB y fun b => desc E t fun d => onBoolD d (some (a == b)))
  (fun k a => onI y fun k' b => guardB (kEq k k') (desc E t fun d => onIntD d fun _ => some (eqI a b)))
  (fun _ => none)
  (fun _ _ => V.casesOn y (fun _ => none) (fun _ _ => none) (fun _ => none) (fun _ _ => none) (desc E t fun d => onPtrD d (some false)) (fun _ _ _ _ => none) none (fun _ => none) none (fun _ _ => none) none (fun _ _ => none) none (fun _ => none) (fun _ => none) (fun _ _ _ => none))
  (V.casesOn y (fun _ => none) (fun _ _ => none) (fun _ => none) (fun _ _ => desc E t fun d => onPtrD d (some false)) (desc E t fun d => onPtrD d (some true)) (fun _ _ _ _ => none) none (fun _ => none) none (fun _ _ => none) none (fun _ _ => none) none (fun _ => none) (fun _ => none) (fun _ _ _ => none))
  (fun _ _ _ _ => onSl y (desc E t fun d => onSliceD d fun _ => some false) (fun _ _ _ _ => none))
  (onSl y (desc E t fun d => onSliceD d fun _ => some true) (fun _ _ _ _ => desc E t fun d => onSliceD d fun _ => some false))
  (fun _ => onM y (desc E t fun d => onMapD d fun _ _ => some false) (fun _ => none))
  (onM y (desc E t fun d => onMapD d fun _ _ => some true) (fun _ => desc E t fun d => onMapD d fun _ _ => some false))
  (fun _ _ => V.casesOn y (fun _ => none) (fun _ _ => none) (fun _ => none) (fun _ _ => none) none (fun _ _ _ _ => none) none (fun _ => none) none (fun _ _ => none) (desc E t fun d => onFuncD d (some false)) (fun _ _ => none) none (fun _ => none) (fun _ => none) (fun _ _ _ => none))
  (V.casesOn y (fun _ => none) (fun _ _ => none) (fun _ => none) (fun _ _ => none) none (fun _ _ _ _ => none) none (fun _ => none) none (fun _ _ => desc E t fun d => onFuncD d (some false)) (desc E t fun d => onFuncD d (some true)) (fun _ _ => none) none (fun _ => none) (fun _ => none) (fun _ _ _ => none))
  (fun _ _ => none) none
  (fun l => onAgg y fun r => guardB (andB (Nat.blt 0 (E.flat t)) (Nat.beq (len l) (E.flat t))) (eqInts l r))
  (fun _ => none) (fun _ _ _ => none)
noncomputable def eqB (t : TypeId) (x y : V) : Option V := ob (eqV E t x y) fun r => some (.b r)
noncomputable def neB (t : TypeId) (x y : V) : Option V := ob (eqV E t x y) fun r => some (.b (notB r))
abbrev Bin := Env → TypeId → V → V → Option V
noncomputable def bI (f : IntKind → Int → Int → Option V) : Bin := fun _ _ x y => onI x fun k a => onI y fun k' b => guardB (kEq k k') (f k a b)
noncomputable def bS (f : IntKind → Int → Int → Option V) : Bin := fun _ _ x y => onI x fun k a => onI y fun _ b => f k a b
noncomputable def bE (f : IntKind → Int → Int → Option V) (e : Bin) : Bin := fun E t x y => V.casesOn x (fun _ => e E t x y) (fun k a => onI y fun k' b => guardB (kEq k k') (f k a b)) (fun _ => e E t x y) (fun _ _ => e E t x y) (e E t x y) (fun _ _ _ _ => e E t x y) (e E t x y) (fun _ => e E t x y) (e E t x y) (fun _ _ => e E t x y) (e E t x y) (fun _ _ => e E t x y) (e E t x y) (fun _ => e E t x y) (fun _ => e E t x y) (fun _ _ _ => e E t x y)
noncomputable def evBin (op : BinOp) : Bin := BinOp.casesOn op (bI addI) (bI subI) (bI mulI) (bI quoI) (bI remI) (bI andI) (bI orI) (bI xorI) (bS shlI) (bS shrI) (bI andNotI) (bE eqlI eqB) (bE neqI neB) (bI lssI) (bI leqI) (bI gtrI) (bI geqI)
noncomputable def evUn (op : UnOp) : V → Option V := UnOp.casesOn op (fun x => onI x fun k n => iV k (Int.sub 0 n)) (fun _ => none) (fun x => onB x fun b => some (.b (notB b))) (fun _ => none)

/-- the place and the value of a key -/
noncomputable def findV (t : TypeId) (k : V) (l : List Ent) : Nat → Option (Option (Nat × V × Nat)) := @List.rec Ent (fun _ => Nat → Option (Option (Nat × V × Nat))) (fun _ => some none)
  (fun e _ ih j => ob (eqV E t k e.1) fun q => @Bool.rec (fun _ => Option (Option (Nat × V × Nat))) (ih (Nat.add j 1)) (some (some (j, e.2.1, e.2.2))) q) l
noncomputable def keyOk (t : TypeId) (k : V) (x : Option β) : Option β := V.casesOn k (fun _ => none) (fun _ _ => desc E t fun d => onIntD d fun _ => x) (fun _ => none) (fun _ _ => none) none (fun _ _ _ _ => none) none (fun _ => none) none (fun _ _ => none) none (fun _ _ => none) none (fun l => guardB (andB (andB (Nat.blt 0 (E.flat t)) (Nat.beq (len l) (E.flat t))) (allInts l)) x) (fun _ => none) (fun _ _ _ => none)
noncomputable def setAt (u : V) (l : List Ent) : Nat → List Ent := @List.rec Ent (fun _ => Nat → List Ent) (fun _ => []) (fun e t ih j => @Bool.rec (fun _ => List Ent) (e :: ih (Nat.sub j 1)) ((e.1, u, e.2.2) :: t) (Nat.beq j 0)) l
noncomputable def delAt (l : List Ent) : Nat → List Ent := @List.rec Ent (fun _ => Nat → List Ent) (fun _ => []) (fun e t ih j => @Bool.rec (fun _ => List Ent) (e :: ih (Nat.sub j 1)) t (Nat.beq j 0)) l
/-- within bounds -/
noncomputable def inB (i : Int) (n : Nat) (f : Nat → Option β) : Option β := @Int.rec (fun _ => Option β) (fun m => guardB (Nat.blt m n) (f m)) (fun _ => none) i
noncomputable def upTo (i : Int) (n : Nat) (f : Nat → Option β) : Option β := @Int.rec (fun _ => Option β) (fun m => guardB (Nat.ble m n) (f m)) (fun _ => none) i
/-- parts laid over cells -/
noncomputable def fillV (place : Nat → Option (Nat × Nat)) (l : List (Nat × V)) : List V → Option (List V) := @List.rec (Nat × V) (fun _ => List V → Option (List V)) (fun cs => some cs)
  (fun p _ ih cs => ob (place p.1) fun q => guardB (Nat.beq (len p.2.cells) q.2) (ob (putL p.2.cells cs q.1) ih)) l
noncomputable def placesL (fs : List Field) : Option (List (Nat × Nat)) := mapO (fun f => sizeT E f.type fun n => some (f.offset, n)) fs
/-- the first cells that a slice shows -/
noncomputable def showS (sz : Nat) (h : H) (x : V) (m : Nat) (f : List V → Option β) : Option β := onSl x (guardB (Nat.beq m 0) (f [])) fun r o n _ => guardB (Nat.ble m n) (onCells h r fun _ cs => ob (subL cs o (Nat.mul m sz)) f)
noncomputable def lenS (x : V) (f : Nat → Option β) : Option β := onSl x (f 0) fun _ _ n _ => f n
noncomputable def newRow (h : H) (nx : Nat) (t : TypeId) (cs : List V) : H := h.put (some (.cells t cs)) nx
noncomputable def app0 (e sz bytes n : Nat) (news : List V) (h : H) (nx : Nat) : Out := @Bool.rec (fun _ => Out) (guardB (Nat.ble (Nat.mul n bytes) 1048576) (out (.sl nx 0 n none) (newRow h nx e news) (Nat.add nx 1))) (out .sn h nx) (Nat.beq n 0)
noncomputable def app1 (e sz bytes n : Nat) (news : List V) (s : V) (r o k c : Nat) (h : H) (nx : Nat) : Out := @Bool.rec (fun _ => Out)
  (showS sz h s k fun old => guardB (Nat.ble (Nat.mul (Nat.add k n) bytes) 1048576) (out (.sl nx 0 (Nat.add k n) none) (newRow h nx e (app old news)) (Nat.add nx 1)))
  (onCells h r fun t cs => ob (putL news cs (Nat.add o (Nat.mul k sz))) fun cs' => out (.sl r o (Nat.add k n) (some c)) (h.put (some (.cells t cs')) r) nx) (Nat.ble (Nat.add k n) c)
noncomputable def app2 (e sz bytes n : Nat) (news : List V) (s : V) (r o k : Nat) (h : H) (nx : Nat) : Out := @Bool.rec (fun _ => Out)
  (onCells h r fun t cs => guardB (andB (Nat.beq o 0) (andB (Nat.beq (Nat.mul k sz) (len cs)) (andB (Nat.beq t e) (Nat.ble (Nat.mul (Nat.add k n) bytes) 1048576)))) (out (.sl nx 0 (Nat.add k n) none) (newRow (h.put none r) nx e (app cs news)) (Nat.add nx 1)))
  (out s h nx) (Nat.beq n 0)
/-- append -/
noncomputable def evApp (e : TypeId) (s x : V) (h : H) (nx : Nat) : Out := ob (E.P.info? e) fun inf => ob inf.zero fun z => lenS x fun n => showS inf.size h x n fun news => guardB (andB (Nat.blt 0 inf.size) (andB (Nat.blt 0 inf.bytes) (andB (Nat.beq z.cells.size inf.size) (allOne news))))
  (onSl s (app0 e inf.size inf.bytes n news h nx) fun r o k c => @Option.rec Nat (fun _ => Out) (app2 e inf.size inf.bytes n news s r o k h nx) (fun c => app1 e inf.size inf.bytes n news s r o k c h nx) c)
noncomputable def evCopy (e : TypeId) (d s : V) (h : H) (nx : Nat) : Out := sizeT E e fun sz => lenS d fun dn => lenS s fun sn => showS sz h s (min sn dn) fun l => guardB (allOne l)
  (onSl d (out (.i .i64 0) h nx) fun r o _ _ => onCells h r fun t cs => ob (putL l cs o) fun cs' => out (.i .i64 (Int.ofNat (min sn dn))) (h.put (some (.cells t cs')) r) nx)
noncomputable def minV (x y : V) : Option V := onI x fun k a => onI y fun _ b => some (.i k (@Bool.rec (fun _ => Int) a b (ltI b a)))
noncomputable def maxV (x y : V) : Option V := onI x fun k a => onI y fun _ b => some (.i k (@Bool.rec (fun _ => Int) a b (ltI a b)))
noncomputable def foldV (f : V → V → Option V) (l : List V) : V → Option V := @List.rec V (fun _ => V → Option V) (fun x => some x) (fun y _ ih x => ob (f x y) ih) l
abbrev Blt := Env → List TypeId → List V → H → Nat → Out
noncomputable def hd {α : Type} (l : List α) : Option α := @List.rec α (fun _ => Option α) none (fun x _ _ => some x) l
noncomputable def tl {α : Type} (l : List α) : List α := @List.rec α (fun _ => List α) [] (fun _ t _ => t) l
noncomputable def bNone : Blt := fun _ _ _ _ _ => none
noncomputable def nOut (n : Nat) (h : H) (nx : Nat) : Out := out (.i .i64 (Int.ofNat n)) h nx
noncomputable def bLen : Blt := fun E ts l h nx => ob (hd ts) fun t => ob (hd l) fun x => desc E t fun d => TypeDesc.casesOn d none none (fun _ => none) (fun _ => none) (fun _ => none) (onStr x fun s => nOut s.size h nx) none (fun _ => none)
  (fun _ => V.casesOn x (fun _ => none) (fun _ _ => none) (fun _ => none) (fun _ _ => none) none (fun _ _ n _ => nOut n h nx) (nOut 0 h nx) (fun _ => none) none (fun _ _ => none) none (fun _ _ => none) none (fun _ => none) (fun _ => none) (fun _ n c => guardB (Nat.beq c 1) (nOut n h nx)))
  (fun n _ => nOut n h nx) (fun _ _ => onM x (nOut 0 h nx) fun r => onMap h r fun es _ => nOut (len es) h nx) (fun _ _ => none) (fun _ => none) (fun _ _ _ => none) (fun _ => none) (fun _ => none) (fun _ _ => none)
noncomputable def bCap : Blt := fun E ts l h nx => ob (hd ts) fun t => ob (hd l) fun x => desc E t fun d => onSliceD d fun _ => onSl x (nOut 0 h nx) fun _ _ _ c => ob c fun c => nOut c h nx
noncomputable def bMin : Blt := fun E ts l h nx => ob (hd l) fun x => ob (foldV minV (tl l) x) fun v => out v h nx
noncomputable def bMax : Blt := fun E ts l h nx => ob (hd l) fun x => ob (foldV maxV (tl l) x) fun v => out v h nx
noncomputable def bAppend : Blt := fun E ts l h nx => ob (hd ts) fun t => ob (hd (tl ts)) fun t' => ob (hd l) fun s => ob (hd (tl l)) fun x => desc E t fun d => onSliceD d fun e => desc E t' fun d' => onSliceD d' fun _ => evApp E e s x h nx
noncomputable def bCopy : Blt := fun E ts l h nx => ob (hd ts) fun t => ob (hd l) fun s => ob (hd (tl l)) fun x => desc E t fun d => onSliceD d fun e => evCopy E e s x h nx
noncomputable def bDelete : Blt := fun E ts l h nx => ob (hd ts) fun t => ob (hd l) fun m => ob (hd (tl l)) fun k => desc E t fun d => onMapD d fun kt _ => keyOk E kt k
  (onM m (out .undef h nx) fun r => onMap h r fun es c => ob (findV E kt k es 0) fun q => @Option.rec (Nat × V × Nat) (fun _ => Out) (out .undef (h.put (some (.map es c)) r) nx) (fun q => out .undef (h.put (some (.map (delAt es q.1) c)) r) nx) q)
noncomputable def bClear : Blt := fun E ts l h nx => ob (hd ts) fun t => ob (hd l) fun x => V.casesOn x (fun _ => none) (fun _ _ => none) (fun _ => none) (fun _ _ => none) none
  (fun r o n _ => desc E t fun d => onSliceD d fun e => ob (E.P.info? e) fun inf => zeroT E e fun z => onCells h r fun ty cs => guardB (Nat.beq (len z) inf.size) (ob (putL (rep n z) cs o) fun cs' => out .undef (h.put (some (.cells ty cs')) r) nx))
  (desc E t fun d => onSliceD d fun _ => out .undef h nx)
  (fun r => desc E t fun d => onMapD d fun _ _ => onMap h r fun _ c => out .undef (h.put (some (.map [] c)) r) nx) (desc E t fun d => onMapD d fun _ _ => out .undef h nx)
  (fun _ _ => none) none (fun _ _ => none) none (fun _ => none) (fun _ => none) (fun _ _ _ => none)
noncomputable def evBuiltin (b : Builtin) : Blt := Builtin.casesOn b bAppend bCap bClear bNone bNone bCopy bDelete bNone bLen bNone bMax bMin bNone bNone bNone bNone bNone bNone bNone bNone bNone bNone bNone bNone bNone bNone

/-- a slice expression's bounds: from, to, beyond (c: the room, if it is known) -/
noncomputable def bounds (n : Nat) (c : Option Nat) (lo hi mx : Option V) (f : Nat → Nat → Option Nat → Option β) : Option β :=
  ob (@Option.rec V (fun _ => Option (Option Nat)) (some c) (fun v => onI v fun _ i => upTo i (@Option.rec Nat (fun _ => Nat) n (fun c => c) c) fun m => some (some m)) mx) fun m =>
  ob (@Option.rec V (fun _ => Option Nat) (@Option.rec V (fun _ => Option Nat) (some n) (fun _ => none) mx) (fun v => onI v fun _ i => upTo i (@Option.rec Nat (fun _ => Nat) n (fun c => c) m) fun k => some k) hi) fun k =>
  ob (@Option.rec V (fun _ => Option Nat) (some 0) (fun v => onI v fun _ i => upTo i k fun l => some l) lo) fun l => f l k m
noncomputable def cut (r o sz l k m : Nat) (h : H) (nx : Nat) : Out := out (.sl r (@Bool.rec (fun _ => Nat) (Nat.add o (Nat.mul l sz)) o (Nat.beq m l)) (Nat.sub k l) (some (Nat.sub m l))) h nx
noncomputable def cutU (e r o sz n l k : Nat) (h : H) (nx : Nat) : Out := @Bool.rec (fun _ => Out) (onCells h r fun t _ => guardB (andB (Nat.beq t e) (Nat.blt l n)) (out (.sl r (Nat.add o (Nat.mul l sz)) (Nat.sub k l) none) h nx)) (out (.sl r o k none) h nx) (Nat.beq l 0)
noncomputable def evSlice (t : TypeId) (x : V) (lo hi mx : Option V) (h : H) (nx : Nat) : Out := desc E t fun d => TypeDesc.casesOn d none none (fun _ => none) (fun _ => none) (fun _ => none) none none (fun _ => none)
  (fun e => onSl x (sizeT E e fun _ => bounds 0 (some 0) lo hi mx fun _ _ _ => out .sn h nx) fun r o n c => sizeT E e fun sz => bounds n c lo hi mx fun l k m => @Option.rec Nat (fun _ => Out) (cutU e r o sz n l k h nx) (fun m => cut r o sz l k m h nx) m)
  (fun n e => onP x fun r o => sizeT E e fun sz => bounds n (some n) lo hi mx fun l k m => ob m fun m => cut r o sz l k m h nx)
  (fun _ _ => none) (fun _ _ => none) (fun _ => none) (fun _ _ _ => none) (fun _ => none) (fun _ => none) (fun _ _ => none)
noncomputable def leftOf (seen : List Nat) (l : List Ent) : List Ent := @List.rec Ent (fun _ => List Ent) [] (fun e _ ih => @Bool.rec (fun _ => List Ent) (e :: ih) ih (anyB (fun b => Nat.beq b e.2.2) seen)) l
noncomputable def nextOf (q r since clock : Nat) (seen : List Nat) (h : H) (nx : Nat) (l : List Ent) : Out := @List.rec Ent (fun _ => Out) (out (.tup [.b false]) h nx)
  (fun e t _ => @List.rec Ent (fun _ => Out) (guardB (Nat.blt e.2.2 since) (out (.tup [.b true, e.1, e.2.1]) (h.put (some (.iter (some r) since (snoc seen e.2.2) clock)) q) nx)) (fun _ _ _ => none) t) l
noncomputable def evNext (it : V) (h : H) (nx : Nat) : Out := onP it fun q o => guardB (Nat.beq o 0) (onIter h q fun m since seen last => @Option.rec Nat (fun _ => Out) (out (.tup [.b false]) h nx)
  (fun r => onMap h r fun es clock => guardB (andB (Nat.beq since clock) (andB (Nat.beq last clock) (allB (fun e => Nat.blt e.2.2 clock) es))) (nextOf q r since clock seen h nx (leftOf seen es))) m)
noncomputable def lastOf (l : List Nat) : Option Nat := @List.rec Nat (fun _ => Option Nat) none (fun x _ ih => @Option.rec Nat (fun _ => Option Nat) (some x) (fun y => some y) ih) l
noncomputable def findB (b : Nat) (l : List Ent) : Option (V × V) := @List.rec Ent (fun _ => Option (V × V)) none (fun e _ ih => @Bool.rec (fun _ => Option (V × V)) ih (some (e.1, e.2.1)) (Nat.beq e.2.2 b)) l
noncomputable def evEntry (it : V) (h : H) (nx : Nat) : Out := onP it fun q o => guardB (Nat.beq o 0) (onIter h q fun m since seen last => ob m fun r => onMap h r fun es clock => guardB (Nat.beq clock last) (ob (lastOf seen) fun b => ob (findB b es) fun p => out (.tup [p.1, p.2]) h nx))

/-! ### the operations -/
structure Fns where
  code : Code → Tr V → H → Nat → Option (Nat × Nat × Tr V × H × Nat)
  call : FuncId → List V → H → Nat → Out
abbrev OpF := Env → Fns → G → H → Nat → Out
noncomputable def oNone : OpF := fun _ _ _ _ _ => none
noncomputable def oMove (x : Operand) : OpF := fun _ _ g h nx => ob (val g x) fun v => out v h nx
noncomputable def oPick (c a b : Operand) : OpF := fun _ _ g h nx => ob (val g c) fun v => onB v fun t => ob (val g (@Bool.rec (fun _ => Operand) b a t)) fun v => out v h nx
noncomputable def oAlloc (e : TypeId) : OpF := fun E _ _ h nx => zeroT E e fun z => guardB (allOne z) (out (.p nx 0) (newRow h nx e z) (Nat.add nx 1))
noncomputable def oBox (e : TypeId) (x : Operand) : OpF := fun E _ g h nx => ob (E.P.info? e) fun _ => ob (val g x) fun v => guardB (allOne v.cells) (out (.p nx 0) (newRow h nx e v.cells) (Nat.add nx 1))
noncomputable def oBuild (t : TypeId) (ps : Array (Nat × Operand)) : OpF := fun E _ g h nx => zeroT E t fun z => ob (valsP g ps.toList) fun ps => desc E t fun d => TypeDesc.casesOn d none none (fun _ => none) (fun _ => none) (fun _ => none) none none (fun _ => none) (fun _ => none)
  (fun _ e => sizeT E e fun sz => ob (fillV (fun j => some (Nat.mul j sz, sz)) ps z) fun l => out (.agg l) h nx) (fun _ _ => none) (fun _ _ => none) (fun fs => ob (placesL E fs.toList) fun pl => ob (fillV (nth pl) ps z) fun l => out (.agg l) h nx) (fun _ _ _ => none) (fun _ => none) (fun _ => none) (fun _ _ => none)
noncomputable def oBuildSlice (t : TypeId) (n : Nat) (ps : Array (Nat × Operand)) : OpF := fun E _ g h nx => desc E t fun d => onSliceD d fun e => zeroT E e fun z => sizeT E e fun sz => ob (valsP g ps.toList) fun ps => guardB (andB (Nat.beq (len z) sz) (andB (Nat.blt 0 sz) (Nat.ble (Nat.mul n sz) 65536)))
  (ob (fillV (fun j => some (Nat.mul j sz, sz)) ps (rep n z)) fun l => guardB (allOne l) (out (.sl nx 0 n (some n)) (newRow h nx e l) (Nat.add nx 1)))
noncomputable def oLoad (t : TypeId) (x : Operand) : OpF := fun E _ g h nx => ob (val g x) fun v => onP v fun r o => onCells h r fun _ cs => ob (partV E t cs o) fun v => out v h nx
noncomputable def oStore (t : TypeId) (x y : Operand) : OpF := fun E _ g h nx => ob (val g x) fun a => ob (val g y) fun v => onP a fun r o => onCells h r fun ty cs => sizeT E t fun n => guardB (andB (Nat.beq (len v.cells) n) (allOne v.cells)) (ob (putL v.cells cs o) fun cs' => out .undef (h.put (some (.cells ty cs')) r) nx)
noncomputable def oNilCheck (x : Operand) : OpF := fun _ _ g h nx => ob (val g x) fun v => V.casesOn v (fun _ => none) (fun _ _ => none) (fun _ => none) (fun _ _ => out v h nx) none (fun _ _ _ _ => none) none (fun _ => none) none (fun _ _ => out v h nx) none (fun _ _ => out v h nx) none (fun _ => none) (fun _ => none) (fun _ _ _ => none)
noncomputable def oBin (op : BinOp) (t : TypeId) (x y : Operand) (_ : TypeId) : OpF := fun E _ g h nx => ob (val g x) fun a => ob (val g y) fun b => ob (evBin op E t a b) fun v => out v h nx
noncomputable def oUn (op : UnOp) (_ : TypeId) (x : Operand) : OpF := fun E _ g h nx => ob (val g x) fun a => ob (evUn op a) fun v => out v h nx
/-- bytes stay bytes -/
noncomputable def convS (s t : TypeId) (v : V) (ds : TypeDesc) (e : TypeId) : OpF := fun E _ g h nx => onSliceD ds fun _ => guardB (Nat.beq s t) (desc E e fun d => onIntD d fun k => guardB (Nat.beq (kNum k) 4) (onSl v none fun r o n c => onCells h r fun t cs => out v (h.put (some (.cells t cs)) r) nx))
noncomputable def oConvert (s t : TypeId) (x : Operand) : OpF := fun E F g h nx => desc E s fun ds => desc E t fun d => ob (val g x) fun v => TypeDesc.casesOn d none none (fun k => onI v fun _ n => out (.i k (wr k n)) h nx) (fun _ => none) (fun _ => none) none none (fun _ => none)
  (fun e => convS s t v ds e E F g h nx) (fun _ _ => none) (fun _ _ => none) (fun _ _ => none) (fun _ => none) (fun _ _ _ => none) (fun _ => none) (fun _ => none) (fun _ _ => none)
noncomputable def oMakeInterface (t : TypeId) (x : Operand) : OpF := fun E _ g h nx => desc E t fun d => guardB (notB (isIfaceD d)) (ob (val g x) fun v => out (.ifc t v) h nx)
noncomputable def oMakeFunc (fn : Fn) (first caps : Array Operand) : OpF := fun E _ g h nx => Fn.casesOn fn (fun f => @List.rec Operand (fun _ => Out) (ob (vals g caps.toList) fun l => out (.fn f l) h nx) (fun _ _ _ => none) first.toList) (fun _ => none) (fun _ _ => none) (fun _ _ _ _ => none) (fun _ => none)
noncomputable def oMakeMap (t : TypeId) (r : Option Operand) : OpF := fun E _ g h nx => desc E t fun d => onMapD d fun _ _ => ob (optV g r) fun v => @Option.rec V (fun _ => Out) (out (.m nx) (h.put (some (.map [] 0)) nx) (Nat.add nx 1)) (fun v => onI v fun _ _ => out (.m nx) (h.put (some (.map [] 0)) nx) (Nat.add nx 1)) v
noncomputable def oMakeSlice (t : TypeId) (l c : Operand) : OpF := fun E _ g h nx => desc E t fun d => onSliceD d fun e => ob (val g l) fun l => ob (val g c) fun c => onN l fun l => onN c fun c => ob (E.P.info? e) fun inf => zeroT E e fun z =>
  guardB (andB (Nat.beq (len z) inf.size) (andB (Nat.blt 0 inf.size) (andB (Nat.ble l c) (andB (Nat.ble (Nat.mul c inf.bytes) 1048576) (andB (Nat.ble c 1048576) (allOne z)))))) (out (.sl nx 0 l (some c)) (newRow h nx e (rep c z)) (Nat.add nx 1))
noncomputable def oSlice (t : TypeId) (x : Operand) (lo hi mx : Option Operand) : OpF := fun E _ g h nx => ob (val g x) fun v => ob (optV g lo) fun lo => ob (optV g hi) fun hi => ob (optV g mx) fun mx => evSlice E t v lo hi mx h nx
noncomputable def oFieldAddr (s : TypeId) (x : Operand) (j : Nat) : OpF := fun E _ g h nx => desc E s fun d => onStructD d fun fs => ob (val g x) fun v => onP v fun r o => ob (nth fs.toList j) fun f => sizeT E f.type fun n => guardB (notB (Nat.beq n 0)) (out (.p r (Nat.add o f.offset)) h nx)
noncomputable def oField (s : TypeId) (x : Operand) (j : Nat) : OpF := fun E _ g h nx => desc E s fun d => onStructD d fun fs => ob (val g x) fun v => onAgg v fun l => ob (nth fs.toList j) fun f => ob (partV E f.type l f.offset) fun v => out v h nx
noncomputable def oIndexAddr (t : TypeId) (x y : Operand) : OpF := fun E _ g h nx => desc E t fun d => ob (val g x) fun v => ob (val g y) fun w => onI w fun _ i => TypeDesc.casesOn d none none (fun _ => none) (fun _ => none) (fun _ => none) none none (fun _ => none)
  (fun e => onSl v none fun r o n _ => inB i n fun j => sizeT E e fun sz => out (.p r (Nat.add o (Nat.mul j sz))) h nx)
  (fun n e => onP v fun r o => inB i n fun j => sizeT E e fun sz => out (.p r (Nat.add o (Nat.mul j sz))) h nx)
  (fun _ _ => none) (fun _ _ => none) (fun _ => none) (fun _ _ _ => none) (fun _ => none) (fun _ => none) (fun _ _ => none)
noncomputable def oIndex (t : TypeId) (x y : Operand) : OpF := fun E _ g h nx => desc E t fun d => ob (val g x) fun v => ob (val g y) fun w => TypeDesc.casesOn d none none (fun _ => none) (fun _ => none) (fun _ => none)
  (onStr v fun s => onN w fun j => ob (nth s.data.toList j) fun c => out (.i .u8 (Int.ofNat c.toNat)) h nx) none (fun _ => none) (fun _ => none)
  (fun n e => onAgg v fun l => onI w fun _ i => inB i n fun j => sizeT E e fun sz => ob (partV E e l (Nat.mul j sz)) fun v => out v h nx)
  (fun _ _ => none) (fun _ _ => none) (fun _ => none) (fun _ _ _ => none) (fun _ => none) (fun _ => none) (fun _ _ => none)
noncomputable def pairOk (ok : Bool) (v : V) (b : Bool) (h : H) (nx : Nat) : Out := @Bool.rec (fun _ => Out) (out v h nx) (out (.tup [v, .b b]) h nx) ok
noncomputable def zeroV (e : TypeId) (f : V → Option β) : Option β := ob (E.P.info? e) fun i => ob i.zero fun z => ob (ofValue z) f
noncomputable def oLookup (t : TypeId) (x y : Operand) (ok : Bool) : OpF := fun E _ g h nx => desc E t fun d => onMapD d fun kt e => ob (val g x) fun m => ob (val g y) fun k => keyOk E kt k
  (ob (onM m (some []) fun r => onMap h r fun es _ => some es) fun es => ob (findV E kt k es 0) fun q => @Option.rec (Nat × V × Nat) (fun _ => Out) (zeroV E e fun z => pairOk ok z false h nx) (fun q => pairOk ok q.2.1 true h nx) q)
noncomputable def oMapUpdate (t : TypeId) (m k x : Operand) : OpF := fun E _ g h nx => desc E t fun d => onMapD d fun kt _ => ob (val g m) fun m => ob (val g k) fun k => ob (val g x) fun v => onM m none fun r => keyOk E kt k (onMap h r fun es c => ob (findV E kt k es 0) fun q =>
  @Option.rec (Nat × V × Nat) (fun _ => Out) (out .undef (h.put (some (.map (snoc es (k, v, c)) (Nat.add c 1))) r) nx) (fun q => out .undef (h.put (some (.map (setAt v es q.1) c)) r) nx) q)
noncomputable def oMapEntry (t : TypeId) (m k : Operand) : OpF := fun E _ g h nx => desc E t fun d => onMapD d fun kt e => ob (val g m) fun m => ob (val g k) fun k => onM m none fun r => keyOk E kt k (onMap h r fun es c => ob (findV E kt k es 0) fun q =>
  @Option.rec (Nat × V × Nat) (fun _ => Out) (zeroV E e fun z => out (.tup [z, .i .i64 (Int.ofNat c)]) (h.put (some (.map (snoc es (k, z, c)) (Nat.add c 1))) r) nx) (fun q => out (.tup [q.2.1, .i .i64 (Int.ofNat q.2.2)]) (h.put (some (.map es c)) r) nx) q)
noncomputable def findAt (b : Nat) (l : List Ent) : Nat → Option Nat := @List.rec Ent (fun _ => Nat → Option Nat) (fun _ => none) (fun e _ ih j => @Bool.rec (fun _ => Option Nat) (ih (Nat.add j 1)) (some j) (Nat.beq e.2.2 b)) l
noncomputable def oEntryStore (_ : TypeId) (m s x : Operand) : OpF := fun E _ g h nx => ob (val g m) fun m => ob (val g s) fun s => ob (val g x) fun v => onM m none fun r => onN s fun b => onMap h r fun es c => ob (findAt b es 0) fun j => out .undef (h.put (some (.map (setAt v es j) c)) r) nx
noncomputable def oRange (t : TypeId) (x : Operand) : OpF := fun E _ g h nx => desc E t fun d => onMapD d fun _ _ => ob (val g x) fun m => onM m (out (.p nx 0) (h.put (some (.iter none 0 [] 0)) nx) (Nat.add nx 1)) fun r => onMap h r fun _ c => out (.p nx 0) (h.put (some (.iter (some r) c [] c)) nx) (Nat.add nx 1)
noncomputable def oNext (it : Operand) (str : Bool) : OpF := fun E _ g h nx => guardB (notB str) (ob (val g it) fun v => evNext v h nx)
noncomputable def oEntry (it : Operand) : OpF := fun E _ g h nx => ob (val g it) fun v => evEntry v h nx
noncomputable def oExtract (x : Operand) (j : Nat) : OpF := fun E _ g h nx => ob (val g x) fun v => onTup v fun l => ob (nth l j) fun v => out v h nx
noncomputable def oCall (c : Call) : OpF := fun E F g h nx => ob (vals g c.args.toList) fun l => Callee.casesOn c.callee (fun f => ob (val g f) fun v => onFn v fun k caps => F.call k (app l caps) h nx) (fun _ _ => none) (fun b => evBuiltin b E c.argTypes.toList l h nx)
noncomputable def evOp (op : Op) : OpF := Op.casesOn op oMove oMove oPick oAlloc oBox oBuild oBuildSlice oMapUpdate oLoad oStore (fun _ => oNone) (fun _ => oNone) oNilCheck oBin oUn oConvert (fun _ _ => oNone) oMakeInterface oMakeFunc oMakeMap (fun _ _ => oNone) oMakeSlice oSlice oFieldAddr oField oIndexAddr oIndex oLookup oMapUpdate oMapEntry oEntryStore oRange oNext oEntry (fun _ _ _ _ => oNone) oExtract oCall (fun _ => oNone) (fun _ => oNone) (fun _ => oNone) (fun _ _ => oNone) (fun _ _ _ => oNone) (fun _ _ => oNone)
end env2
end Go.Proofs.YtemkiobojboceaaGreat.Ev
