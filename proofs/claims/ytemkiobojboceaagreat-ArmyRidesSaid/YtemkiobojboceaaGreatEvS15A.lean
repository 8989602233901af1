/- What quiet operations leave be, and which slots an operation asks. No conditions: over any program. -/
import Derived.Test.YtemkiobojboceaaGreatEvS13
namespace Go.Proofs.YtemkiobojboceaaGreat.Ev
open Go Go.RowKit
set_option linter.unusedSimpArgs false
set_option linter.unusedVariables false

def PureF (f : H → Nat → Out) : Prop := ∀ (h : H) (nx : Nat) (v : V) (h1 : H) (nx1 : Nat), f h nx = some (v, h1, nx1) → h1 = h ∧ nx1 = nx ∧ ∀ h2 nx2, f h2 nx2 = some (v, h2, nx2)
def SameF (f : H → Nat → Out) : Prop := ∀ (h : H) (nx : Nat) (v : V) (h1 : H) (nx1 : Nat), f h nx = some (v, h1, nx1) → (∀ r, h1.get r = h.get r) ∧ nx1 = nx
theorem PureF.same {f : H → Nat → Out} (h : PureF f) : SameF f := fun _ _ _ _ _ he => by obtain ⟨rfl, rfl, _⟩ := h _ _ _ _ _ he; exact ⟨fun _ => rfl, rfl⟩
section
variable {α : Type}
theorem pure_out {v : V} : PureF (fun h nx => out v h nx) := fun _ _ _ _ _ he => by cases he; exact ⟨rfl, rfl, fun _ _ => rfl⟩
theorem pure_none : PureF (fun _ _ => none) := fun _ _ _ _ _ he => by cases he
theorem pure_ob {x : Option α} {f : α → H → Nat → Out} (hf : ∀ y, PureF (f y)) : PureF (fun h nx => ob x fun y => f y h nx) := by
  cases x with
  | none => exact pure_none
  | some y => exact hf y
theorem pure_guard {b : Bool} {f : H → Nat → Out} (hf : PureF f) : PureF (fun h nx => guardB b (f h nx)) := by
  cases b with
  | false => exact pure_none
  | true => exact hf
theorem pure_onB {v : V} {f : Bool → H → Nat → Out} (hf : ∀ y, PureF (f y)) : PureF (fun h nx => onB v fun y => f y h nx) := by cases v <;> first | exact pure_none | exact hf _
theorem pure_onI {v : V} {f : IntKind → Int → H → Nat → Out} (hf : ∀ y z, PureF (f y z)) : PureF (fun h nx => onI v fun y z => f y z h nx) := by cases v <;> first | exact pure_none | exact hf _ _
theorem pure_onP {v : V} {f : Nat → Nat → H → Nat → Out} (hf : ∀ y z, PureF (f y z)) : PureF (fun h nx => onP v fun y z => f y z h nx) := by cases v <;> first | exact pure_none | exact hf _ _
theorem pure_onFn {v : V} {f : FuncId → List V → H → Nat → Out} (hf : ∀ y z, PureF (f y z)) : PureF (fun h nx => onFn v fun y z => f y z h nx) := by cases v <;> first | exact pure_none | exact hf _ _
theorem pure_onAgg {v : V} {f : List V → H → Nat → Out} (hf : ∀ y, PureF (f y)) : PureF (fun h nx => onAgg v fun y => f y h nx) := by cases v <;> first | exact pure_none | exact hf _
theorem pure_onTup {v : V} {f : List V → H → Nat → Out} (hf : ∀ y, PureF (f y)) : PureF (fun h nx => onTup v fun y => f y h nx) := by cases v <;> first | exact pure_none | exact hf _
theorem pure_onStr {v : V} {f : ByteArray → H → Nat → Out} (hf : ∀ y, PureF (f y)) : PureF (fun h nx => onStr v fun y => f y h nx) := by cases v <;> first | exact pure_none | exact hf _
theorem pure_onN {v : V} {f : Nat → H → Nat → Out} (hf : ∀ y, PureF (f y)) : PureF (fun h nx => onN v fun y => f y h nx) := by
  cases v with
  | i k n => cases n <;> first | exact pure_none | exact hf _
  | _ => exact pure_none
theorem pure_onSl {v : V} {z : H → Nat → Out} {f : Nat → Nat → Nat → Option Nat → H → Nat → Out} (hz : PureF z) (hf : ∀ a b c d, PureF (f a b c d)) : PureF (fun h nx => onSl v (z h nx) fun a b c d => f a b c d h nx) := by cases v <;> first | exact pure_none | exact hf _ _ _ _ | exact hz
theorem pure_inB {i : Int} {n : Nat} {f : Nat → H → Nat → Out} (hf : ∀ y, PureF (f y)) : PureF (fun h nx => inB i n fun y => f y h nx) := by
  cases i with
  | ofNat m => exact pure_guard (hf m)
  | negSucc m => exact pure_none
theorem pure_desc {E : Env} {t : TypeId} {f : TypeDesc → H → Nat → Out} (hf : ∀ y, PureF (f y)) : PureF (fun h nx => desc E t fun y => f y h nx) := pure_ob hf
theorem pure_sizeT {E : Env} {t : TypeId} {f : Nat → H → Nat → Out} (hf : ∀ y, PureF (f y)) : PureF (fun h nx => sizeT E t fun y => f y h nx) := by unfold sizeT; apply pure_ob; intro i; exact hf _
theorem pure_zeroT {E : Env} {t : TypeId} {f : List V → H → Nat → Out} (hf : ∀ y, PureF (f y)) : PureF (fun h nx => zeroT E t fun y => f y h nx) := by unfold zeroT; apply pure_ob; intro i; apply pure_ob; intro z; apply pure_ob; intro y; exact hf _
theorem pure_onStructD {d : TypeDesc} {f : Array Field → H → Nat → Out} (hf : ∀ y, PureF (f y)) : PureF (fun h nx => onStructD d fun y => f y h nx) := by cases d <;> first | exact pure_none | exact hf _
theorem pure_onSliceD {d : TypeDesc} {f : TypeId → H → Nat → Out} (hf : ∀ y, PureF (f y)) : PureF (fun h nx => onSliceD d fun y => f y h nx) := by cases d <;> first | exact pure_none | exact hf _
end
theorem pure_op {E : Env} {F : Fns} {g : G} {op : Op} (hk : opKind op = 0) : PureF (evOp op E F g) := by
  cases op <;> first | (cases hk; done) | skip
  case move x => show PureF (fun h nx => oMove x E F g h nx); unfold oMove; (repeat (first | exact pure_none | exact pure_out | (apply pure_ob; intro _) | apply pure_guard | (apply pure_onN; intro _) | (apply pure_onB; intro _) | (apply pure_onI; intro _ _) | (apply pure_onP; intro _ _) | (apply pure_onFn; intro _ _) | (apply pure_onAgg; intro _) | (apply pure_onTup; intro _) | (apply pure_onStr; intro _) | (apply pure_onSl; exact pure_none; intro _ _ _ _) | (apply pure_inB; intro _) | (apply pure_desc; intro _) | (apply pure_sizeT; intro _) | (apply pure_zeroT; intro _) | (apply pure_onStructD; intro _) | (apply pure_onSliceD; intro _)))
  case assign x => show PureF (fun h nx => oMove x E F g h nx); unfold oMove; (repeat (first | exact pure_none | exact pure_out | (apply pure_ob; intro _) | apply pure_guard | (apply pure_onN; intro _) | (apply pure_onB; intro _) | (apply pure_onI; intro _ _) | (apply pure_onP; intro _ _) | (apply pure_onFn; intro _ _) | (apply pure_onAgg; intro _) | (apply pure_onTup; intro _) | (apply pure_onStr; intro _) | (apply pure_onSl; exact pure_none; intro _ _ _ _) | (apply pure_inB; intro _) | (apply pure_desc; intro _) | (apply pure_sizeT; intro _) | (apply pure_zeroT; intro _) | (apply pure_onStructD; intro _) | (apply pure_onSliceD; intro _)))
  case pick c x y => show PureF (fun h nx => oPick c x y E F g h nx); unfold oPick; (repeat (first | exact pure_none | exact pure_out | (apply pure_ob; intro _) | apply pure_guard | (apply pure_onN; intro _) | (apply pure_onB; intro _) | (apply pure_onI; intro _ _) | (apply pure_onP; intro _ _) | (apply pure_onFn; intro _ _) | (apply pure_onAgg; intro _) | (apply pure_onTup; intro _) | (apply pure_onStr; intro _) | (apply pure_onSl; exact pure_none; intro _ _ _ _) | (apply pure_inB; intro _) | (apply pure_desc; intro _) | (apply pure_sizeT; intro _) | (apply pure_zeroT; intro _) | (apply pure_onStructD; intro _) | (apply pure_onSliceD; intro _)))
  case build t ps => 
    show PureF (fun h nx => oBuild t ps E F g h nx)
    unfold oBuild
    apply pure_zeroT; intro z; apply pure_ob; intro l; apply pure_desc; intro d
    cases d <;> first | exact pure_none | skip
    · apply pure_sizeT; intro _; (repeat (first | exact pure_none | exact pure_out | (apply pure_ob; intro _) | apply pure_guard | (apply pure_onN; intro _) | (apply pure_onB; intro _) | (apply pure_onI; intro _ _) | (apply pure_onP; intro _ _) | (apply pure_onFn; intro _ _) | (apply pure_onAgg; intro _) | (apply pure_onTup; intro _) | (apply pure_onStr; intro _) | (apply pure_onSl; exact pure_none; intro _ _ _ _) | (apply pure_inB; intro _) | (apply pure_desc; intro _) | (apply pure_sizeT; intro _) | (apply pure_zeroT; intro _) | (apply pure_onStructD; intro _) | (apply pure_onSliceD; intro _)))
    · (repeat (first | exact pure_none | exact pure_out | (apply pure_ob; intro _) | apply pure_guard | (apply pure_onN; intro _) | (apply pure_onB; intro _) | (apply pure_onI; intro _ _) | (apply pure_onP; intro _ _) | (apply pure_onFn; intro _ _) | (apply pure_onAgg; intro _) | (apply pure_onTup; intro _) | (apply pure_onStr; intro _) | (apply pure_onSl; exact pure_none; intro _ _ _ _) | (apply pure_inB; intro _) | (apply pure_desc; intro _) | (apply pure_sizeT; intro _) | (apply pure_zeroT; intro _) | (apply pure_onStructD; intro _) | (apply pure_onSliceD; intro _)))
  case nilCheck x => 
    show PureF (fun h nx => oNilCheck x E F g h nx)
    unfold oNilCheck
    apply pure_ob; intro v
    cases v <;> first | exact pure_none | exact pure_out
  case binOp b t x y t' => show PureF (fun h nx => oBin b t x y t' E F g h nx); unfold oBin; (repeat (first | exact pure_none | exact pure_out | (apply pure_ob; intro _) | apply pure_guard | (apply pure_onN; intro _) | (apply pure_onB; intro _) | (apply pure_onI; intro _ _) | (apply pure_onP; intro _ _) | (apply pure_onFn; intro _ _) | (apply pure_onAgg; intro _) | (apply pure_onTup; intro _) | (apply pure_onStr; intro _) | (apply pure_onSl; exact pure_none; intro _ _ _ _) | (apply pure_inB; intro _) | (apply pure_desc; intro _) | (apply pure_sizeT; intro _) | (apply pure_zeroT; intro _) | (apply pure_onStructD; intro _) | (apply pure_onSliceD; intro _)))
  case unOp u t x => show PureF (fun h nx => oUn u t x E F g h nx); unfold oUn; (repeat (first | exact pure_none | exact pure_out | (apply pure_ob; intro _) | apply pure_guard | (apply pure_onN; intro _) | (apply pure_onB; intro _) | (apply pure_onI; intro _ _) | (apply pure_onP; intro _ _) | (apply pure_onFn; intro _ _) | (apply pure_onAgg; intro _) | (apply pure_onTup; intro _) | (apply pure_onStr; intro _) | (apply pure_onSl; exact pure_none; intro _ _ _ _) | (apply pure_inB; intro _) | (apply pure_desc; intro _) | (apply pure_sizeT; intro _) | (apply pure_zeroT; intro _) | (apply pure_onStructD; intro _) | (apply pure_onSliceD; intro _)))
  case makeInterface t x => show PureF (fun h nx => oMakeInterface t x E F g h nx); unfold oMakeInterface; (repeat (first | exact pure_none | exact pure_out | (apply pure_ob; intro _) | apply pure_guard | (apply pure_onN; intro _) | (apply pure_onB; intro _) | (apply pure_onI; intro _ _) | (apply pure_onP; intro _ _) | (apply pure_onFn; intro _ _) | (apply pure_onAgg; intro _) | (apply pure_onTup; intro _) | (apply pure_onStr; intro _) | (apply pure_onSl; exact pure_none; intro _ _ _ _) | (apply pure_inB; intro _) | (apply pure_desc; intro _) | (apply pure_sizeT; intro _) | (apply pure_zeroT; intro _) | (apply pure_onStructD; intro _) | (apply pure_onSliceD; intro _)))
  case makeFunc fn first caps =>
    show PureF (fun h nx => oMakeFunc fn first caps E F g h nx)
    unfold oMakeFunc
    cases fn <;> first | exact pure_none | skip
    cases first.toList with
    | nil => (repeat (first | exact pure_none | exact pure_out | (apply pure_ob; intro _) | apply pure_guard | (apply pure_onN; intro _) | (apply pure_onB; intro _) | (apply pure_onI; intro _ _) | (apply pure_onP; intro _ _) | (apply pure_onFn; intro _ _) | (apply pure_onAgg; intro _) | (apply pure_onTup; intro _) | (apply pure_onStr; intro _) | (apply pure_onSl; exact pure_none; intro _ _ _ _) | (apply pure_inB; intro _) | (apply pure_desc; intro _) | (apply pure_sizeT; intro _) | (apply pure_zeroT; intro _) | (apply pure_onStructD; intro _) | (apply pure_onSliceD; intro _)))
    | cons _ _ => exact pure_none
  case fieldAddr s x j => show PureF (fun h nx => oFieldAddr s x j E F g h nx); unfold oFieldAddr; (repeat (first | exact pure_none | exact pure_out | (apply pure_ob; intro _) | apply pure_guard | (apply pure_onN; intro _) | (apply pure_onB; intro _) | (apply pure_onI; intro _ _) | (apply pure_onP; intro _ _) | (apply pure_onFn; intro _ _) | (apply pure_onAgg; intro _) | (apply pure_onTup; intro _) | (apply pure_onStr; intro _) | (apply pure_onSl; exact pure_none; intro _ _ _ _) | (apply pure_inB; intro _) | (apply pure_desc; intro _) | (apply pure_sizeT; intro _) | (apply pure_zeroT; intro _) | (apply pure_onStructD; intro _) | (apply pure_onSliceD; intro _)))
  case field s x j => show PureF (fun h nx => oField s x j E F g h nx); unfold oField; (repeat (first | exact pure_none | exact pure_out | (apply pure_ob; intro _) | apply pure_guard | (apply pure_onN; intro _) | (apply pure_onB; intro _) | (apply pure_onI; intro _ _) | (apply pure_onP; intro _ _) | (apply pure_onFn; intro _ _) | (apply pure_onAgg; intro _) | (apply pure_onTup; intro _) | (apply pure_onStr; intro _) | (apply pure_onSl; exact pure_none; intro _ _ _ _) | (apply pure_inB; intro _) | (apply pure_desc; intro _) | (apply pure_sizeT; intro _) | (apply pure_zeroT; intro _) | (apply pure_onStructD; intro _) | (apply pure_onSliceD; intro _)))
  case indexAddr t x y =>
    show PureF (fun h nx => oIndexAddr t x y E F g h nx)
    unfold oIndexAddr
    apply pure_desc; intro d; apply pure_ob; intro v; apply pure_ob; intro w; apply pure_onI; intro _ i
    cases d <;> first | exact pure_none | skip
    · apply pure_onSl; exact pure_none; intro _ _ _ _; (repeat (first | exact pure_none | exact pure_out | (apply pure_ob; intro _) | apply pure_guard | (apply pure_onN; intro _) | (apply pure_onB; intro _) | (apply pure_onI; intro _ _) | (apply pure_onP; intro _ _) | (apply pure_onFn; intro _ _) | (apply pure_onAgg; intro _) | (apply pure_onTup; intro _) | (apply pure_onStr; intro _) | (apply pure_onSl; exact pure_none; intro _ _ _ _) | (apply pure_inB; intro _) | (apply pure_desc; intro _) | (apply pure_sizeT; intro _) | (apply pure_zeroT; intro _) | (apply pure_onStructD; intro _) | (apply pure_onSliceD; intro _)))
    · apply pure_onP; intro _ _; (repeat (first | exact pure_none | exact pure_out | (apply pure_ob; intro _) | apply pure_guard | (apply pure_onN; intro _) | (apply pure_onB; intro _) | (apply pure_onI; intro _ _) | (apply pure_onP; intro _ _) | (apply pure_onFn; intro _ _) | (apply pure_onAgg; intro _) | (apply pure_onTup; intro _) | (apply pure_onStr; intro _) | (apply pure_onSl; exact pure_none; intro _ _ _ _) | (apply pure_inB; intro _) | (apply pure_desc; intro _) | (apply pure_sizeT; intro _) | (apply pure_zeroT; intro _) | (apply pure_onStructD; intro _) | (apply pure_onSliceD; intro _)))
  case index t x y =>
    show PureF (fun h nx => oIndex t x y E F g h nx)
    unfold oIndex
    apply pure_desc; intro d; apply pure_ob; intro v; apply pure_ob; intro w
    cases d <;> first | exact pure_none | skip
    · apply pure_onStr; intro _; (repeat (first | exact pure_none | exact pure_out | (apply pure_ob; intro _) | apply pure_guard | (apply pure_onN; intro _) | (apply pure_onB; intro _) | (apply pure_onI; intro _ _) | (apply pure_onP; intro _ _) | (apply pure_onFn; intro _ _) | (apply pure_onAgg; intro _) | (apply pure_onTup; intro _) | (apply pure_onStr; intro _) | (apply pure_onSl; exact pure_none; intro _ _ _ _) | (apply pure_inB; intro _) | (apply pure_desc; intro _) | (apply pure_sizeT; intro _) | (apply pure_zeroT; intro _) | (apply pure_onStructD; intro _) | (apply pure_onSliceD; intro _)))
    · apply pure_onAgg; intro _; (repeat (first | exact pure_none | exact pure_out | (apply pure_ob; intro _) | apply pure_guard | (apply pure_onN; intro _) | (apply pure_onB; intro _) | (apply pure_onI; intro _ _) | (apply pure_onP; intro _ _) | (apply pure_onFn; intro _ _) | (apply pure_onAgg; intro _) | (apply pure_onTup; intro _) | (apply pure_onStr; intro _) | (apply pure_onSl; exact pure_none; intro _ _ _ _) | (apply pure_inB; intro _) | (apply pure_desc; intro _) | (apply pure_sizeT; intro _) | (apply pure_zeroT; intro _) | (apply pure_onStructD; intro _) | (apply pure_onSliceD; intro _)))
  case extract x j => show PureF (fun h nx => oExtract x j E F g h nx); unfold oExtract; (repeat (first | exact pure_none | exact pure_out | (apply pure_ob; intro _) | apply pure_guard | (apply pure_onN; intro _) | (apply pure_onB; intro _) | (apply pure_onI; intro _ _) | (apply pure_onP; intro _ _) | (apply pure_onFn; intro _ _) | (apply pure_onAgg; intro _) | (apply pure_onTup; intro _) | (apply pure_onStr; intro _) | (apply pure_onSl; exact pure_none; intro _ _ _ _) | (apply pure_inB; intro _) | (apply pure_desc; intro _) | (apply pure_sizeT; intro _) | (apply pure_zeroT; intro _) | (apply pure_onStructD; intro _) | (apply pure_onSliceD; intro _)))
  case call c =>
    obtain ⟨callee, args, ts⟩ := c
    cases callee with
    | value _ => cases hk
    | invoke _ _ => cases hk
    | builtin b =>
      show PureF (fun h nx => ob (vals g args.toList) fun l => evBuiltin b E ts.toList l h nx)
      apply pure_ob; intro l
      cases b <;> first | (cases hk; done) | skip
      · show PureF (fun h nx => bMax E ts.toList l h nx); unfold bMax; (repeat (first | exact pure_none | exact pure_out | (apply pure_ob; intro _) | apply pure_guard | (apply pure_onN; intro _) | (apply pure_onB; intro _) | (apply pure_onI; intro _ _) | (apply pure_onP; intro _ _) | (apply pure_onFn; intro _ _) | (apply pure_onAgg; intro _) | (apply pure_onTup; intro _) | (apply pure_onStr; intro _) | (apply pure_onSl; exact pure_none; intro _ _ _ _) | (apply pure_inB; intro _) | (apply pure_desc; intro _) | (apply pure_sizeT; intro _) | (apply pure_zeroT; intro _) | (apply pure_onStructD; intro _) | (apply pure_onSliceD; intro _)))
      · show PureF (fun h nx => bMin E ts.toList l h nx); unfold bMin; (repeat (first | exact pure_none | exact pure_out | (apply pure_ob; intro _) | apply pure_guard | (apply pure_onN; intro _) | (apply pure_onB; intro _) | (apply pure_onI; intro _ _) | (apply pure_onP; intro _ _) | (apply pure_onFn; intro _ _) | (apply pure_onAgg; intro _) | (apply pure_onTup; intro _) | (apply pure_onStr; intro _) | (apply pure_onSl; exact pure_none; intro _ _ _ _) | (apply pure_inB; intro _) | (apply pure_desc; intro _) | (apply pure_sizeT; intro _) | (apply pure_zeroT; intro _) | (apply pure_onStructD; intro _) | (apply pure_onSliceD; intro _)))
section
variable {α : Type}
theorem same_out {v : V} : SameF (fun h nx => out v h nx) := pure_out.same
theorem same_none : SameF (fun _ _ => none) := pure_none.same
theorem same_ob {x : H → Nat → Option α} {f : α → H → Nat → Out} (hf : ∀ y, SameF (f y)) : SameF (fun h nx => ob (x h nx) fun y => f y h nx) := by
  intro h nx v h1 nx1 he
  simp only [ob_eq] at he
  obtain ⟨y, _, he⟩ := he
  exact hf y _ _ _ _ _ he
theorem same_guard {b : H → Nat → Bool} {f : H → Nat → Out} (hf : SameF f) : SameF (fun h nx => guardB (b h nx) (f h nx)) := by
  intro h nx v h1 nx1 he
  simp only [guardB_eq] at he
  exact hf _ _ _ _ _ he.2
theorem same_onP {v : V} {f : Nat → Nat → H → Nat → Out} (hf : ∀ y z, SameF (f y z)) : SameF (fun h nx => onP v fun y z => f y z h nx) := by cases v <;> first | exact same_none | exact hf _ _
theorem same_onI {v : V} {f : IntKind → Int → H → Nat → Out} (hf : ∀ y z, SameF (f y z)) : SameF (fun h nx => onI v fun y z => f y z h nx) := by cases v <;> first | exact same_none | exact hf _ _
theorem same_onSl {v : V} {z : H → Nat → Out} {f : Nat → Nat → Nat → Option Nat → H → Nat → Out} (hz : SameF z) (hf : ∀ a b c d, SameF (f a b c d)) : SameF (fun h nx => onSl v (z h nx) fun a b c d => f a b c d h nx) := by cases v <;> first | exact same_none | exact hf _ _ _ _ | exact hz
theorem same_onM {v : V} {z : H → Nat → Out} {f : Nat → H → Nat → Out} (hz : SameF z) (hf : ∀ a, SameF (f a)) : SameF (fun h nx => onM v (z h nx) fun a => f a h nx) := by cases v <;> first | exact same_none | exact hf _ | exact hz
theorem same_onStr {v : V} {f : ByteArray → H → Nat → Out} (hf : ∀ y, SameF (f y)) : SameF (fun h nx => onStr v fun y => f y h nx) := by cases v <;> first | exact same_none | exact hf _
theorem same_onCells {r : Nat} {f : TypeId → List V → H → Nat → Out} (hf : ∀ y z, SameF (f y z)) : SameF (fun h nx => onCells h r fun y z => f y z h nx) := by
  intro h nx v h1 nx1 he
  simp only [onCells_eq] at he
  obtain ⟨y, z, _, he⟩ := he
  exact hf y z _ _ _ _ _ he
theorem same_onMap {r : Nat} {f : List Ent → Nat → H → Nat → Out} (hf : ∀ y z, SameF (f y z)) : SameF (fun h nx => onMap h r fun y z => f y z h nx) := by
  intro h nx v h1 nx1 he
  simp only [onMap_eq] at he
  obtain ⟨y, z, _, he⟩ := he
  exact hf y z _ _ _ _ _ he
theorem same_onIter {r : Nat} {f : Option Nat → Nat → List Nat → Nat → H → Nat → Out} (hf : ∀ a b c d, SameF (f a b c d)) : SameF (fun h nx => onIter h r fun a b c d => f a b c d h nx) := by
  intro h nx v h1 nx1 he
  simp only [onIter_eq] at he
  obtain ⟨a, b, c, d, _, he⟩ := he
  exact hf a b c d _ _ _ _ _ he
theorem same_desc {E : Env} {t : TypeId} {f : TypeDesc → H → Nat → Out} (hf : ∀ y, SameF (f y)) : SameF (fun h nx => desc E t fun y => f y h nx) := same_ob (x := fun _ _ => E.P.underlying t) hf
theorem same_sizeT {E : Env} {t : TypeId} {f : Nat → H → Nat → Out} (hf : ∀ y, SameF (f y)) : SameF (fun h nx => sizeT E t fun y => f y h nx) := by unfold sizeT; apply same_ob; intro i; exact hf _
theorem same_onSliceD {d : TypeDesc} {f : TypeId → H → Nat → Out} (hf : ∀ y, SameF (f y)) : SameF (fun h nx => onSliceD d fun y => f y h nx) := by cases d <;> first | exact same_none | exact hf _
theorem same_onIntD {d : TypeDesc} {f : IntKind → H → Nat → Out} (hf : ∀ y, SameF (f y)) : SameF (fun h nx => onIntD d fun y => f y h nx) := by cases d <;> first | exact same_none | exact hf _
theorem same_onMapD {d : TypeDesc} {f : TypeId → TypeId → H → Nat → Out} (hf : ∀ y z, SameF (f y z)) : SameF (fun h nx => onMapD d fun y z => f y z h nx) := by cases d <;> first | exact same_none | exact hf _ _
theorem same_keyOk {E : Env} {t : TypeId} {k : V} {x : H → Nat → Out} (hx : SameF x) : SameF (fun h nx => keyOk E t k (x h nx)) := by
  cases k <;> first | exact same_none | skip
  · exact same_desc fun d => same_onIntD fun _ => hx
  · exact same_guard hx
theorem same_pairOk {ok : Bool} {v : V} {b : Bool} : SameF (fun h nx => pairOk ok v b h nx) := by cases ok <;> exact same_out
theorem same_bounds {n : Nat} {c : Option Nat} {lo hi mx : Option V} {f : Nat → Nat → Option Nat → H → Nat → Out} (hf : ∀ a b c, SameF (f a b c)) : SameF (fun h nx => bounds n c lo hi mx fun a b c => f a b c h nx) := by
  intro h nx v h1 nx1 he
  simp only [bounds, ob_eq] at he
  obtain ⟨_, _, _, _, _, _, he⟩ := he
  exact hf _ _ _ _ _ _ _ _ he
end
theorem same_op {E : Env} {F : Fns} {g : G} {op : Op} (hk : opKind op = 1) : SameF (evOp op E F g) := by
  cases op <;> first | (cases hk; done) | skip
  case load t x =>
    show SameF (fun h nx => oLoad t x E F g h nx)
    unfold oLoad
    apply same_ob; intro v; apply same_onP; intro r o; apply same_onCells; intro _ cs; apply same_ob; intro _; exact same_out
  case convert s t x =>
    show SameF (fun h nx => oConvert s t x E F g h nx)
    unfold oConvert
    apply same_desc; intro ds; apply same_desc; intro d; apply same_ob; intro v
    cases d <;> first | exact same_none | skip
    · apply same_onI; intro _ _; exact same_out
    · rename_i e
      show SameF (fun h nx => convS s t v ds e E F g h nx)
      unfold convS
      apply same_onSliceD; intro _; apply same_guard; apply same_desc; intro d; apply same_onIntD; intro k; apply same_guard; apply same_onSl; exact same_none
      intro r o n c h nx v' h1 nx1 he
      simp only [onCells_eq] at he
      obtain ⟨ty, cs, hr, he⟩ := he
      cases he
      refine ⟨fun r' => ?_, rfl⟩
      rw [Tr.get_put]
      split
      · rename_i e; subst e; exact hr.symm
      · rfl
  case slice t x lo hi mx =>
    show SameF (fun h nx => oSlice t x lo hi mx E F g h nx)
    unfold oSlice
    apply same_ob; intro v; apply same_ob; intro lo; apply same_ob; intro hi; apply same_ob; intro mx
    unfold evSlice
    apply same_desc; intro d
    cases d <;> first | exact same_none | skip
    · apply same_onSl
      · apply same_sizeT; intro _; apply same_bounds; intro _ _ _; exact same_out
      · intro r o n c
        apply same_sizeT; intro sz; apply same_bounds; intro l k m
        cases m with
        | some m => exact same_out
        | none =>
          rename_i e
          show SameF (fun h nx => cutU e r o sz n l k h nx)
          unfold cutU
          cases Nat.beq l 0 with
          | true => exact same_out
          | false => exact same_onCells fun t _ => same_guard same_out
    · apply same_onP; intro r o; apply same_sizeT; intro sz; apply same_bounds; intro l k m; apply same_ob; intro m; exact same_out
  case lookup t x y ok =>
    show SameF (fun h nx => oLookup t x y ok E F g h nx)
    unfold oLookup
    apply same_desc; intro d; apply same_onMapD; intro kt e; apply same_ob; intro m; apply same_ob; intro k; apply same_keyOk; apply same_ob; intro es; apply same_ob; intro q
    cases q with
    | none => unfold zeroV; apply same_ob; intro _; apply same_ob; intro _; apply same_ob; intro _; exact same_pairOk
    | some q => exact same_pairOk
  case entry x =>
    show SameF (fun h nx => oEntry x E F g h nx)
    unfold oEntry
    apply same_ob; intro v
    unfold evEntry
    apply same_onP; intro q o; apply same_guard; apply same_onIter; intro m s l t; apply same_ob; intro r; apply same_onMap; intro es c; apply same_guard; apply same_ob; intro _; apply same_ob; intro _; exact same_out
  case call c =>
    obtain ⟨callee, args, ts⟩ := c
    cases callee with
    | value _ => cases hk
    | invoke _ _ => cases hk
    | builtin b =>
      show SameF (fun h nx => ob (vals g args.toList) fun l => evBuiltin b E ts.toList l h nx)
      apply same_ob; intro l
      cases b <;> first | (cases hk; done) | skip
      show SameF (fun h nx => bLen E ts.toList l h nx)
      unfold bLen
      apply same_ob; intro t; apply same_ob; intro x; apply same_desc; intro d
      cases d <;> first | exact same_none | skip
      · apply same_onStr; intro s; exact same_out
      · cases x <;> first | exact same_none | exact same_out | exact same_guard same_out
      · exact same_out
      · apply same_onM; exact same_out; intro r; apply same_onMap; intro es _; exact same_out
theorem quiet_cases {op : Op} (h : quiet op = true) : opKind op = 0 ∨ opKind op = 1 := by
  have : opKind op < 2 := blt_eq.1 h
  omega
theorem same_any {E : Env} {F : Fns} {ops : List Oper} {g : G} {o : Oper} (hq : quiet o.op = true) : SameF (evAny E F ops g o) := by
  have hs : SameF (evOp o.op E F g) := by
    rcases quiet_cases hq with h | h
    · exact (pure_op h).same
    · exact same_op h
  show SameF (fun h nx => evAny E F ops g o h nx)
  unfold evAny goOn
  cases o.guard with
  | none => exact hs
  | some q =>
    show SameF (fun h nx => ob (nth ops q.1) fun o' => ob o'.dst fun d => ob (g d) fun v => guardB (known v) (@Bool.rec (fun _ => Out) (out .undef h nx) (evOp o.op E F g h nx) (orF (onB v fun x => some (x == q.2)))))
    apply same_ob; intro o'; apply same_ob; intro d; apply same_ob; intro u; apply same_guard
    cases orF (onB u fun x => some (x == q.2)) with
    | false => exact same_out
    | true => exact hs
theorem pure_any {E : Env} {F : Fns} {ops : List Oper} {g : G} {o : Oper} (hq : opKind o.op = 0) : PureF (evAny E F ops g o) := by
  have hs : PureF (evOp o.op E F g) := pure_op hq
  show PureF (fun h nx => evAny E F ops g o h nx)
  unfold evAny goOn
  cases o.guard with
  | none => exact hs
  | some q =>
    show PureF (fun h nx => ob (nth ops q.1) fun o' => ob o'.dst fun d => ob (g d) fun v => guardB (known v) (@Bool.rec (fun _ => Out) (out .undef h nx) (evOp o.op E F g h nx) (orF (onB v fun x => some (x == q.2)))))
    apply pure_ob; intro o'; apply pure_ob; intro d; apply pure_ob; intro u; apply pure_guard
    cases orF (onB u fun x => some (x == q.2)) with
    | false => exact pure_out
    | true => exact hs
end Go.Proofs.YtemkiobojboceaaGreat.Ev
