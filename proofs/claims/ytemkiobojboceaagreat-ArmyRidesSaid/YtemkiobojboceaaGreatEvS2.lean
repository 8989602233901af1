/- How the small machine's values and memory stand to the program's. No conditions: over any program. -/
import Derived.Test.YtemkiobojboceaaGreatEvS1
namespace Go.Proofs.YtemkiobojboceaaGreat.Ev
open Go Go.RowKit
set_option linter.unusedSimpArgs false
set_option linter.unusedVariables false

/-- blocks that were there are as they were, but for those of S -/
structure Keep (S : Nat → Prop) (w w' : World) : Prop where
  os : w'.os = w.os
  tape : w'.tape = w.tape
  output : w'.output = w.output
  size : w.heap.size ≤ w'.heap.size
  block : ∀ b, b < w.heap.size → ¬ S b → w'.heap[b]? = w.heap[b]?
theorem Keep.refl (S : Nat → Prop) (w : World) : Keep S w w := ⟨rfl, rfl, rfl, Nat.le_refl _, fun _ _ _ => rfl⟩
theorem Keep.trans {S T : Nat → Prop} {a b c : World} (h : Keep S a b) (k : Keep T b c) (hT : ∀ x, x < a.heap.size → T x → S x) : Keep S a c :=
  ⟨k.os.trans h.os, k.tape.trans h.tape, k.output.trans h.output, Nat.le_trans h.size k.size,
   fun x hx hS => (k.block x (Nat.lt_of_lt_of_le hx h.size) (fun t => hS (hT x hx t))).trans (h.block x hx hS)⟩
theorem Keep.mono {S T : Nat → Prop} {a b : World} (h : Keep S a b) (hT : ∀ x, S x → T x) : Keep T a b :=
  ⟨h.os, h.tape, h.output, h.size, fun x hx hS => h.block x hx (fun s => hS (hT x s))⟩
theorem Keep.drew {S : Nat → Prop} {a b : World} (h : Keep S a b) : Keep S a b.drew := ⟨h.os, h.tape, h.output, h.size, h.block⟩

/-- where a row lies: its block, its elements' size, how many cells it has -/
structure Loc where
  b : Nat
  sz : Nat
  T : Nat
  on : Bool
/-- is there such a row -/
def On (ρ : Nat → Loc) (nx r : Nat) : Prop := r < nx ∧ (ρ r).on = true
def Agree (ρ ρ' : Nat → Loc) (nx : Nat) : Prop := ∀ r, On ρ nx r → ρ' r = ρ r
theorem On.mono {ρ ρ' : Nat → Loc} {nx nx' r : Nat} (ha : Agree ρ ρ' nx) (hn : nx ≤ nx') (h : On ρ nx r) : On ρ' nx' r := ⟨Nat.lt_of_lt_of_le h.1 hn, by rw [ha r h]; exact h.2⟩
section rel
variable (ρ : Nat → Loc) (env : Nat → Value) (nx : Nat)
mutual
inductive VR : V → Value → Prop where
  | b {x : Bool} : VR (.b x) (.bool x)
  | i {k : IntKind} {n : Int} : VR (.i k n) (.int k n)
  | s {s : ByteArray} : VR (.s s) (.string s)
  | p {r o : Nat} (h : On ρ nx r) : VR (.p r o) (.pointer (some ⟨(ρ r).b, o, none⟩))
  | pn : VR .pn (.pointer none)
  | slk {r o n c : Nat} (h : On ρ nx r) (hc : n ≤ c) : VR (.sl r o n (some c)) (.slice (some ⟨(ρ r).b, o, none⟩) n c)
  | slu {r o n c : Nat} (h : On ρ nx r) (hc : n ≤ c) (ht : o + c * (ρ r).sz = (ρ r).T) : VR (.sl r o n none) (.slice (some ⟨(ρ r).b, o, none⟩) n c)
  | sn : VR .sn (.slice none 0 0)
  | m {r : Nat} (h : On ρ nx r) : VR (.m r) (.map (some (ρ r).b))
  | mn : VR .mn (.map none)
  | fn {f : FuncId} {l : List V} {xs : Array Value} (h : VRs l xs.toList) : VR (.fn f l) (.func (.func f) #[] xs)
  | fnil : VR .fnil .nilFunc
  | ifc {t : TypeId} {v : V} {x : Value} (h : VR v x) : VR (.ifc t v) (.iface t x)
  | inil : VR .inil .nilIface
  | agg {l : List V} {xs : Array Value} (h : VRs l xs.toList) : VR (.agg l) (.agg xs)
  | tup {l : List V} {xs : Array Value} (h : VRs l xs.toList) : VR (.tup l) (.tuple xs)
  | far {j n c : Nat} {x : Value} (h : x = env j) (h1 : x.oneCell' = true) (h2 : c = 1 → ∃ a k, x = .slice a n k) : VR (.far j n c) x
inductive VRs : List V → List Value → Prop where
  | nil : VRs [] []
  | cons {v : V} {x : Value} {l : List V} {xs : List Value} (h : VR v x) (t : VRs l xs) : VRs (v :: l) (x :: xs)
end
end rel
section rel2
variable {ρ ρ' : Nat → Loc} {env : Nat → Value} {nx nx' : Nat}
theorem VR.mono (ha : Agree ρ ρ' nx) (hn : nx ≤ nx') {v : V} {x : Value} (h : VR ρ env nx v x) : VR ρ' env nx' v x := by
  refine VR.rec (motive_1 := fun v x _ => VR ρ' env nx' v x) (motive_2 := fun l xs _ => VRs ρ' env nx' l xs) ?_ ?_ ?_ ?_ ?_ ?_ ?_ ?_ ?_ ?_ ?_ ?_ ?_ ?_ ?_ ?_ ?_ ?_ ?_ h
  · exact .b
  · exact .i
  · exact .s
  · intro r o h; rw [← ha r h]; exact .p (h.mono ha hn)
  · exact .pn
  · intro r o n c h hc; rw [← ha r h]; exact .slk (h.mono ha hn) hc
  · intro r o n c h hc ht; rw [← ha r h] at ht ⊢; exact .slu (h.mono ha hn) hc ht
  · exact .sn
  · intro r h; rw [← ha r h]; exact .m (h.mono ha hn)
  · exact .mn
  · intro f l xs _ h; exact .fn h
  · exact .fnil
  · intro t v x _ h; exact .ifc h
  · exact .inil
  · intro l xs _ h; exact .agg h
  · intro l xs _ h; exact .tup h
  · intro j n c x h h1 h2; exact .far h h1 h2
  · exact .nil
  · intro v x l xs _ _ h t; exact .cons h t
theorem VRs.mono (ha : Agree ρ ρ' nx) (hn : nx ≤ nx') : ∀ {l : List V} {xs : List Value}, VRs ρ env nx l xs → VRs ρ' env nx' l xs := by
  intro l
  induction l with
  | nil => intro xs h; cases h; exact .nil
  | cons v l ih => intro xs h; cases h with | cons h t => exact .cons (h.mono ha hn) (ih t)
theorem VRs.length {l : List V} : ∀ {xs : List Value}, VRs ρ env nx l xs → l.length = xs.length := by
  induction l with
  | nil => intro xs h; cases h; rfl
  | cons v l ih => intro xs h; cases h with | cons h t => simp [ih t]
theorem VRs.get {l : List V} : ∀ {xs : List Value}, VRs ρ env nx l xs → ∀ (j : Nat) (v : V), l[j]? = some v → ∃ x, xs[j]? = some x ∧ VR ρ env nx v x := by
  induction l with
  | nil => intro xs h j v hv; simp at hv
  | cons u l ih =>
    intro xs h j v hv
    cases h with
    | cons h t =>
      cases j with
      | zero => simp at hv; subst hv; exact ⟨_, rfl, h⟩
      | succ j => simpa using ih t j v (by simpa using hv)
theorem VRs.of_get {l : List V} : ∀ {xs : List Value}, l.length = xs.length → (∀ (j : Nat) (v : V), l[j]? = some v → ∃ x, xs[j]? = some x ∧ VR ρ env nx v x) → VRs ρ env nx l xs := by
  induction l with
  | nil => intro xs h _; cases xs with | nil => exact .nil | cons _ _ => simp at h
  | cons u l ih =>
    intro xs h hg
    cases xs with
    | nil => simp at h
    | cons x xs =>
      obtain ⟨y, h1, h2⟩ := hg 0 u rfl
      simp at h1; subst h1
      exact .cons h2 (ih (by simpa using h) fun j v hv => by simpa using hg (j + 1) v (by simpa using hv))
theorem VRs.append {l l' : List V} : ∀ {xs xs' : List Value}, VRs ρ env nx l xs → VRs ρ env nx l' xs' → VRs ρ env nx (l ++ l') (xs ++ xs') := by
  induction l with
  | nil => intro xs xs' h k; cases h; exact k
  | cons u l ih => intro xs xs' h k; cases h with | cons h t => exact .cons h (ih t k)
theorem VRs.take {l : List V} : ∀ {xs : List Value} (n : Nat), VRs ρ env nx l xs → VRs ρ env nx (l.take n) (xs.take n) := by
  induction l with
  | nil => intro xs n h; cases h; simp; exact .nil
  | cons u l ih => intro xs n h; cases h with | cons h t => cases n with | zero => exact .nil | succ n => exact .cons h (ih n t)
theorem VRs.drop {l : List V} : ∀ {xs : List Value} (n : Nat), VRs ρ env nx l xs → VRs ρ env nx (l.drop n) (xs.drop n) := by
  induction l with
  | nil => intro xs n h; cases h; simp; exact .nil
  | cons u l ih => intro xs n h; cases h with | cons h t => cases n with | zero => exact .cons h t | succ n => exact ih n t
theorem VR.cells {v : V} {x : Value} (h : VR ρ env nx v x) : VRs ρ env nx v.cells x.cells.toList := by
  cases h
  case agg h => exact h
  case far j n c h h1 h2 =>
    have e : x.cells.toList = [x] := by cases x <;> first | rfl | cases h1
    rw [e]; exact .cons (.far h h1 h2) .nil
  all_goals first
    | exact .cons .b .nil | exact .cons .i .nil | exact .cons .s .nil | exact .cons (.p ‹_›) .nil | exact .cons .pn .nil | exact .cons (.slk ‹_› ‹_›) .nil | exact .cons (.slu ‹_› ‹_› ‹_›) .nil
    | exact .cons .sn .nil | exact .cons (.m ‹_›) .nil | exact .cons .mn .nil | exact .cons (.fn ‹_›) .nil | exact .cons .fnil .nil | exact .cons (.ifc ‹_›) .nil | exact .cons .inil .nil | exact .cons (.tup ‹_›) .nil | skip
theorem VR.one {v : V} {x : Value} (h : VR ρ env nx v x) (h1 : v.one = true) : x.oneCell' = true := by
  cases h <;> first | rfl | (simp [V.one] at h1; done) | assumption
theorem VRs.allOne {l : List V} (h1 : allOne l = true) : ∀ {xs : List Value}, VRs ρ env nx l xs → ∀ x ∈ xs, x.oneCell' = true := by
  have h2 := allB_eq.1 h1
  clear h1
  induction l with
  | nil => intro xs h x hx; cases h; cases hx
  | cons u l ih =>
    intro xs h x hx
    cases h with
    | cons h t =>
      cases hx with
      | head => exact h.one (h2 _ (.head _))
      | tail _ hx => exact ih (fun v hv => h2 v (.tail _ hv)) t x hx
end rel2

/-- no cell of these can't be written -/
def NoFz (fz : Nat × Nat) (n : Nat) : Prop := fz = (0, 0) ∨ n ≤ fz.1
section rows
variable (P : Program) (ρ : Nat → Loc) (env : Nat → Value) (nx : Nat)
def RowR (t : TypeId) (cs : List V) (L : Loc) (w : World) : Prop :=
  ∃ cur fz i, w.heap[L.b]? = some (.cells cur t fz) ∧ cur.size = L.T ∧ NoFz fz cur.size ∧ P.info? t = some i ∧ i.size = L.sz ∧ cs.length ≤ cur.size ∧ ∀ (j : Nat) (v : V), cs[j]? = some v → ∃ x, cur[j]? = some x ∧ VR ρ env nx v x
def EntR (e : Ent) (x : MapEntry) : Prop := VR ρ env nx e.1 x.key ∧ VR ρ env nx e.2.1 x.val ∧ x.born = e.2.2
inductive EntsR : List Ent → List MapEntry → Prop where
  | nil : EntsR [] []
  | cons {e : Ent} {x : MapEntry} {l : List Ent} {xs : List MapEntry} (h : EntR ρ env nx e x) (t : EntsR l xs) : EntsR (e :: l) (x :: xs)
def ObjR (o : LObj) (L : Loc) (w : World) : Prop := match o with
  | .cells t cs => RowR P ρ env nx t cs L w
  | .map es c => ∃ es' : Array MapEntry, w.heap[L.b]? = some (.map es' c) ∧ EntsR ρ env nx es es'.toList
  | .iter m s l t => w.heap[L.b]? = some (.mapIter (m.map fun r => (ρ r).b) s l.toArray t) ∧ ∀ r, m = some r → On ρ nx r
structure Rel (h : H) (w : World) : Prop where
  obj : ∀ r o, h.get r = some o → On ρ nx r ∧ ObjR P ρ env nx o (ρ r) w
  inj : ∀ r r' o o', h.get r = some o → h.get r' = some o' → (ρ r).b = (ρ r').b → r = r'
/-- the blocks of these rows -/
def Rows (h : H) : Nat → Prop := fun b => ∃ r o, h.get r = some o ∧ (ρ r).b = b
structure Goes (h : H) (w : World) (ρ' : Nat → Loc) (nx' : Nat) (h' : H) (w' : World) : Prop where
  all : ∀ r, r < nx → ρ' r = ρ r
  le : nx ≤ nx'
  keep : Keep (Rows ρ h) w w'
  src : ∀ b, Rows ρ' h' b → Rows ρ h b ∨ w.heap.size ≤ b
  rel : Rel P ρ' env nx' h' w'
end rows
section rows2
variable {P : Program} {ρ ρ' ρ'' : Nat → Loc} {env : Nat → Value} {nx nx' nx'' : Nat} {h h' h'' : H} {w w' w'' : World}
theorem Goes.agree (g : Goes P ρ env nx h w ρ' nx' h' w') : Agree ρ ρ' nx := fun r hr => g.all r hr.1
theorem Agree.refl (ρ : Nat → Loc) (nx : Nat) : Agree ρ ρ nx := fun _ _ => rfl
theorem Agree.trans (a : Agree ρ ρ' nx) (b : Agree ρ' ρ'' nx') (hn : nx ≤ nx') : Agree ρ ρ'' nx := fun r hr => (b r (hr.mono a hn)).trans (a r hr)
theorem EntsR.mono (ha : Agree ρ ρ' nx) (hn : nx ≤ nx') {l : List Ent} : ∀ {xs : List MapEntry}, EntsR ρ env nx l xs → EntsR ρ' env nx' l xs := by
  induction l with
  | nil => intro xs h; cases h; exact .nil
  | cons e l ih => intro xs h; cases h with | cons h t => exact .cons ⟨h.1.mono ha hn, h.2.1.mono ha hn, h.2.2⟩ (ih t)
theorem ObjR.lt {o : LObj} {L : Loc} (h : ObjR P ρ env nx o L w) : L.b < w.heap.size := by
  have : ∃ x, w.heap[L.b]? = some x := by
    cases o with
    | cells t cs => obtain ⟨cur, fz, i, h1, _⟩ := h; exact ⟨_, h1⟩
    | map es c => obtain ⟨es', h1, _⟩ := h; exact ⟨_, h1⟩
    | iter m s l t => exact ⟨_, h.1⟩
  obtain ⟨x, hx⟩ := this
  exact (Array.getElem?_eq_some_iff.1 hx).1
theorem ObjR.mono {o : LObj} {L : Loc} (ho : ObjR P ρ env nx o L w) (ha : Agree ρ ρ' nx) (hn : nx ≤ nx') (hw : w'.heap[L.b]? = w.heap[L.b]?) : ObjR P ρ' env nx' o L w' := by
  cases o with
  | cells t cs =>
    obtain ⟨cur, fz, i, h1, h2, h3, h4, h5, h6, h7⟩ := ho
    exact ⟨cur, fz, i, hw.trans h1, h2, h3, h4, h5, h6, fun j v hv => by obtain ⟨x, hx, hvx⟩ := h7 j v hv; exact ⟨x, hx, hvx.mono ha hn⟩⟩
  | map es c => obtain ⟨es', h1, h2⟩ := ho; exact ⟨es', hw.trans h1, h2.mono ha hn⟩
  | iter m s l t =>
    refine ⟨?_, fun r hr => (ho.2 r hr).mono ha hn⟩
    rw [hw, ho.1]
    cases m with
    | none => rfl
    | some r => simp [ha r (ho.2 r rfl)]
theorem Rel.lt (R : Rel P ρ env nx h w) {b : Nat} (hb : Rows ρ h b) : b < w.heap.size := by
  obtain ⟨r, o, ho, rfl⟩ := hb
  exact (R.obj r o ho).2.lt
theorem Goes.refl (R : Rel P ρ env nx h w) : Goes P ρ env nx h w ρ nx h w := ⟨fun _ _ => rfl, Nat.le_refl _, Keep.refl _ _, fun b hb => .inl hb, R⟩
theorem Goes.trans (g : Goes P ρ env nx h w ρ' nx' h' w') (k : Goes P ρ' env nx' h' w' ρ'' nx'' h'' w'') : Goes P ρ env nx h w ρ'' nx'' h'' w'' :=
  ⟨fun r hr => (k.all r (Nat.lt_of_lt_of_le hr g.le)).trans (g.all r hr), Nat.le_trans g.le k.le, g.keep.trans k.keep (fun x hx hr => (g.src x hr).resolve_right (by omega)),
   fun b hb => by
    rcases k.src b hb with h1 | h1
    · exact g.src b h1
    · exact .inr (Nat.le_trans g.keep.size h1), k.rel⟩
/-- the world has drawn -/
theorem Rel.drew (R : Rel P ρ env nx h w) : Rel P ρ env nx h w.drew := ⟨fun r o ho => ⟨(R.obj r o ho).1, (R.obj r o ho).2.mono (Agree.refl _ _) (Nat.le_refl _) rfl⟩, R.inj⟩
theorem Goes.drew (R : Rel P ρ env nx h w) : Goes P ρ env nx h w ρ nx h w.drew := ⟨fun _ _ => rfl, Nat.le_refl _, (Keep.refl _ _).drew, fun b hb => .inl hb, R.drew⟩
/-- a row is another one now -/
theorem Rel.put (R : Rel P ρ env nx h w) {r : Nat} {o o' : LObj} (hr : h.get r = some o) (hk : Keep (fun b => b = (ρ r).b) w w') (ho : ObjR P ρ env nx o' (ρ r) w') : Goes P ρ env nx h w ρ nx (h.put (some o') r) w' := by
  have hb := (R.obj r o hr).1
  refine ⟨fun _ _ => rfl, Nat.le_refl _, hk.mono (fun b e => ⟨r, o, hr, e.symm⟩), ?_, ?_, ?_⟩
  · rintro b ⟨r', x, hx, rfl⟩
    rw [Tr.get_put] at hx
    split at hx
    · rename_i e; subst e; exact .inl ⟨_, o, hr, rfl⟩
    · exact .inl ⟨_, x, hx, rfl⟩
  · intro r' x hx
    rw [Tr.get_put] at hx
    split at hx
    · rename_i e; subst e; cases hx; exact ⟨hb, ho⟩
    · rename_i e
      have h1 := R.obj r' x hx
      refine ⟨h1.1, h1.2.mono (Agree.refl _ _) (Nat.le_refl _) (hk.block _ h1.2.lt (fun q => e (R.inj _ _ _ _ hx hr q)))⟩
  · intro r1 r2 o1 o2 h1 h2 e
    rw [Tr.get_put] at h1 h2
    split at h1 <;> split at h2
    · rename_i e1 e2; rw [e1, e2]
    · rename_i e1 e2; subst e1; exact R.inj _ _ _ _ hr h2 e
    · rename_i e1 e2; subst e2; exact R.inj _ _ _ _ h1 hr e
    · exact R.inj _ _ _ _ h1 h2 e
/-- one more place -/
def more (ρ : Nat → Loc) (nx : Nat) (L : Loc) : Nat → Loc := fun r => if r = nx then L else ρ r
theorem more_same (ρ : Nat → Loc) (nx : Nat) (L : Loc) : more ρ nx L nx = L := by simp [more]
theorem agree_more (ρ : Nat → Loc) (nx : Nat) (L : Loc) : Agree ρ (more ρ nx L) nx := fun r hr => by simp [more, Nat.ne_of_lt hr.1]
theorem Rel.get_none (R : Rel P ρ env nx h w) {r : Nat} (hr : nx ≤ r) : h.get r = none := by
  cases e : h.get r with
  | none => rfl
  | some o => have := (R.obj r o e).1.1; omega
/-- a new row, behind a world that has grown -/
theorem Rel.new (R : Rel P ρ env nx h w) {o' : LObj} {L : Loc} (hk : Keep (fun _ => False) w w') (hL : w.heap.size ≤ L.b) (hon : L.on = true) (ho : ObjR P (more ρ nx L) env (nx + 1) o' L w') : Goes P ρ env nx h w (more ρ nx L) (nx + 1) (h.put (some o') nx) w' := by
  have ha := agree_more ρ nx L
  refine ⟨fun r hr => by simp [more, Nat.ne_of_lt hr], Nat.le_succ _, hk.mono (fun b f => f.elim), ?_, ?_, ?_⟩
  · rintro b ⟨r', x, hx, rfl⟩
    rw [Tr.get_put] at hx
    split at hx
    · rename_i e; subst e; rw [more_same]; exact .inr hL
    · have h1 := (R.obj r' x hx).1
      exact .inl ⟨r', x, hx, by rw [ha r' h1]⟩
  · intro r' x hx
    rw [Tr.get_put] at hx
    split at hx
    · rename_i e; subst e; cases hx; exact ⟨⟨Nat.lt_succ_self _, by rw [more_same]; exact hon⟩, by rw [more_same]; exact ho⟩
    · have h1 := R.obj r' x hx
      refine ⟨h1.1.mono ha (Nat.le_succ _), ?_⟩
      rw [ha r' h1.1]
      exact h1.2.mono ha (Nat.le_succ _) (hk.block _ h1.2.lt id)
  · have key : ∀ r x, h.get r = some x → (more ρ nx L r).b ≠ (more ρ nx L nx).b := by
      intro r x hx
      have h1 := R.obj r x hx
      rw [ha r h1.1, more_same]
      have := h1.2.lt; omega
    intro r1 r2 o1 o2 h1 h2 e
    rw [Tr.get_put] at h1 h2
    split at h1 <;> split at h2
    · rename_i e1 e2; rw [e1, e2]
    · rename_i e1 e2; subst e1; exact absurd e.symm (key r2 _ h2)
    · rename_i e1 e2; subst e2; exact absurd e (key r1 _ h1)
    · have k1 := R.obj r1 _ h1
      have k2 := R.obj r2 _ h2
      rw [ha r1 k1.1, ha r2 k2.1] at e
      exact R.inj _ _ _ _ h1 h2 e
/-- a row is let go -/
theorem Rel.del (R : Rel P ρ env nx h w) (r : Nat) : Goes P ρ env nx h w ρ nx (h.put none r) w := by
  have key : ∀ r' x, (h.put none r).get r' = some x → h.get r' = some x := by
    intro r' x hx; rw [Tr.get_put] at hx; split at hx
    · cases hx
    · exact hx
  exact ⟨fun _ _ => rfl, Nat.le_refl _, Keep.refl _ _, fun b ⟨r', x, hx, e⟩ => .inl ⟨r', x, key r' x hx, e⟩, fun r' x hx => R.obj r' x (key r' x hx), fun r1 r2 o1 o2 h1 h2 => R.inj _ _ _ _ (key _ _ h1) (key _ _ h2)⟩
theorem keep_alloc (w : World) (o : Obj) (S : Nat → Prop) : Keep S w (w.alloc o) := ⟨rfl, rfl, rfl, by simp, fun b hb _ => Below.heap_alloc w o b hb⟩

/-- some cells are written -/
theorem run_storeCells_row (P : Program) (b o : Nat) (t : TypeId) (fz : Nat × Nat) : ∀ (vs : List Value) (i : Nat) (cur : Array Value) (w : World), w.heap[b]? = some (.cells cur t fz) → NoFz fz cur.size → o + i + vs.length ≤ cur.size → (∀ v ∈ vs, v.oneCell' = true) →
    ∃ w' cur', (storeCells ⟨b, o, none⟩ vs i).run P w = .ok () w' ∧ Keep (fun x => x = b) w w' ∧ w'.heap[b]? = some (.cells cur' t fz) ∧ cur'.size = cur.size ∧ ∀ j, cur'[j]? = if o + i ≤ j ∧ j < o + i + vs.length then vs[j - (o + i)]? else cur[j]?
  | [], i, cur, w, hb, _, _, _ => ⟨w, cur, rfl, Keep.refl _ _, hb, rfl, fun j => by rw [if_neg (by simp)]⟩
  | v :: vs, i, cur, w, hb, hz, hl, h1 => by
    simp only [List.length_cons] at hl
    have hlt : o + i < cur.size := by omega
    have hset : (w.setCell ⟨b, o + i, none⟩ v).heap[b]? = some (.cells (cur.setIfInBounds (o + i) v) t fz) := by
      simp only [World.setCell, Array.getElem?_modify, if_true, hb]; rfl
    have hkeep : Keep (fun x => x = b) w (w.setCell ⟨b, o + i, none⟩ v) :=
      ⟨rfl, rfl, rfl, by simp [World.setCell], fun x _ hx => by simp only [World.setCell, Array.getElem?_modify]; rw [if_neg (fun e => hx e.symm)]⟩
    obtain ⟨w', cur', hr, hk, hb', hs, hg⟩ := run_storeCells_row P b o t fz vs (i + 1) _ _ hset (by simpa using hz) (by simp; omega) (fun u hu => h1 u (.tail _ hu))
    refine ⟨w', cur', ?_, hkeep.trans hk (fun _ _ e => e), hb', by simpa using hs, fun j => ?_⟩
    · have hc : w.cell? ⟨b, o + i, none⟩ = some cur[o + i] := by simp [World.cell?, hb, hlt]
      have hf : w.frozen? ⟨b, o + i, none⟩ = false := by
        simp only [World.frozen?, hb]
        rcases hz with e | e
        · subst e; simp
        · rw [← Bool.not_eq_true]; simp; omega
      have ha : (⟨b, o, none⟩ : Addr).add i = ⟨b, o + i, none⟩ := by unfold Addr.add; split <;> simp_all
      simp only [storeCells, Sem.run_bind, ha]
      rw [run_store P w _ _ _ (h1 v (.head _))]
      simp only [hc, hf, Result.andThen_ok, Bool.false_eq_true, if_false]
      exact hr
    · rw [hg j]
      by_cases e : j = o + i
      · subst e
        rw [if_neg (by omega), if_pos (by simp)]
        simp [hlt]
      · by_cases hin : o + (i + 1) ≤ j ∧ j < o + (i + 1) + vs.length
        · rw [if_pos hin, if_pos (by simp only [List.length_cons]; omega)]
          rw [show j - (o + i) = (j - (o + (i + 1))) + 1 by omega, List.getElem?_cons_succ]
        · rw [if_neg hin, if_neg (by simp only [List.length_cons]; omega)]
          rw [Array.getElem?_setIfInBounds_ne (by omega)]
end rows2
end Go.Proofs.YtemkiobojboceaaGreat.Ev
