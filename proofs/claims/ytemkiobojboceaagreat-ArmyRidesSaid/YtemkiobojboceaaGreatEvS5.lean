/- What the small machine's operations come to, the program's come to: reckoning, loads and stores, rows made. No conditions: over any program. -/
import Derived.Test.YtemkiobojboceaaGreatEvS4
namespace Go.Proofs.YtemkiobojboceaaGreat.Ev
open Go Go.RowKit
set_option linter.unusedSimpArgs false
set_option linter.unusedVariables false

theorem out_eq {v v' : V} {h h' : H} {nx nx' : Nat} : out v h nx = some (v', h', nx') ↔ v = v' ∧ h = h' ∧ nx = nx' := by simp [out]

section bin
variable {ρ : Nat → Loc} {env : Nat → Value} {nx : Nat}
theorem iV_eq {k : IntKind} {n : Int} {v : V} : iV k n = some v ↔ v = .i k (k.wrap n) := by unfold iV; rw [wr_eq]; simp [eq_comm]
theorem guard_int (op : BinOp) (t : TypeId) (x y : Operand) (k k' : IntKind) (m n : Int) (P : Program) (w : World) : (eqGuard op t x y (.int k m) (.int k' n)).run P w = .ok () w := by
  unfold eqGuard; cases op <;> simp
/-- of integers -/
theorem bI_run {P : Program} {t : TypeId} {f : IntKind → Int → Int → Option V} {op : BinOp} (hop : ∀ k m n v, f k m n = some v → ∃ x, VR ρ env nx v x ∧ ∀ w, (binOp op t (.int k m) (.int k n)).run P w = .ok x w) {E : Env} {u v r : V} (h : bI f E t u v = some r)
    {x y : Value} (hx : VR ρ env nx u x) (hy : VR ρ env nx v y) (xo yo : Operand) (w : World) : ∃ z, (do eqGuard op t xo yo x y; binOp op t x y : Sem Value).run P w = .ok z w ∧ VR ρ env nx r z := by
  unfold bI at h
  simp only [onI_eq, guardB_eq, kEq_eq] at h
  obtain ⟨k, m, rfl, k', n, rfl, rfl, h⟩ := h
  cases hx; cases hy
  obtain ⟨z, hz, hr⟩ := hop _ _ _ _ h
  exact ⟨z, by rw [Sem.run_bind, guard_int]; exact hr w, hz⟩
theorem bS_run {P : Program} {t : TypeId} {f : IntKind → Int → Int → Option V} {op : BinOp} (hop : ∀ k k' m n v, f k m n = some v → ∃ x, VR ρ env nx v x ∧ ∀ w, (binOp op t (.int k m) (.int k' n)).run P w = .ok x w) {E : Env} {u v r : V} (h : bS f E t u v = some r)
    {x y : Value} (hx : VR ρ env nx u x) (hy : VR ρ env nx v y) (xo yo : Operand) (w : World) : ∃ z, (do eqGuard op t xo yo x y; binOp op t x y : Sem Value).run P w = .ok z w ∧ VR ρ env nx r z := by
  unfold bS at h
  simp only [onI_eq] at h
  obtain ⟨k, m, rfl, k', n, rfl, h⟩ := h
  cases hx; cases hy
  obtain ⟨z, hz, hr⟩ := hop _ _ _ _ _ h
  exact ⟨z, by rw [Sem.run_bind, guard_int]; exact hr w, hz⟩
theorem vr_i {k : IntKind} {n m : Int} (h : n = m) : VR ρ env nx (.i k n) (.int k m) := h ▸ .i
theorem vr_b {a b : Bool} (h : a = b) : VR ρ env nx (.b a) (.bool b) := h ▸ .b
/-- the comparisons for equality -/
theorem bE_run {E : Env} (hE : EnvOk E) {neg : Bool} {op : BinOp} (ho : op = if neg then .neq else .eql) {f : IntKind → Int → Int → Option V} {e : Bin}
    (hf : ∀ k m n v, f k m n = some v → v = .b ((eqI m n) != neg)) (he : ∀ t u v r, e E t u v = some r → ∃ b, eqV E t u v = some b ∧ r = .b (b != neg))
    {t : TypeId} {u v r : V} (h : bE f e E t u v = some r) {x y : Value} (hx : VR ρ env nx u x) (hy : VR ρ env nx v y) (xo yo : Operand) (w : World) :
    ∃ z, (do eqGuard op t xo yo x y; binOp op t x y : Sem Value).run E.P w = .ok z w ∧ VR ρ env nx r z := by
  have gen : ∀ b, eqV E t u v = some b → r = .b (b != neg) → (eqGuard op t xo yo x y).run E.P w = .ok () w → (∀ k m k' n, ¬ (x = .int k m ∧ y = .int k' n)) → (∀ s s', ¬ (x = .string s ∧ y = .string s')) →
      ∃ z, (do eqGuard op t xo yo x y; binOp op t x y : Sem Value).run E.P w = .ok z w ∧ VR ρ env nx r z := by
    intro b hb hr hg hni hns
    have hq := eqV_run hE hb hx hy w
    refine ⟨.bool (b != neg), ?_, hr ▸ .b⟩
    rw [Sem.run_bind, hg]
    simp only [Result.andThen_ok]
    subst ho
    have hb1 : (binOp (if neg then .neq else .eql) t x y) = if neg then (do pure (.bool (!(← Op.equal t x y)))) else (do pure (.bool (← Op.equal t x y))) := by
      cases neg
      · cases hx <;> cases hy <;> first | rfl | (exact absurd ⟨rfl, rfl⟩ (hni _ _ _ _)) | (exact absurd ⟨rfl, rfl⟩ (hns _ _)) | (cases hb; done)
      · cases hx <;> cases hy <;> first | rfl | (exact absurd ⟨rfl, rfl⟩ (hni _ _ _ _)) | (exact absurd ⟨rfl, rfl⟩ (hns _ _)) | (cases hb; done)
    rw [hb1]
    cases neg
    · simp [Sem.run_bind, hq]
    · simp [Sem.run_bind, hq]
  have guard0 : (¬ ∃ a b, x = .agg a ∧ y = .agg b) → (x ≠ .nilIface) → (eqGuard op t xo yo x y).run E.P w = .ok () w := by
    intro h1 h2
    subst ho
    cases neg <;> (unfold eqGuard; cases x <;> cases y <;> first | rfl | (exact absurd ⟨_, _, rfl, rfl⟩ h1) | (exact absurd rfl h2))
  cases hx with
  | i =>
    have h' : (onI v fun k' b => guardB (kEq _ k') (f _ _ b)) = some r := h
    simp only [onI_eq, guardB_eq, kEq_eq] at h'
    obtain ⟨k', n, rfl, rfl, h'⟩ := h'
    cases hy
    have hr := hf _ _ _ _ h'
    subst hr
    refine ⟨.bool (eqI _ n != neg), ?_, .b⟩
    rw [Sem.run_bind, guard_int]
    simp only [Result.andThen_ok]
    subst ho
    rename_i k m
    cases neg
    · simp only [binOp, Bool.false_eq_true, if_false, ne_eq, not_true_eq_false, Op.intCmp, eqI_eq, Sem.run_pure]
      congr 2; by_cases e : m = n <;> simp [e]
    · simp only [binOp, if_true, ne_eq, not_true_eq_false, if_false, Op.intCmp, eqI_eq, Sem.run_pure]
      congr 2; by_cases e : m = n <;> simp [e]
  | agg hl =>
    obtain ⟨b, hb, hr⟩ := he _ _ _ _ h
    have hb' : (onAgg v fun r => guardB (andB (Nat.blt 0 (E.flat t)) (Nat.beq (len _) (E.flat t))) (eqInts _ r)) = some b := hb
    simp only [onAgg_eq, guardB_eq, andB_eq, blt_eq] at hb'
    obtain ⟨rr, rfl, ⟨h0, _⟩, _⟩ := hb'
    cases hy with
    | agg hr' =>
      exact gen b hb hr (run_eqGuard_agg w op t xo yo _ _ (hE.flat t h0).guard) (fun _ _ _ _ e => by cases e.1) (fun _ _ e => by cases e.1)
  | s => obtain ⟨b, hb, hr⟩ := he _ _ _ _ h; cases hb
  | ifc _ => obtain ⟨b, hb, hr⟩ := he _ _ _ _ h; cases hb
  | inil => obtain ⟨b, hb, hr⟩ := he _ _ _ _ h; cases hb
  | tup _ => obtain ⟨b, hb, hr⟩ := he _ _ _ _ h; cases hb
  | far => obtain ⟨b, hb, hr⟩ := he _ _ _ _ h; cases hb
  | b => obtain ⟨b, hb, hr⟩ := he _ _ _ _ h; exact gen b hb hr (guard0 (by rintro ⟨_, _, e, _⟩; cases e) (by simp)) (fun _ _ _ _ e => by cases e.1) (fun _ _ e => by cases e.1)
  | p _ => obtain ⟨b, hb, hr⟩ := he _ _ _ _ h; exact gen b hb hr (guard0 (by rintro ⟨_, _, e, _⟩; cases e) (by simp)) (fun _ _ _ _ e => by cases e.1) (fun _ _ e => by cases e.1)
  | pn => obtain ⟨b, hb, hr⟩ := he _ _ _ _ h; exact gen b hb hr (guard0 (by rintro ⟨_, _, e, _⟩; cases e) (by simp)) (fun _ _ _ _ e => by cases e.1) (fun _ _ e => by cases e.1)
  | slk _ _ => obtain ⟨b, hb, hr⟩ := he _ _ _ _ h; exact gen b hb hr (guard0 (by rintro ⟨_, _, e, _⟩; cases e) (by simp)) (fun _ _ _ _ e => by cases e.1) (fun _ _ e => by cases e.1)
  | slu _ _ _ => obtain ⟨b, hb, hr⟩ := he _ _ _ _ h; exact gen b hb hr (guard0 (by rintro ⟨_, _, e, _⟩; cases e) (by simp)) (fun _ _ _ _ e => by cases e.1) (fun _ _ e => by cases e.1)
  | sn => obtain ⟨b, hb, hr⟩ := he _ _ _ _ h; exact gen b hb hr (guard0 (by rintro ⟨_, _, e, _⟩; cases e) (by simp)) (fun _ _ _ _ e => by cases e.1) (fun _ _ e => by cases e.1)
  | m _ => obtain ⟨b, hb, hr⟩ := he _ _ _ _ h; exact gen b hb hr (guard0 (by rintro ⟨_, _, e, _⟩; cases e) (by simp)) (fun _ _ _ _ e => by cases e.1) (fun _ _ e => by cases e.1)
  | mn => obtain ⟨b, hb, hr⟩ := he _ _ _ _ h; exact gen b hb hr (guard0 (by rintro ⟨_, _, e, _⟩; cases e) (by simp)) (fun _ _ _ _ e => by cases e.1) (fun _ _ e => by cases e.1)
  | fn _ => obtain ⟨b, hb, hr⟩ := he _ _ _ _ h; exact gen b hb hr (guard0 (by rintro ⟨_, _, e, _⟩; cases e) (by simp)) (fun _ _ _ _ e => by cases e.1) (fun _ _ e => by cases e.1)
  | fnil => obtain ⟨b, hb, hr⟩ := he _ _ _ _ h; exact gen b hb hr (guard0 (by rintro ⟨_, _, e, _⟩; cases e) (by simp)) (fun _ _ _ _ e => by cases e.1) (fun _ _ e => by cases e.1)
theorem bin_run {E : Env} (hE : EnvOk E) {op : BinOp} {t : TypeId} {u v r : V} (h : evBin op E t u v = some r) {x y : Value} (hx : VR ρ env nx u x) (hy : VR ρ env nx v y) (xo yo : Operand) (w : World) :
    ∃ z, (do eqGuard op t xo yo x y; binOp op t x y : Sem Value).run E.P w = .ok z w ∧ VR ρ env nx r z := by
  cases op with
  | add => exact bI_run (E := E) (fun k m n v h => by rw [addI, iV_eq] at h; subst h; exact ⟨_, .i, fun w => by simp [binOp, Op.intArith]; try rfl⟩) h hx hy xo yo w
  | sub => exact bI_run (E := E) (fun k m n v h => by rw [subI, iV_eq] at h; subst h; exact ⟨_, .i, fun w => by simp [binOp, Op.intArith]; try rfl⟩) h hx hy xo yo w
  | mul => exact bI_run (E := E) (fun k m n v h => by rw [mulI, iV_eq] at h; subst h; exact ⟨_, .i, fun w => by simp [binOp, Op.intArith]; try rfl⟩) h hx hy xo yo w
  | quo =>
    refine bI_run (E := E) (fun k m n v h => ?_) h hx hy xo yo w
    unfold quoI at h
    rw [eqI_eq] at h
    by_cases h0 : n = 0
    · simp [h0] at h
    · simp only [h0, decide_false] at h
      have h' := iV_eq.1 h
      subst h'; exact ⟨_, .i, fun w => by simp [binOp, Op.intDiv, h0]⟩
  | rem =>
    refine bI_run (E := E) (fun k m n v h => ?_) h hx hy xo yo w
    unfold remI at h
    rw [eqI_eq] at h
    by_cases h0 : n = 0
    · simp [h0] at h
    · simp only [h0, decide_false, Option.some.injEq] at h
      subst h; exact ⟨_, .i, fun w => by simp [binOp, Op.intDiv, h0]⟩
  | and => exact bI_run (E := E) (fun k m n v h => by rw [andI, iV_eq] at h; subst h; exact ⟨_, .i, fun w => by simp [binOp, Op.intBits]⟩) h hx hy xo yo w
  | or => exact bI_run (E := E) (fun k m n v h => by rw [orI, iV_eq] at h; subst h; exact ⟨_, .i, fun w => by simp [binOp, Op.intBits]⟩) h hx hy xo yo w
  | xor => exact bI_run (E := E) (fun k m n v h => by rw [xorI, iV_eq] at h; subst h; exact ⟨_, .i, fun w => by simp [binOp, Op.intBits]⟩) h hx hy xo yo w
  | shl =>
    refine bS_run (E := E) (fun k k' m n v h => ?_) h hx hy xo yo w
    unfold shlI at h
    rw [ltI_eq] at h
    by_cases h0 : n < 0
    · simp [h0] at h
    · simp only [h0, decide_false] at h
      have h' := iV_eq.1 h
      subst h'; exact ⟨_, .i, fun w => by simp [binOp, Op.shift, h0]⟩
  | shr =>
    refine bS_run (E := E) (fun k k' m n v h => ?_) h hx hy xo yo w
    unfold shrI at h
    rw [ltI_eq] at h
    by_cases h0 : n < 0
    · simp [h0] at h
    · simp only [h0, decide_false, Option.some.injEq] at h
      subst h; exact ⟨_, .i, fun w => by simp [binOp, Op.shift, h0]⟩
  | andNot => exact bI_run (E := E) (fun k m n v h => by rw [andNotI, iV_eq] at h; subst h; exact ⟨_, .i, fun w => by simp [binOp, Op.intBits]⟩) h hx hy xo yo w
  | eql => exact bE_run hE (neg := false) rfl (fun k m n v h => by cases h; simp) (fun t u v r h => by
      have h' : (ob (eqV E t u v) fun r => some (V.b r)) = some r := h
      rw [ob_eq] at h'; obtain ⟨b, hb, e⟩ := h'; cases e; exact ⟨b, hb, by simp⟩) h hx hy xo yo w
  | neq => exact bE_run hE (neg := true) rfl (fun k m n v h => by cases h; rw [notB_eq]; simp) (fun t u v r h => by
      have h' : (ob (eqV E t u v) fun r => some (V.b (notB r))) = some r := h
      rw [ob_eq] at h'; obtain ⟨b, hb, e⟩ := h'; cases e; exact ⟨b, hb, by rw [notB_eq]; simp⟩) h hx hy xo yo w
  | lss => exact bI_run (E := E) (fun k m n v h => by cases h; exact ⟨_, .b, fun w => by simp [binOp, Op.intCmp, ltI_eq]⟩) h hx hy xo yo w
  | leq => exact bI_run (E := E) (fun k m n v h => by cases h; exact ⟨_, .b, fun w => by simp [binOp, Op.intCmp, ltI_eq, notB_eq]; rw [← decide_not]; simp [Int.not_lt]⟩) h hx hy xo yo w
  | gtr => exact bI_run (E := E) (fun k m n v h => by cases h; exact ⟨_, .b, fun w => by simp [binOp, Op.intCmp, ltI_eq]⟩) h hx hy xo yo w
  | geq => exact bI_run (E := E) (fun k m n v h => by cases h; exact ⟨_, .b, fun w => by simp [binOp, Op.intCmp, ltI_eq, notB_eq]; rw [← decide_not]; simp [Int.not_lt]⟩) h hx hy xo yo w
end bin
end Go.Proofs.YtemkiobojboceaaGreat.Ev
