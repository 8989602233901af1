/- The trace of a region's reckoning. No conditions: over any program. -/
import Derived.Test.YtemkiobojboceaaGreatEvS14
import Derived.Test.YtemkiobojboceaaGreatEvS15B
namespace Go.Proofs.YtemkiobojboceaaGreat.Ev
open Go Go.RowKit
set_option linter.unusedSimpArgs false
set_option linter.unusedVariables false

section inv
variable {P : Program} {md : Region.Mode} {ops : Array Oper} {Q : Exit → Act → World → Prop}
theorem count_set_false (l : Array Bool) (i : Nat) (h : l.getD i true = false) : (l.setIfInBounds i true).toList.count false + 1 = l.toList.count false := by
  have hlt : i < l.size := by
    rcases Nat.lt_or_ge i l.size with h' | h'
    · exact h'
    · simp [Array.getElem?_eq_none h'] at h
  have hi : l[i] = false := by simpa [hlt] using h
  rw [Array.toList_setIfInBounds]
  have key : ∀ (l : List Bool) (i : Nat), l[i]? = some false → (l.set i true).count false + 1 = l.count false := by
    intro l
    induction l with
    | nil => intro i h; simp at h
    | cons x l ih =>
      intro i h
      cases i with
      | zero => simp at h; subst h; simp
      | succ i =>
        have := ih i (by simpa using h)
        simp only [List.set_cons_succ, List.count_cons]
        omega
  refine key _ _ ?_
  rw [Array.getElem?_toList, Array.getElem?_eq_getElem hlt, hi]
theorem wpAny_inv {I : Array Bool → Act → World → Prop} (hend : ∀ l a w, I l a w → Region.ready md ops l = [] → Q .normal a w) (hst : ∀ l a w i, I l a w → i ∈ Region.ready md ops l → wpOp P ops Q i (I (l.setIfInBounds i true)) a w) :
    ∀ (fuel : Nat) (l : Array Bool) (a : Act) (w : World), I l a w → l.toList.count false ≤ fuel → wpAny P md ops Q fuel l a w := by
  intro fuel
  induction fuel with
  | zero =>
    intro l a w hI hc
    have hr : Region.ready md ops l = [] := by
      cases hr : Region.ready md ops l with
      | nil => rfl
      | cons i _ =>
        have hi : i ∈ Region.ready md ops l := by rw [hr]; exact .head _
        have := count_set_false l i (mem_ready.1 hi).1
        omega
    exact ⟨hr, hend l a w hI hr⟩
  | succ fuel ih =>
    intro l a w hI hc
    refine ⟨hend l a w hI, fun i hi => wpOp_mono (fun a' w' hI' => ih _ _ _ hI' ?_) (hst l a w i hI hi)⟩
    have := count_set_false l i (mem_ready.1 hi).1
    omega
end inv
theorem binding_eq (e : Edge) : binding e = Region.binds .any e := by
  unfold binding Region.binds
  cases e.ground <;> rfl

structure Trace (E : Env) (F : Fns) (L : List Oper) (σ : List Step) (fT : Nat → Tr V) (hT : Nat → H) (nT : Nat → Nat) (v : Nat → V) : Prop where
  step : ∀ (k : Nat) (x : Step), σ[k]? = some x → evM E F L (fT k).get x.it (hT k) (nT k) = some (v k, hT (k + 1), nT (k + 1)) ∧ fT (k + 1) = putD (fT k) x.it.o.dst (v k) ∧ askAgain E F L (fT (k + 1)).get (hT (k + 1)) (nT (k + 1)) x.late = true
theorem trace_of {E : Env} {F : Fns} {L : List Oper} : ∀ (σ : List Step) (fr fr' : Tr V) (h h' : H) (nx nx' t id' : Nat), evSteps E F L kNorm σ fr h nx = some (t, id', fr', h', nx') →
    t = 0 ∧ ∃ fT hT nT v, Trace E F L σ fT hT nT v ∧ fT 0 = fr ∧ hT 0 = h ∧ nT 0 = nx ∧ fT σ.length = fr' ∧ hT σ.length = h' ∧ nT σ.length = nx' := by
  intro σ
  induction σ with
  | nil =>
    intro fr fr' h h' nx nx' t id' he
    cases he
    exact ⟨rfl, fun _ => fr, fun _ => h, fun _ => nx, fun _ => .undef, ⟨fun k x hk => by simp at hk⟩, rfl, rfl, rfl, rfl, rfl, rfl⟩
  | cons x σ ih =>
    intro fr fr' h h' nx nx' t id' he
    have he' : (ob (evM E F L fr.get x.it h nx) fun r => guardB (askAgain E F L (putD fr x.it.o.dst r.1).get r.2.1 r.2.2 x.late) (evSteps E F L kNorm σ (putD fr x.it.o.dst r.1) r.2.1 r.2.2)) = some (t, id', fr', h', nx') := he
    rw [ob_eq] at he'
    obtain ⟨⟨v0, h1, nx1⟩, h2, he'⟩ := he'
    rw [guardB_eq] at he'
    obtain ⟨h3, h4⟩ := he'
    obtain ⟨ht, fT, hT, nT, v, tr, e1, e2, e3, e4, e5, e6⟩ := ih _ _ _ _ _ _ _ _ h4
    refine ⟨ht, fun n => match n with | 0 => fr | n + 1 => fT n, fun n => match n with | 0 => h | n + 1 => hT n, fun n => match n with | 0 => nx | n + 1 => nT n, fun n => match n with | 0 => v0 | n + 1 => v n, ⟨?_⟩, rfl, rfl, rfl, e4, e5, e6⟩
    intro k y hk
    cases k with
    | zero =>
      have : x = y := by simpa using hk
      subst this
      refine ⟨?_, ?_, ?_⟩
      · show evM E F L fr.get x.it h nx = some (v0, hT 0, nT 0)
        rw [h2, e2, e3]
      · exact e1
      · show askAgain E F L (fT 0).get (hT 0) (nT 0) x.late = true
        rw [e1, e2, e3]; exact h3
    | succ k => exact tr.step k y (by simpa using hk)
section tr
variable {E : Env} {F : Fns} {L : List Oper} {σ : List Step} {fT : Nat → Tr V} {hT : Nat → H} {nT : Nat → Nat} {v : Nat → V}
theorem Trace.frame_not (tr : Trace E F L σ fT hT nT v) {t : Tmp} : ∀ (p : Nat), p ≤ σ.length → (∀ (k : Nat) (x : Step), k < p → σ[k]? = some x → x.it.o.dst ≠ some t) → (fT p).get t = (fT 0).get t := by
  intro p
  induction p with
  | zero => intro _ _; rfl
  | succ p ih =>
    intro hp hn
    obtain ⟨x, hx⟩ : ∃ x, σ[p]? = some x := ⟨σ[p], List.getElem?_eq_getElem (by omega)⟩
    rw [(tr.step p x hx).2.1]
    have hd := hn p x (Nat.lt_succ_self p) hx
    cases hxd : x.it.o.dst with
    | none => exact ih (by omega) fun k x hk => hn k x (by omega)
    | some d =>
      show ((fT p).put (some (v p)) d).get t = _
      rw [Tr.get_put, if_neg (fun e => hd (by rw [hxd, e]))]
      exact ih (by omega) fun k x hk => hn k x (by omega)
theorem Trace.frame_at (tr : Trace E F L σ fT hT nT v) {t : Tmp} {k : Nat} {x : Step} (hk : σ[k]? = some x) (hd : x.it.o.dst = some t) (hu : ∀ (k' : Nat) (x' : Step), σ[k']? = some x' → x'.it.o.dst = some t → k' = k) :
    ∀ (p : Nat), p ≤ σ.length → k < p → (fT p).get t = some (v k) := by
  intro p
  induction p with
  | zero => intro _ h; omega
  | succ p ih =>
    intro hp hlt
    obtain ⟨y, hy⟩ : ∃ y, σ[p]? = some y := ⟨σ[p], List.getElem?_eq_getElem (by omega)⟩
    rw [(tr.step p y hy).2.1]
    by_cases e : k = p
    · subst e
      rw [hk] at hy; cases hy
      rw [hd]
      show ((fT k).put (some (v k)) t).get t = _
      rw [Tr.get_put, if_pos rfl]
    · cases hyd : y.it.o.dst with
      | none => exact ih (by omega) (by omega)
      | some d =>
        show ((fT p).put (some (v p)) d).get t = _
        rw [Tr.get_put, if_neg (fun e' => e (hu p y hy (by rw [hyd, e'])).symm)]
        exact ih (by omega) (by omega)
theorem evM_eq {ops : List Oper} {g : G} {x : It} {h h1 : H} {nx nx1 : Nat} {u : V} (he : evM E F ops g x h nx = some (u, h1, nx1)) :
    ∃ hh q h2, hide g x.mask h = some (hh, q) ∧ evAny E F ops g x.o hh nx = some (u, h2, nx1) ∧ h1 = unhide q h2 := by
  unfold evM at he
  simp only [ob_eq, out_eq] at he
  obtain ⟨⟨hh, q⟩, hq, ⟨u', h2, nx2⟩, h3, rfl, rfl, rfl⟩ := he
  exact ⟨hh, q, h2, hq, h3, rfl⟩
/-- quiet steps leave memory be -/
theorem Trace.quiet (tr : Trace E F L σ fT hT nT v) {k : Nat} {x : Step} (hk : σ[k]? = some x) (hq : quiet x.it.o.op = true) : (∀ r, (hT (k + 1)).get r = (hT k).get r) ∧ nT (k + 1) = nT k := by
  obtain ⟨hh, q, h2, h3, h4, h5⟩ := evM_eq (tr.step k x hk).1
  obtain ⟨_, s2, s3⟩ := hide_spec _ _ _ _ h3
  obtain ⟨e1, e2⟩ := same_any hq _ _ _ _ _ h4
  refine ⟨fun r => ?_, e2⟩
  rw [h5, s3]
  split
  · rfl
  · rename_i hr; rw [e1, s2, if_neg hr]
theorem Trace.stretch (tr : Trace E F L σ fT hT nT v) {p : Nat} : ∀ (d : Nat), p + d ≤ σ.length → (∀ (k : Nat) (x : Step), p ≤ k → k < p + d → σ[k]? = some x → Ev.quiet x.it.o.op = true) → (∀ r, (hT (p + d)).get r = (hT p).get r) ∧ nT (p + d) = nT p := by
  intro d
  induction d with
  | zero => intro _ _; exact ⟨fun _ => rfl, rfl⟩
  | succ d ih =>
    intro hl hq
    obtain ⟨x, hx⟩ : ∃ x, σ[p + d]? = some x := ⟨σ[p + d], List.getElem?_eq_getElem (by omega)⟩
    obtain ⟨i1, i2⟩ := ih (by omega) fun k x h1 h2 => hq k x h1 (by omega)
    obtain ⟨j1, j2⟩ := tr.quiet hx (hq _ x (by omega) (by omega) hx)
    exact ⟨fun r => (j1 r).trans (i1 r), j2.trans i2⟩
/-- the next one that acts -/
theorem next_chain (σ : List Step) : ∀ (d p : Nat), p + d = σ.length → ∃ p', p ≤ p' ∧ p' ≤ σ.length ∧ (∀ (k : Nat) (x : Step), p ≤ k → k < p' → σ[k]? = some x → quiet x.it.o.op = true) ∧ ∀ x, σ[p']? = some x → quiet x.it.o.op = false := by
  intro d
  induction d with
  | zero => intro p h; exact ⟨p, Nat.le_refl _, by omega, fun k x h1 h2 => by omega, fun x hx => by rw [List.getElem?_eq_none (by omega)] at hx; cases hx⟩
  | succ d ih =>
    intro p h
    obtain ⟨x, hx⟩ : ∃ x, σ[p]? = some x := ⟨σ[p], List.getElem?_eq_getElem (by omega)⟩
    cases hq : quiet x.it.o.op with
    | false => exact ⟨p, Nat.le_refl _, by omega, fun k x h1 h2 => by omega, fun y hy => by rw [hx] at hy; cases hy; exact hq⟩
    | true =>
      obtain ⟨p', h1, h2, h3, h4⟩ := ih (p + 1) (by omega)
      refine ⟨p', by omega, h2, fun k y k1 k2 hy => ?_, h4⟩
      by_cases e : k = p
      · subst e; rw [hx] at hy; cases hy; exact hq
      · exact h3 k y (by omega) k2 hy
/-- the last one before that acts, from a place on -/
theorem last_chain (σ : List Step) (p : Nat) : ∀ (d : Nat), p + d ≤ σ.length → (∀ (k : Nat) (x : Step), p ≤ k → k < p + d → σ[k]? = some x → quiet x.it.o.op = true) ∨
    ∃ c x, p ≤ c ∧ c < p + d ∧ σ[c]? = some x ∧ quiet x.it.o.op = false ∧ ∀ (k : Nat) (y : Step), c < k → k < p + d → σ[k]? = some y → quiet y.it.o.op = true := by
  intro d
  induction d with
  | zero => intro _; exact .inl fun k x h1 h2 => by omega
  | succ d ih =>
    intro hl
    obtain ⟨x, hx⟩ : ∃ x, σ[p + d]? = some x := ⟨σ[p + d], List.getElem?_eq_getElem (by omega)⟩
    cases hq : quiet x.it.o.op with
    | false => exact .inr ⟨p + d, x, by omega, by omega, hx, hq, fun k y h1 h2 => by omega⟩
    | true =>
      rcases ih (by omega) with h1 | ⟨c, y, c1, c2, c3, c4, c5⟩
      · left
        intro k y k1 k2 hy
        by_cases e : k = p + d
        · subst e; rw [hx] at hy; cases hy; exact hq
        · exact h1 k y k1 (by omega) hy
      · right
        refine ⟨c, y, c1, by omega, c3, c4, ?_⟩
        intro k z k1 k2 hz
        by_cases e : k = p + d
        · subst e; rw [hx] at hz; cases hz; exact hq
        · exact c5 k z k1 (by omega) hz
end tr
section plan
variable {ops : List Oper} {nf : Nat} {σ : List Step}
theorem PlanOk.len (p : PlanOk ops nf σ) : σ.length = ops.length := by have := p.js.length_eq; simpa using this
theorem PlanOk.pos (p : PlanOk ops nf σ) {j : Nat} (hj : j < ops.length) : ∃ (k : Nat) (x : Step), σ[k]? = some x ∧ x.it.j = j := by
  have h1 : j ∈ σ.map (·.it.j) := p.js.mem_iff.2 (List.mem_range.2 hj)
  obtain ⟨x, hx, e⟩ := List.mem_map.1 h1
  obtain ⟨k, hk⟩ := List.mem_iff_getElem?.1 hx
  exact ⟨k, x, hk, e⟩
theorem PlanOk.inj (p : PlanOk ops nf σ) {k k' : Nat} {x x' : Step} (hk : σ[k]? = some x) (hk' : σ[k']? = some x') (e : x.it.j = x'.it.j) : k = k' := by
  have hn : (σ.map (·.it.j)).Nodup := p.js.nodup_iff.2 List.nodup_range
  have h1 : k < (σ.map (·.it.j)).length := by rw [List.length_map]; exact (List.getElem?_eq_some_iff.1 hk).1
  refine (List.getElem?_inj h1 hn).1 ?_
  rw [List.getElem?_map, List.getElem?_map, hk, hk']
  simp [e]
theorem PlanOk.item' (p : PlanOk ops nf σ) {k : Nat} {x : Step} (hk : σ[k]? = some x) : ops[x.it.j]? = some x.it.o ∧ x.it.anc = bits ops x.it.j := p.item x (List.mem_of_getElem? hk)
theorem PlanOk.dst (p : PlanOk ops nf σ) {k k' : Nat} {x x' : Step} {t : Tmp} (hk : σ[k]? = some x) (hk' : σ[k']? = some x') (h : x.it.o.dst = some t) (h' : x'.it.o.dst = some t) : k = k' :=
  p.inj hk hk' (p.dsts _ _ _ _ t (p.item' hk).1 (p.item' hk').1 h h')
/-- variables' steps -/
theorem PlanOk.float (p : PlanOk ops nf σ) {k : Nat} {x : Step} (hk : σ[k]? = some x) (hlt : k < nf) : ∃ e d ty pos aft, x.it.o = ⟨some d, .alloc e, ty, pos, aft, none⟩ := by
  obtain ⟨h1, _, _⟩ := p.fl k x hk hlt
  unfold isFloat at h1
  simp only [andB_eq, beq_eq] at h1
  obtain ⟨h2, _, h3, h4⟩ := h1
  generalize hxo : x.it.o = o at *
  obtain ⟨d, op, ty, pos, aft, gd⟩ := o
  cases gd with
  | some _ => cases h3
  | none =>
    cases d with
    | none => cases h4
    | some d =>
      cases op <;> first
        | (cases h2; done)
        | skip
      case alloc e => exact ⟨e, d, ty, pos, aft, rfl⟩
      case call c =>
        exfalso
        obtain ⟨callee, args, ts⟩ := c
        cases callee with
        | builtin b => cases b <;> cases h2
        | _ => cases h2
end plan
end Go.Proofs.YtemkiobojboceaaGreat.Ev
