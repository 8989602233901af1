/- What an operation comes to hangs on the slots it looks at alone. No conditions: over any program. -/
import Derived.Test.YtemkiobojboceaaGreatEvS15A
namespace Go.Proofs.YtemkiobojboceaaGreat.Ev
open Go Go.RowKit
set_option linter.unusedSimpArgs false
set_option linter.unusedVariables false

theorem mapO_congr {α β : Type} {f f' : α → Option β} {l : List α} (h : ∀ x ∈ l, f x = f' x) : mapO f l = mapO f' l := by
  induction l with
  | nil => rfl
  | cons x l ih =>
    have e : ∀ k : α → Option β, mapO k (x :: l) = ob (k x) fun y => ob (mapO k l) fun r => some (y :: r) := fun _ => rfl
    rw [e, e, h x (.head _), ih fun y hy => h y (.tail _ hy)]
section
variable {g g' : G}
theorem vals_congr {l : List Operand} (h : ∀ x ∈ l, val g x = val g' x) : vals g l = vals g' l := mapO_congr h
theorem valsP_congr {l : List (Nat × Operand)} (h : ∀ p ∈ l, val g p.2 = val g' p.2) : valsP g l = valsP g' l := mapO_congr fun p hp => by rw [h p hp]
theorem optV_congr {x : Option Operand} (h : ∀ y, x = some y → val g y = val g' y) : optV g x = optV g' x := by
  cases x with
  | none => rfl
  | some y => show ob (val g y) _ = ob (val g' y) _; rw [h y rfl]
theorem val_congr {x : Operand} (h : ∀ t, x = .tmp t → g t = g' t) : val g x = val g' x := by
  cases x with
  | tmp t => exact h t rfl
  | _ => rfl
theorem op_congr {E : Env} {F : Fns} {op : Op} (h : ∀ x ∈ op.operands.toList, val g x = val g' x) : evOp op E F g = evOp op E F g' := by
  funext m nx
  cases op
  case move x => show oMove x E F g m nx = oMove x E F g' m nx; unfold oMove; rw [h x (by simp [Op.operands])]
  case assign x => show oMove x E F g m nx = oMove x E F g' m nx; unfold oMove; rw [h x (by simp [Op.operands])]
  case pick c x y =>
    show oPick c x y E F g m nx = oPick c x y E F g' m nx
    unfold oPick
    rw [h c (by simp [Op.operands])]
    congr 1; funext v; congr 1; funext t
    cases t
    · show ob (val g y) _ = ob (val g' y) _; rw [h y (by simp [Op.operands])]
    · show ob (val g x) _ = ob (val g' x) _; rw [h x (by simp [Op.operands])]
  case alloc => rfl
  case box e x => show oBox e x E F g m nx = oBox e x E F g' m nx; unfold oBox; rw [h x (by simp [Op.operands])]
  case build t ps =>
    have hp : valsP g ps.toList = valsP g' ps.toList := valsP_congr fun p hp => h p.2 (by simp only [Op.operands]; exact List.mem_map_of_mem hp)
    show oBuild t ps E F g m nx = oBuild t ps E F g' m nx; unfold oBuild; rw [hp]
  case buildSlice t n ps =>
    have hp : valsP g ps.toList = valsP g' ps.toList := valsP_congr fun p hp => h p.2 (by simp only [Op.operands]; exact List.mem_map_of_mem hp)
    show oBuildSlice t n ps E F g m nx = oBuildSlice t n ps E F g' m nx; unfold oBuildSlice; rw [hp]
  case insert t a k x => show oMapUpdate t a k x E F g m nx = oMapUpdate t a k x E F g' m nx; unfold oMapUpdate; rw [h a (by simp [Op.operands]), h k (by simp [Op.operands]), h x (by simp [Op.operands])]
  case load t x => show oLoad t x E F g m nx = oLoad t x E F g' m nx; unfold oLoad; rw [h x (by simp [Op.operands])]
  case store t x y => show oStore t x y E F g m nx = oStore t x y E F g' m nx; unfold oStore; rw [h x (by simp [Op.operands]), h y (by simp [Op.operands])]
  case ready => rfl
  case waits => rfl
  case nilCheck x => show oNilCheck x E F g m nx = oNilCheck x E F g' m nx; unfold oNilCheck; rw [h x (by simp [Op.operands])]
  case binOp b t x y t' => show oBin b t x y t' E F g m nx = oBin b t x y t' E F g' m nx; unfold oBin; rw [h x (by simp [Op.operands]), h y (by simp [Op.operands])]
  case unOp u t x => show oUn u t x E F g m nx = oUn u t x E F g' m nx; unfold oUn; rw [h x (by simp [Op.operands])]
  case convert s t x => 
    show oConvert s t x E F g m nx = oConvert s t x E F g' m nx
    unfold oConvert convS
    rw [h x (by simp [Op.operands])]
  case sliceToArrayPointer => rfl
  case makeInterface t x => show oMakeInterface t x E F g m nx = oMakeInterface t x E F g' m nx; unfold oMakeInterface; rw [h x (by simp [Op.operands])]
  case makeFunc fn first caps =>
    have hp : vals g caps.toList = vals g' caps.toList := vals_congr fun p hp => h p (by simp [Op.operands, Array.mem_toList_iff.1 hp])
    show oMakeFunc fn first caps E F g m nx = oMakeFunc fn first caps E F g' m nx; unfold oMakeFunc; rw [hp]
  case makeMap t r =>
    have hp : optV g r = optV g' r := optV_congr fun y hy => h y (by simp [Op.operands, hy])
    show oMakeMap t r E F g m nx = oMakeMap t r E F g' m nx; unfold oMakeMap; rw [hp]
  case makeChan => rfl
  case makeSlice t l c => show oMakeSlice t l c E F g m nx = oMakeSlice t l c E F g' m nx; unfold oMakeSlice; rw [h l (by simp [Op.operands]), h c (by simp [Op.operands])]
  case slice t x lo hi mx =>
    have h1 : optV g lo = optV g' lo := optV_congr fun y hy => h y (by simp [Op.operands, hy])
    have h2 : optV g hi = optV g' hi := optV_congr fun y hy => h y (by simp [Op.operands, hy])
    have h3 : optV g mx = optV g' mx := optV_congr fun y hy => h y (by simp [Op.operands, hy])
    show oSlice t x lo hi mx E F g m nx = oSlice t x lo hi mx E F g' m nx; unfold oSlice; rw [h x (by simp [Op.operands]), h1, h2, h3]
  case fieldAddr s x j => show oFieldAddr s x j E F g m nx = oFieldAddr s x j E F g' m nx; unfold oFieldAddr; rw [h x (by simp [Op.operands])]
  case field s x j => show oField s x j E F g m nx = oField s x j E F g' m nx; unfold oField; rw [h x (by simp [Op.operands])]
  case indexAddr t x y => show oIndexAddr t x y E F g m nx = oIndexAddr t x y E F g' m nx; unfold oIndexAddr; rw [h x (by simp [Op.operands]), h y (by simp [Op.operands])]
  case index t x y => show oIndex t x y E F g m nx = oIndex t x y E F g' m nx; unfold oIndex; rw [h x (by simp [Op.operands]), h y (by simp [Op.operands])]
  case lookup t x y ok => show oLookup t x y ok E F g m nx = oLookup t x y ok E F g' m nx; unfold oLookup; rw [h x (by simp [Op.operands]), h y (by simp [Op.operands])]
  case mapUpdate t a k x => show oMapUpdate t a k x E F g m nx = oMapUpdate t a k x E F g' m nx; unfold oMapUpdate; rw [h a (by simp [Op.operands]), h k (by simp [Op.operands]), h x (by simp [Op.operands])]
  case mapEntry t a k => show oMapEntry t a k E F g m nx = oMapEntry t a k E F g' m nx; unfold oMapEntry; rw [h a (by simp [Op.operands]), h k (by simp [Op.operands])]
  case entryStore t a s x => show oEntryStore t a s x E F g m nx = oEntryStore t a s x E F g' m nx; unfold oEntryStore; rw [h a (by simp [Op.operands]), h s (by simp [Op.operands]), h x (by simp [Op.operands])]
  case range t x => show oRange t x E F g m nx = oRange t x E F g' m nx; unfold oRange; rw [h x (by simp [Op.operands])]
  case next x s => show oNext x s E F g m nx = oNext x s E F g' m nx; unfold oNext; rw [h x (by simp [Op.operands])]
  case entry x => show oEntry x E F g m nx = oEntry x E F g' m nx; unfold oEntry; rw [h x (by simp [Op.operands])]
  case typeAssert => rfl
  case extract x j => show oExtract x j E F g m nx = oExtract x j E F g' m nx; unfold oExtract; rw [h x (by simp [Op.operands])]
  case call c =>
    have h1 : vals g c.args.toList = vals g' c.args.toList := vals_congr fun p hp => h p (by
      obtain ⟨callee, args, ts⟩ := c
      cases callee <;> simp [Op.operands, Call.operands, Array.mem_toList_iff.1 hp])
    show oCall c E F g m nx = oCall c E F g' m nx
    unfold oCall
    rw [h1]
    obtain ⟨callee, args, ts⟩ := c
    cases callee with
    | value f =>
      have h2 : val g f = val g' f := h f (by simp [Op.operands, Call.operands])
      show (ob _ fun l => ob (val g f) _) = (ob _ fun l => ob (val g' f) _)
      rw [h2]
    | invoke _ _ => rfl
    | builtin b => rfl
  case go => rfl
  case defer => rfl
  case panic => rfl
  case send => rfl
  case recv => rfl
  case select => rfl
/-- .. its guard's slot with them -/
theorem any_congr {E : Env} {F : Fns} {ops : Array Oper} {o : Oper} (h : ∀ t ∈ o.looksAt ops, g t = g' t) : evAny E F ops.toList g o = evAny E F ops.toList g' o := by
  have h1 : evOp o.op E F g = evOp o.op E F g' := op_congr fun x hx => val_congr fun t ht => h t (by
    subst ht
    unfold Oper.looksAt
    exact List.mem_append_left _ (List.mem_filterMap.2 ⟨_, hx, rfl⟩))
  funext m nx
  unfold evAny goOn
  rw [h1]
  cases hg : o.guard with
  | none => rfl
  | some q =>
    show (ob (nth ops.toList q.1) fun o' => ob o'.dst fun d => ob (g d) _) = (ob (nth ops.toList q.1) fun o' => ob o'.dst fun d => ob (g' d) _)
    rw [nth_eq]
    cases ho : ops.toList[q.1]? with
    | none => rfl
    | some o' =>
      show (ob o'.dst fun d => ob (g d) _) = (ob o'.dst fun d => ob (g' d) _)
      cases hd : o'.dst with
      | none => rfl
      | some d =>
        show ob (g d) _ = ob (g' d) _
        rw [h d (by
          unfold Oper.looksAt
          rw [hg]
          refine List.mem_append_right _ ?_
          rw [Array.getElem?_toList] at ho
          simp [ho, hd])]
end
theorem sameC_eq {c c' : Option Nat} (h : sameC c c' = true) : c = c' := by
  cases c with
  | none => cases c' with
    | none => rfl
    | some _ => cases h
  | some a => cases c' with
    | none => cases h
    | some b => rw [beq_eq.1 (show Nat.beq a b = true from h)]
theorem same1_eq {u v : V} (h : same1 u v = true) : u = v := by
  cases u with
  | b x => cases v with
    | b y => rw [eq_of_beq (show (x == y) = true from h)]
    | _ => cases h
  | i k x => cases v with
    | i k' y =>
      obtain ⟨h1, h2⟩ := andB_eq.1 (show andB (kEq k k') (eqI x y) = true from h)
      rw [kEq_eq] at h1; rw [eqI_eq] at h2
      rw [h1, of_decide_eq_true h2]
    | _ => cases h
  | s _ => cases h
  | p r o => cases v with
    | p r' o' =>
      obtain ⟨h1, h2⟩ := andB_eq.1 (show andB (Nat.beq r r') (Nat.beq o o') = true from h)
      rw [beq_eq.1 h1, beq_eq.1 h2]
    | _ => cases h
  | pn => cases v <;> first | rfl | cases h
  | sl r o n c => cases v with
    | sl r' o' n' c' =>
      obtain ⟨h1, h2⟩ := andB_eq.1 (show andB (Nat.beq r r') (andB (Nat.beq o o') (andB (Nat.beq n n') (sameC c c'))) = true from h)
      obtain ⟨h2, h3⟩ := andB_eq.1 h2
      obtain ⟨h3, h4⟩ := andB_eq.1 h3
      rw [beq_eq.1 h1, beq_eq.1 h2, beq_eq.1 h3, sameC_eq h4]
    | _ => cases h
  | sn => cases v <;> first | rfl | cases h
  | m r => cases v with
    | m r' => rw [beq_eq.1 (show Nat.beq r r' = true from h)]
    | _ => cases h
  | mn => cases v <;> first | rfl | cases h
  | fn _ _ => cases h
  | fnil => cases v <;> first | rfl | cases h
  | ifc _ _ => cases h
  | inil => cases v <;> first | rfl | cases h
  | agg _ => cases h
  | tup _ => cases h
  | far j n c => cases v with
    | far j' n' c' =>
      obtain ⟨h1, h2⟩ := andB_eq.1 (show andB (Nat.beq j j') (andB (Nat.beq n n') (Nat.beq c c')) = true from h)
      obtain ⟨h2, h3⟩ := andB_eq.1 h2
      rw [beq_eq.1 h1, beq_eq.1 h2, beq_eq.1 h3]
    | _ => cases h
theorem sameL_eq {l : List V} : ∀ {r : List V}, sameL l r = true → l = r := by
  induction l with
  | nil => intro r h; cases r with
    | nil => rfl
    | cons _ _ => cases h
  | cons x l ih =>
    intro r h
    cases r with
    | nil => cases h
    | cons y r =>
      obtain ⟨h1, h2⟩ := andB_eq.1 (show andB (same1 x y) (sameL l r) = true from h)
      rw [same1_eq h1, ih h2]
theorem orF_eq {x : Option Bool} : orF x = true ↔ x = some true := by
  cases x with
  | none => exact ⟨fun h => (by cases h), fun h => (by cases h)⟩
  | some b => exact ⟨fun h => (by rw [show b = true from h]), fun h => (by cases h; rfl)⟩
theorem sameV_eq {u v : V} (h : sameV u v = true) : u = v := by
  unfold sameV at h
  rw [orB_eq, orB_eq, orF_eq, orF_eq] at h
  rcases h with h | h | h
  · exact same1_eq h
  · simp only [onAgg_eq, Option.some.injEq] at h
    obtain ⟨l, rfl, r, rfl, h⟩ := h
    rw [sameL_eq h]
  · simp only [onTup_eq, Option.some.injEq] at h
    obtain ⟨l, rfl, r, rfl, h⟩ := h
    rw [sameL_eq h]
/-- rows that are laid aside -/
def HidR (g : G) (l : List Tmp) (r : Nat) : Prop := ∃ t ∈ l, ∃ o, g t = some (.p r o)
open Classical in
theorem hide_spec {g : G} : ∀ (l : List Tmp) (h hh : H) (q : List (Nat × LObj)), hide g l h = some (hh, q) →
    (∀ r, HidR g l r → ∃ x, h.get r = some x) ∧ (∀ r, hh.get r = if HidR g l r then none else h.get r) ∧ ∀ h1 r, (unhide q h1).get r = if HidR g l r then h.get r else h1.get r := by
  intro l
  induction l with
  | nil =>
    intro h hh q he
    cases he
    have : ∀ r, ¬ HidR g [] r := by rintro r ⟨t, ht, _⟩; cases ht
    exact ⟨fun r hr => absurd hr (this r), fun r => by rw [if_neg (this r)], fun h1 r => by rw [if_neg (this r)]; rfl⟩
  | cons t l ih =>
    intro h hh q he
    have he' : (ob (g t) fun v => onP v fun r o => ob (h.get r) fun x => ob (hide g l (h.put none r)) fun q => some (q.1, (r, x) :: q.2)) = some (hh, q) := he
    simp only [ob_eq, onP_eq, Option.some.injEq, Prod.mk.injEq] at he'
    obtain ⟨v, hv, r0, o, rfl, x, hx, ⟨hh', q'⟩, hq, rfl, rfl⟩ := he'
    obtain ⟨i1, i2, i3⟩ := ih _ _ _ hq
    have hc : ∀ r, HidR g (t :: l) r ↔ r = r0 ∨ HidR g l r := by
      intro r
      constructor
      · rintro ⟨t', ht', o', h'⟩
        cases ht' with
        | head => rw [hv] at h'; cases h'; exact .inl rfl
        | tail _ ht' => exact .inr ⟨t', ht', o', h'⟩
      · rintro (rfl | ⟨t', ht', o', h'⟩)
        · exact ⟨t, .head _, o, hv⟩
        · exact ⟨t', .tail _ ht', o', h'⟩
    have h0 : ¬ HidR g l r0 := by
      intro hr
      obtain ⟨y, hy⟩ := i1 r0 hr
      rw [Tr.get_put, if_pos rfl] at hy; cases hy
    refine ⟨?_, ?_, ?_⟩
    · intro r hr
      rcases (hc r).1 hr with rfl | hr
      · exact ⟨x, hx⟩
      · obtain ⟨y, hy⟩ := i1 r hr
        rw [Tr.get_put] at hy
        split at hy
        · cases hy
        · exact ⟨y, hy⟩
    · intro r
      show hh'.get r = _
      rw [i2 r]
      by_cases hr : HidR g l r
      · rw [if_pos hr, if_pos ((hc r).2 (.inr hr))]
      · rw [if_neg hr, Tr.get_put]
        by_cases e : r = r0
        · rw [if_pos e, if_pos ((hc r).2 (.inl e))]
        · rw [if_neg e, if_neg (fun q => ((hc r).1 q).elim e hr)]
    · intro h1 r
      show (unhide q' (h1.put (some x) r0)).get r = _
      rw [i3]
      by_cases hr : HidR g l r
      · have e : r ≠ r0 := by rintro rfl; exact h0 hr
        rw [if_pos hr, if_pos ((hc r).2 (.inr hr)), Tr.get_put, if_neg e]
      · rw [if_neg hr, Tr.get_put]
        by_cases e : r = r0
        · rw [if_pos e, if_pos ((hc r).2 (.inl e)), e, hx]
        · rw [if_neg e, if_neg (fun q => ((hc r).1 q).elim e hr)]
open Classical in
/-- some rows are taken away -/
theorem minus (h : H) (p : Nat → Prop) : ∀ n : Nat, ∃ h' : H, ∀ r, h'.get r = if r < n ∧ p r then none else h.get r := by
  intro n
  induction n with
  | zero => exact ⟨h, fun r => by rw [if_neg (by omega)]⟩
  | succ n ih =>
    obtain ⟨h', ih⟩ := ih
    by_cases hp : p n
    · refine ⟨h'.put none n, fun r => ?_⟩
      rw [Tr.get_put]
      by_cases e : r = n
      · subst e; rw [if_pos rfl, if_pos ⟨Nat.lt_succ_self _, hp⟩]
      · rw [if_neg e, ih]
        by_cases hr : r < n ∧ p r
        · rw [if_pos hr, if_pos ⟨by omega, hr.2⟩]
        · rw [if_neg hr, if_neg (fun q => hr ⟨by omega, q.2⟩)]
    · refine ⟨h', fun r => ?_⟩
      rw [ih]
      by_cases hr : r < n ∧ p r
      · rw [if_pos hr, if_pos ⟨by omega, hr.2⟩]
      · rw [if_neg hr, if_neg]
        rintro ⟨q1, q2⟩
        have : r ≠ n := by rintro rfl; exact hp q2
        exact hr ⟨by omega, q2⟩
section rel
variable {P : Program} {ρ ρ' : Nat → Loc} {env : Nat → Value} {nx nx1 : Nat} {h hh hc h1 h2 : H} {w w' : World}
theorem Rel.sub (R : Rel P ρ env nx h w) (hs : ∀ r x, h2.get r = some x → h.get r = some x) : Rel P ρ env nx h2 w := ⟨fun r o ho => R.obj r o (hs r o ho), fun r r' o o' h1 h2 => R.inj r r' o o' (hs _ _ h1) (hs _ _ h2)⟩
/-- what was laid aside is there as it was -/
theorem Goes.patch {M : Nat → Prop} (R : Rel P ρ env nx hc w) (hM : ∀ r, M r → hh.get r = none) (hN : ∀ r, ¬ M r → hh.get r = hc.get r) (g : Goes P ρ env nx hh w ρ' nx1 h1 w') (p1 : ∀ r, M r → h2.get r = hc.get r) (p2 : ∀ r, ¬ M r → h2.get r = h1.get r) :
    Goes P ρ env nx hc w ρ' nx1 h2 w' := by
  have hsub : ∀ r x, hh.get r = some x → hc.get r = some x := by
    intro r x hx
    by_cases hr : M r
    · rw [hM r hr] at hx; cases hx
    · rw [← hN r hr]; exact hx
  have hrows : ∀ b, Rows ρ hh b → Rows ρ hc b := fun b ⟨r, o, ho, e⟩ => ⟨r, o, hsub r o ho, e⟩
  have hout : ∀ r x, M r → hc.get r = some x → ¬ Rows ρ hh (ρ r).b := by
    rintro r x hr hx ⟨r', o', ho', e⟩
    have := R.inj _ _ _ _ (hsub r' o' ho') hx e
    subst this
    rw [hM _ hr] at ho'; cases ho'
  have hnew : ∀ r x, M r → hc.get r = some x → ¬ Rows ρ' h1 (ρ' r).b := by
    intro r x hr hx hb
    have h0 := R.obj r x hx
    rw [g.all r h0.1.1] at hb
    rcases g.src _ hb with h3 | h3
    · exact hout r x hr hx h3
    · have := h0.2.lt; omega
  refine ⟨g.all, g.le, g.keep.mono hrows, ?_, ?_, ?_⟩
  · rintro b ⟨r, o, ho, rfl⟩
    by_cases hr : M r
    · rw [p1 r hr] at ho
      exact .inl ⟨r, o, ho, by rw [g.all r (R.obj r o ho).1.1]⟩
    · rw [p2 r hr] at ho
      exact (g.src _ ⟨r, o, ho, rfl⟩).imp_left (hrows _)
  · intro r o ho
    by_cases hr : M r
    · rw [p1 r hr] at ho
      have h0 := R.obj r o ho
      refine ⟨h0.1.mono g.agree g.le, ?_⟩
      rw [g.all r h0.1.1]
      exact h0.2.mono g.agree g.le (g.keep.block _ h0.2.lt (hout r o hr ho))
    · rw [p2 r hr] at ho
      exact g.rel.obj r o ho
  · intro r r' o o' k1 k2 e
    by_cases hr : M r <;> by_cases hr' : M r'
    · rw [p1 r hr] at k1; rw [p1 r' hr'] at k2
      rw [g.all r (R.obj r o k1).1.1, g.all r' (R.obj r' o' k2).1.1] at e
      exact R.inj _ _ _ _ k1 k2 e
    · rw [p1 r hr] at k1; rw [p2 r' hr'] at k2
      exact absurd ⟨r', o', k2, e.symm⟩ (hnew r o hr k1)
    · rw [p2 r hr] at k1; rw [p1 r' hr'] at k2
      exact absurd ⟨r, o, k1, e⟩ (hnew r' o' hr' k2)
    · rw [p2 r hr] at k1; rw [p2 r' hr'] at k2
      exact g.rel.inj _ _ _ _ k1 k2 e
/-- a row at a place that is kept for it -/
def at_ (ρ : Nat → Loc) (r : Nat) (L : Loc) : Nat → Loc := fun r' => if r' = r then L else ρ r'
theorem at_same (ρ : Nat → Loc) (r : Nat) (L : Loc) : at_ ρ r L r = L := by simp [at_]
theorem at_ne (ρ : Nat → Loc) (r : Nat) (L : Loc) {r' : Nat} (h : r' ≠ r) : at_ ρ r L r' = ρ r' := by simp [at_, h]
theorem Rel.newAt (R : Rel P ρ env nx h w) {r : Nat} {o' : LObj} {L : Loc} (hr : r < nx) (hoff : (ρ r).on = false) (hk : Keep (fun _ => False) w w') (hL : w.heap.size ≤ L.b) (hon : L.on = true) (ho : ObjR P (at_ ρ r L) env nx o' L w') :
    Agree ρ (at_ ρ r L) nx ∧ Rel P (at_ ρ r L) env nx (h.put (some o') r) w' := by
  have ha : Agree ρ (at_ ρ r L) nx := by
    intro r' hr'
    refine at_ne ρ r L ?_
    rintro rfl
    have := hr'.2
    rw [hoff] at this; cases this
  have hne : ∀ r' x, h.get r' = some x → r' ≠ r := by
    rintro r' x hx rfl
    have := (R.obj r' x hx).1.2
    rw [hoff] at this; cases this
  refine ⟨ha, ?_, ?_⟩
  · intro r' x hx
    rw [Tr.get_put] at hx
    split at hx
    · rename_i e; subst e; cases hx; exact ⟨⟨hr, by rw [at_same]; exact hon⟩, by rw [at_same]; exact ho⟩
    · rename_i e
      have h1 := R.obj r' x hx
      refine ⟨h1.1.mono ha (Nat.le_refl _), ?_⟩
      rw [at_ne _ _ _ e]
      exact h1.2.mono ha (Nat.le_refl _) (hk.block _ h1.2.lt id)
  · have key : ∀ r' x, h.get r' = some x → (at_ ρ r L r').b ≠ (at_ ρ r L r).b := by
      intro r' x hx
      have h1 := R.obj r' x hx
      rw [at_ne _ _ _ (hne r' x hx), at_same]
      have := h1.2.lt; omega
    intro r1 r2 o1 o2 k1 k2 e
    rw [Tr.get_put] at k1 k2
    split at k1 <;> split at k2
    · rename_i e1 e2; rw [e1, e2]
    · rename_i e1 e2; subst e1; exact absurd e.symm (key r2 _ k2)
    · rename_i e1 e2; subst e2; exact absurd e (key r1 _ k1)
    · rw [at_ne _ _ _ (hne r1 _ k1), at_ne _ _ _ (hne r2 _ k2)] at e
      exact R.inj _ _ _ _ k1 k2 e
end rel
end Go.Proofs.YtemkiobojboceaaGreat.Ev
