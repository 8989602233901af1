/- What the small machine's operations come to, the program's come to: maps. No conditions: over any program. -/
import Derived.Test.YtemkiobojboceaaGreatEvS7
namespace Go.Proofs.YtemkiobojboceaaGreat.Ev
open Go Go.RowKit
set_option linter.unusedSimpArgs false
set_option linter.unusedVariables false

section maps
variable {ρ : Nat → Loc} {env : Nat → Value} {nx : Nat}
theorem EntsR.length {l : List Ent} : ∀ {xs : List MapEntry}, EntsR ρ env nx l xs → l.length = xs.length := by
  induction l with
  | nil => intro xs h; cases h; rfl
  | cons v l ih => intro xs h; cases h with | cons h t => simp [ih t]
theorem EntsR.get {l : List Ent} : ∀ {xs : List MapEntry}, EntsR ρ env nx l xs → ∀ (j : Nat) (e : Ent), l[j]? = some e → ∃ x, xs[j]? = some x ∧ EntR ρ env nx e x := by
  induction l with
  | nil => intro xs h j v hv; simp at hv
  | cons u l ih =>
    intro xs h j v hv
    cases h with
    | cons h t =>
      cases j with
      | zero => simp at hv; subst hv; exact ⟨_, rfl, h⟩
      | succ j => simpa using ih t j v (by simpa using hv)
theorem EntsR.snoc {l : List Ent} {e : Ent} {x : MapEntry} (hx : EntR ρ env nx e x) : ∀ {xs : List MapEntry}, EntsR ρ env nx l xs → EntsR ρ env nx (l ++ [e]) (xs ++ [x]) := by
  induction l with
  | nil => intro xs h; cases h; exact .cons hx .nil
  | cons u l ih => intro xs h; cases h with | cons h t => exact .cons h (ih t)
theorem EntsR.set {u : V} {y : Value} (hy : VR ρ env nx u y) {f : MapEntry → MapEntry} {l : List Ent} : ∀ {xs : List MapEntry} {j : Nat}, EntsR ρ env nx l xs → (∀ e x, l[j]? = some e → xs[j]? = some x → EntR ρ env nx e x → EntR ρ env nx (e.1, u, e.2.2) (f x)) → EntsR ρ env nx (setAt u l j) (xs.modify j f) := by
  induction l with
  | nil => intro xs j h _; cases h; rw [List.modify_nil]; exact .nil
  | cons e l ih =>
    intro xs j h hf
    cases h with
    | @cons _ x _ xs h t =>
      cases j with
      | zero =>
        have e1 : setAt u (e :: l) 0 = (e.1, u, e.2.2) :: l := rfl
        rw [e1, List.modify_zero_cons]
        exact .cons (hf e x rfl rfl h) t
      | succ j =>
        have e1 : setAt u (e :: l) (j + 1) = e :: setAt u l j := rfl
        rw [e1, List.modify_succ_cons]
        exact .cons h (ih t fun e' x' h1 h2 h3 => hf e' x' (by simpa using h1) (by simpa using h2) h3)
theorem EntsR.del {l : List Ent} : ∀ {xs : List MapEntry} (j : Nat), EntsR ρ env nx l xs → EntsR ρ env nx (delAt l j) (xs.eraseIdx j) := by
  induction l with
  | nil => intro xs j h; cases h; rw [List.eraseIdx_nil]; exact .nil
  | cons e l ih =>
    intro xs j h
    cases h with
    | cons h t =>
      cases j with
      | zero => exact t
      | succ j => exact .cons h (ih j t)
theorem eqInts_true {l : List V} : ∀ {r : List V}, eqInts l r = some true → l = r := by
  induction l with
  | nil => intro r h; cases r with | nil => rfl | cons _ _ => cases h
  | cons u l ih =>
    intro r h
    cases r with
    | nil => cases h
    | cons v r =>
      have e1 : eqInts (u :: l) (v :: r) = onI u fun k a => onI v fun k' b => guardB (kEq k k') (@Bool.rec (fun _ => Option Bool) (guardB (andB (allInts l) (allInts r)) (some false)) (eqInts l r) (eqI a b)) := rfl
      rw [e1] at h
      simp only [onI_eq, guardB_eq, kEq_eq] at h
      obtain ⟨k, m, rfl, k', n, rfl, rfl, h⟩ := h
      rw [eqI_eq] at h
      by_cases hmn : m = n
      · subst hmn
        simp only [decide_true] at h
        rw [ih h]
      · simp only [hmn, decide_false, guardB_eq] at h
        cases h.2
theorem keyOk_spec {E : Env} {β : Type} {t : TypeId} {k : V} {x : Option β} {y : β} (h : keyOk E t k x = some y) : x = some y ∧ ((∃ kk n kk', k = .i kk n ∧ E.P.underlying t = some (.int kk')) ∨ (∃ l, k = .agg l ∧ 0 < E.flat t ∧ l.length = E.flat t ∧ allInts l = true)) := by
  unfold keyOk at h
  cases k with
  | i kk n =>
    have h' : (desc E t fun d => onIntD d fun _ => x) = some y := h
    simp only [desc_eq, onIntD_eq] at h'
    obtain ⟨d, hd, kk', rfl, h'⟩ := h'
    exact ⟨h', .inl ⟨_, _, _, rfl, hd⟩⟩
  | agg l =>
    have h' : guardB (andB (andB (Nat.blt 0 (E.flat t)) (Nat.beq (len l) (E.flat t))) (allInts l)) x = some y := h
    simp only [guardB_eq, andB_eq, blt_eq, beq_eq, len_eq] at h'
    obtain ⟨⟨⟨h0, h1⟩, h2⟩, h3⟩ := h'
    exact ⟨h3, .inr ⟨l, rfl, h0, h1, h2⟩⟩
  | _ => cases h
def KeyOk (E : Env) (t : TypeId) (k : V) : Prop := (∃ kk n kk', k = .i kk n ∧ E.P.underlying t = some (.int kk')) ∨ (∃ l, k = .agg l ∧ 0 < E.flat t ∧ l.length = E.flat t ∧ allInts l = true)
theorem eqV_true {E : Env} {t : TypeId} {k u : V} (hk : KeyOk E t k) (h : eqV E t k u = some true) : k = u := by
  rcases hk with ⟨kk, n, kk', rfl, hd⟩ | ⟨l, rfl, h0, h1, h2⟩
  · have h' : (onI u fun k' b => guardB (kEq kk k') (desc E t fun d => onIntD d fun _ => some (eqI n b))) = some true := h
    simp only [onI_eq, guardB_eq, kEq_eq, desc_eq, onIntD_eq] at h'
    obtain ⟨k', m, rfl, rfl, d, _, _, rfl, he⟩ := h'
    rw [eqI_eq] at he
    simp at he; rw [he]
  · have h' : (onAgg u fun r => guardB (andB (Nat.blt 0 (E.flat t)) (Nat.beq (len l) (E.flat t))) (eqInts l r)) = some true := h
    simp only [onAgg_eq, guardB_eq] at h'
    obtain ⟨r, rfl, _, he⟩ := h'
    rw [eqInts_true he]
/-- found, or not -/
def FoundR (ρ : Nat → Loc) (env : Nat → Value) (nx : Nat) (k : V) (es : List Ent) (j0 : Nat) (q : Option (Nat × V × Nat)) (q' : Option (Nat × Value)) : Prop :=
  (q = none ∧ q' = none) ∨ ∃ j v b x, q = some (j0 + j, v, b) ∧ q' = some (j0 + j, x) ∧ VR ρ env nx v x ∧ es[j]? = some (k, v, b)
theorem findAsking_run {E : Env} (hE : EnvOk E) {t : TypeId} {k : V} (hk : KeyOk E t k) {kx : Value} (hkx : VR ρ env nx k kx) (w : World) : ∀ (es : List Ent) (es' : List MapEntry) (j0 : Nat) (q : Option (Nat × V × Nat)), findV E t k es j0 = some q → EntsR ρ env nx es es' →
    ∃ q', (Instr.findAsking t kx es' j0).run E.P w = .ok q' w ∧ FoundR ρ env nx k es j0 q q' := by
  intro es
  induction es with
  | nil => intro es' j0 q h hr; cases hr; cases h; exact ⟨none, rfl, .inl ⟨rfl, rfl⟩⟩
  | cons e es ih =>
    intro es' j0 q h hr
    cases hr with
    | @cons _ x _ xs hx t' =>
      have e1 : findV E t k (e :: es) j0 = ob (eqV E t k e.1) fun q => @Bool.rec (fun _ => Option (Option (Nat × V × Nat))) (findV E t k es (Nat.add j0 1)) (some (some (j0, e.2.1, e.2.2))) q := rfl
      rw [e1, ob_eq] at h
      obtain ⟨b, hb, h⟩ := h
      have hq := eqV_run hE hb hkx hx.1 w
      cases b with
      | true =>
        cases h
        refine ⟨some (j0, x.val), ?_, .inr ⟨0, e.2.1, e.2.2, x.val, rfl, rfl, hx.2.1, ?_⟩⟩
        · simp [Instr.findAsking, Sem.run_bind, hq]
        · rw [eqV_true hk hb]; rfl
      | false =>
        obtain ⟨q', h1, h2⟩ := ih xs (j0 + 1) q h t'
        refine ⟨q', ?_, ?_⟩
        · simp [Instr.findAsking, Sem.run_bind, hq, h1]
        · rcases h2 with h2 | ⟨j, v, b, y, r1, r2, r3, r4⟩
          · exact .inl h2
          · exact .inr ⟨j + 1, v, b, y, by rw [r1]; congr 2; omega, by rw [r2]; congr 2; omega, r3, by simpa using r4⟩
theorem findNow_int {E : Env} {t : TypeId} {kk : IntKind} {n : Int} {kd : IntKind} (hd : E.P.underlying t = some (.int kd)) : ∀ (es : List Ent) (es' : List MapEntry) (j0 : Nat) (q : Option (Nat × V × Nat)), findV E t (.i kk n) es j0 = some q → EntsR ρ env nx es es' →
    ∃ q', Instr.findNow (.int kd) (.int kk n) es' j0 = some q' ∧ FoundR ρ env nx (.i kk n) es j0 q q' := by
  intro es
  induction es with
  | nil => intro es' j0 q h hr; cases hr; cases h; exact ⟨none, rfl, .inl ⟨rfl, rfl⟩⟩
  | cons e es ih =>
    intro es' j0 q h hr
    cases hr with
    | @cons _ x _ xs hx t' =>
      have e1 : findV E t (.i kk n) (e :: es) j0 = ob (eqV E t (.i kk n) e.1) fun q => @Bool.rec (fun _ => Option (Option (Nat × V × Nat))) (findV E t (.i kk n) es (Nat.add j0 1)) (some (some (j0, e.2.1, e.2.2))) q := rfl
      rw [e1, ob_eq] at h
      obtain ⟨b, hb, h⟩ := h
      have hkey := eqV_true (E := E) (t := t) (k := .i kk n) (u := e.1) (.inl ⟨_, _, _, rfl, hd⟩)
      have h' : (onI e.1 fun k' b => guardB (kEq kk k') (desc E t fun d => onIntD d fun _ => some (eqI n b))) = some b := hb
      simp only [onI_eq, guardB_eq, kEq_eq, desc_eq, onIntD_eq] at h'
      obtain ⟨k', m, hm, rfl, d, _, _, _, he⟩ := h'
      have hxk := hx.1
      rw [hm] at hxk
      generalize hxe : x.key = xk at hxk
      cases hxk
      rw [eqI_eq] at he
      cases he
      by_cases hnm : n = m
      · subst hnm
        simp only [decide_true] at h hb
        cases h
        refine ⟨some (j0, x.val), ?_, .inr ⟨0, e.2.1, e.2.2, x.val, rfl, rfl, hx.2.1, ?_⟩⟩
        · simp [Instr.findNow, Instr.sameNow, hxe]
        · rw [hkey hb]; rfl
      · simp only [hnm, decide_false] at h hb
        obtain ⟨q', h1, h2⟩ := ih xs (j0 + 1) q h t'
        refine ⟨q', ?_, ?_⟩
        · have : (n == m) = false := by simpa using hnm
          simp [Instr.findNow, Instr.sameNow, hxe, this, h1]
        · rcases h2 with h2 | ⟨j, v, b, y, r1, r2, r3, r4⟩
          · exact .inl h2
          · exact .inr ⟨j + 1, v, b, y, by rw [r1]; congr 2; omega, by rw [r2]; congr 2; omega, r3, by simpa using r4⟩
theorem findKey_run {E : Env} (hE : EnvOk E) {t : TypeId} {k : V} (hk : KeyOk E t k) {kx : Value} (hkx : VR ρ env nx k kx) (w : World) {es : List Ent} {es' : List MapEntry} {q : Option (Nat × V × Nat)} (h : findV E t k es 0 = some q) (hr : EntsR ρ env nx es es') :
    ∃ q', (Instr.findKey t kx es').run E.P w = .ok q' w ∧ FoundR ρ env nx k es 0 q q' := by
  rcases hk with ⟨kk, n, kd, rfl, hd⟩ | ⟨l, rfl, h0, h1, h2⟩
  · cases hkx
    obtain ⟨q', r1, r2⟩ := findNow_int hd es es' 0 q h hr
    exact ⟨q', by simp [Instr.findKey, Sem.run_bind, run_underlying hd, r1], r2⟩
  · have hf := hE.flat t h0
    obtain ⟨q', r1, r2⟩ := findAsking_run hE (.inr ⟨l, rfl, h0, h1, h2⟩) hkx w es es' 0 q h hr
    refine ⟨q', ?_, r2⟩
    cases hkx with
    | agg hl =>
      cases hr with
      | nil => cases h; rw [show Instr.findAsking t _ [] 0 = pure none from rfl] at r1; simp [Instr.findKey, Sem.run_bind, run_underlying hf.desc, Instr.findNow]; cases r1; rfl
      | cons hx t' => simp [Instr.findKey, Sem.run_bind, run_underlying hf.desc, Instr.findNow, Instr.sameNow, r1]
theorem checkKey_int {P : Program} {t : TypeId} {kd : IntKind} (hd : P.underlying t = some (.int kd)) (em : Bool) (n : Nat) (k : IntKind) (m : Int) (w : World) : (Instr.checkKey em (n + 1) t (.int k m)).run P w = .ok () w := by
  simp only [Instr.checkKey, Sem.run_bind, run_underlying hd, Result.andThen_ok]; rfl
theorem checkKey_flat {P : Program} {t : TypeId} {c : Nat} (hf : FlatOk P t c) {l : List V} {xs : Array Value} (h1 : l.length = c) (h2 : allInts l = true) (hl : VRs ρ env nx l xs.toList) (em : Bool) (n : Nat) (w : World) : (Instr.checkKey em (n + 1 + 1) t (.agg xs)).run P w = .ok () w := by
  rw [Instr.checkKey]
  simp only [Sem.run_bind, run_underlying hf.desc, Result.andThen_ok]
  rw [← Array.forIn_toList]
  have key : ∀ (fs : List Field) (j : Nat) (l : List V), flatFields P fs j → l.length = fs.length → allInts l = true → VRs ρ env nx l (xs.toList.drop j) → ∀ (body : Field → PUnit → Sem (ForInStep PUnit)),
      (∀ f k m w, f.name ≠ "_" → P.underlying f.type = some (.int k) → (∃ kk, (part f.type xs f.offset).run P w = .ok (.int kk m) w) → (body f ⟨⟩).run P w = .ok (.yield ⟨⟩) w) → ∀ w, (forIn fs PUnit.unit body : Sem PUnit).run P w = .ok PUnit.unit w := by
    intro fs
    induction fs with
    | nil => intro j l _ _ _ _ body _ w; rfl
    | cons f fs ih =>
      intro j l hff hl ha hv body hbody w
      obtain ⟨hn, ho, ⟨kk, hkk⟩, hrest⟩ := hff
      cases l with
      | nil => simp at hl
      | cons u l =>
        obtain ⟨k, m, rfl⟩ := allInts_eq ha u (.head _)
        have ha' : allInts l = true := allB_eq.2 fun v hv => allB_eq.1 ha v (.tail _ hv)
        cases hdr : xs.toList.drop j with
        | nil => rw [hdr] at hv; cases hv
        | cons y ys =>
          rw [hdr] at hv
          cases hv with
          | cons h1 h2 =>
            cases h1
            have hx0 : xs.toList[j]? = some (.int k m) := by rw [← List.head?_drop, hdr]; rfl
            have hx1 : VRs ρ env nx l (xs.toList.drop (j + 1)) := by rw [← List.tail_drop, hdr]; exact h2
            rw [List.forIn_cons]
            simp only [Sem.run_bind, hbody f kk m w hn hkk ⟨k, by rw [ho]; exact run_part_int hkk hx0 w⟩, Result.andThen_ok]
            exact ih (j + 1) l hrest (by simpa using hl) ha' hx1 body hbody w
  refine (congrArg (fun r => Result.andThen r _) (key (P.fieldsOf t).toList 0 l hf.fields (by rw [hf.size, h1]) h2 (by simpa using hl) _ ?_ w)).trans rfl
  intro f k m w hn hk ⟨kk, hp⟩
  simp only [hn, ne_eq, not_false_eq_true, if_true, Sem.run_bind, hp, Result.andThen_ok, checkKey_int hk, Sem.run_pure]
theorem checkKey_run {E : Env} (hE : EnvOk E) {t : TypeId} {k : V} (hk : KeyOk E t k) {kx : Value} (hkx : VR ρ env nx k kx) (em : Bool) (w : World) : (Instr.checkKey em 10000 t kx).run E.P w = .ok () w := by
  rcases hk with ⟨kk, n, kd, rfl, hd⟩ | ⟨l, rfl, h0, h1, h2⟩
  · cases hkx
    exact checkKey_int hd em 9999 _ _ w
  · have hf := hE.flat t h0
    cases hkx with
    | agg hl => exact checkKey_flat hf h1 h2 hl em 9998 w
end maps
end Go.Proofs.YtemkiobojboceaaGreat.Ev
