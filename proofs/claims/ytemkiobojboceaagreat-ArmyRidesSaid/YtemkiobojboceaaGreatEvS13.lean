/- The small machine's operations, guards and rows of operations. No conditions: over any program. -/
import Derived.Test.YtemkiobojboceaaGreatEvS12
namespace Go.Proofs.YtemkiobojboceaaGreat.Ev
open Go Go.RowKit
set_option linter.unusedSimpArgs false
set_option linter.unusedVariables false

def CallOk (E : Env) (call : FuncId → List V → H → Nat → Out) : Prop := ∀ {f : FuncId} {args : List V} {h h' : H} {nx nx' : Nat} {v : V} {ρ : Nat → Loc} {env : Nat → Value} {w : World} {xs : Array Value},
  call f args h nx = some (v, h', nx') → VRs ρ env nx args xs.toList → Rel E.P ρ env nx h w →
  ((callFunc f xs).run E.P w = .ok (.enter f xs) w ∧ Calls E.P f xs w (fun e w' => ∃ ρ' x, e = .returned x ∧ VR ρ' env nx' v x ∧ Goes E.P ρ env nx h w ρ' nx' h' w')) ∨
  (∃ ρ' x w', (callFunc f xs).run E.P w = .ok (.value x) w' ∧ VR ρ' env nx' v x ∧ Goes E.P ρ env nx h w ρ' nx' h' w')
/-- what comes of an operation that runs -/
def OpWp (P : Program) (o : Oper) (a : Act) (w : World) (Post : Value → World → Prop) : Prop := ∀ (K : Act → World → Prop) (Q : Exit → Act → World → Prop), (∀ x w', Post x w' → K (a.put o.dst x) w') → o.wp P a w K Q
/-- .. that may be left out -/
def StepOk (P : Program) (ops : Array Oper) (o : Oper) (a : Act) (w : World) (Post : Value → World → Prop) : Prop := ∀ (K : Act → World → Prop) (Q : Exit → Act → World → Prop), (∀ x w', Post x w' → K (a.put o.dst x) w') →
  (if Region.wanted o (yielded ops a.tmps) then o.wp P a w K Q ∨ (o.asks P a w ∧ LetsOut Q) else K (a.put o.dst undef) w)
theorem OpWp.of_yield {P : Program} {o : Oper} {a : Act} {w w' : World} {x : Value} {Post : Value → World → Prop} (h : Yield ((execOp a.eval o).run P w) x w') (hp : Post x w') : OpWp P o a w Post := by
  intro K Q hK
  unfold Oper.wp
  rcases h with h | ⟨h, rfl⟩
  · rw [h]; exact hK _ _ hp
  · rw [h]; exact hK _ _ hp
section op
variable {E : Env}
theorem builtin_wp {b : Builtin} {f : Blt} (hb : BLaw E b f) {F : Fns} {g : G} {h h' : H} {nx nx' : Nat} {v : V} {ρ : Nat → Loc} {env : Nat → Value} {a : Act} {w : World} {d : Option Tmp} {ty : TypeId} {pos : String} {aft : Array Edge} {gd : Option (Nat × Bool)} {args : Array Operand} {ts : Array TypeId}
    {l : List V} (hl : vals g args.toList = some l) (hf : f E ts.toList l h nx = some (v, h', nx')) (hg : GR ρ env nx g a) (R : Rel E.P ρ env nx h w) :
    OpWp E.P ⟨d, .call ⟨.builtin b, args, ts⟩, ty, pos, aft, gd⟩ a w (fun x w' => ∃ ρ', VR ρ' env nx' v x ∧ Goes E.P ρ env nx h w ρ' nx' h' w') := by
  obtain ⟨ρ', x, w', hrun, hvr, hgo⟩ := hb (ty := ty) (consts := args.map fun | .const _ => true | _ => false) (xs := args.map a.eval) hf (by rw [Array.toList_map]; exact vals_vrs hg hl) R
  refine OpWp.of_yield (.inl ?_) ⟨ρ', hvr, hgo⟩
  simp only [execOp, resolve, Sem.run_bind, Sem.run_pure, Result.andThen_ok, invoke]
  exact hrun
theorem law_wp {op : Op} {f : OpF} (hf : Law E f op) {F : Fns} {g : G} {h h' : H} {nx nx' : Nat} {v : V} {ρ : Nat → Loc} {env : Nat → Value} {a : Act} {w : World} {d : Option Tmp} {ty : TypeId} {pos : String} {aft : Array Edge} {gd : Option (Nat × Bool)}
    (he : f E F g h nx = some (v, h', nx')) (hg : GR ρ env nx g a) (R : Rel E.P ρ env nx h w) : OpWp E.P ⟨d, op, ty, pos, aft, gd⟩ a w (fun x w' => ∃ ρ', VR ρ' env nx' v x ∧ Goes E.P ρ env nx h w ρ' nx' h' w') := by
  obtain ⟨ρ', x, w', hy, hvr, hgo⟩ := hf (d := d) (ty := ty) (pos := pos) (aft := aft) (gd := gd) he hg R
  exact OpWp.of_yield hy ⟨ρ', hvr, hgo⟩
theorem op_wp (hE : EnvOk E) {F : Fns} (hF : CallOk E F.call) {g : G} {h h' : H} {nx nx' : Nat} {v : V} {ρ : Nat → Loc} {env : Nat → Value} {a : Act} {w : World} {o : Oper}
    (he : evOp o.op E F g h nx = some (v, h', nx')) (hg : GR ρ env nx g a) (R : Rel E.P ρ env nx h w) : OpWp E.P o a w (fun x w' => ∃ ρ', VR ρ' env nx' v x ∧ Goes E.P ρ env nx h w ρ' nx' h' w') := by
  obtain ⟨d, op, ty, pos, aft, gd⟩ := o
  cases op with
  | move x => exact law_wp (F := F) (lawMove x) he hg R
  | assign x => exact law_wp (F := F) (lawAssign x) he hg R
  | pick c x y => exact law_wp (F := F) (lawPick c x y) he hg R
  | alloc e => exact law_wp (F := F) (lawAlloc e) he hg R
  | box e x => exact law_wp (F := F) (lawBox e x) he hg R
  | build t ps => exact law_wp (F := F) (lawBuild t ps) he hg R
  | buildSlice t n ps => exact law_wp (F := F) (lawBuildSlice t n ps) he hg R
  | insert t m k x => exact law_wp (F := F) (lawInsert hE t m k x) he hg R
  | load t x => exact law_wp (F := F) (lawLoad t x) he hg R
  | store t x y => exact law_wp (F := F) (lawStore t x y) he hg R
  | ready _ => cases he
  | waits _ => cases he
  | nilCheck x => exact law_wp (F := F) (lawNilCheck x) he hg R
  | binOp b t x y t' => exact law_wp (F := F) (lawBin hE b t x y t') he hg R
  | unOp u t x => exact law_wp (F := F) (lawUn u t x) he hg R
  | convert s t x => exact law_wp (F := F) (lawConvert s t x) he hg R
  | sliceToArrayPointer _ _ => cases he
  | makeInterface t x => exact law_wp (F := F) (lawMakeInterface t x) he hg R
  | makeFunc fn first caps => exact law_wp (F := F) (lawMakeFunc fn first caps) he hg R
  | makeMap t r => exact law_wp (F := F) (lawMakeMap t r) he hg R
  | makeChan _ _ => cases he
  | makeSlice t l c => exact law_wp (F := F) (lawMakeSlice t l c) he hg R
  | slice t x lo hi mx => exact law_wp (F := F) (lawSlice t x lo hi mx) he hg R
  | fieldAddr s x j => exact law_wp (F := F) (lawFieldAddr s x j) he hg R
  | field s x j => exact law_wp (F := F) (lawField s x j) he hg R
  | indexAddr t x y => exact law_wp (F := F) (lawIndexAddr t x y) he hg R
  | index t x y => exact law_wp (F := F) (lawIndex t x y) he hg R
  | lookup t x y ok => exact law_wp (F := F) (lawLookup hE t x y ok) he hg R
  | mapUpdate t m k x => exact law_wp (F := F) (lawMapUpdate hE t m k x) he hg R
  | mapEntry t m k => exact law_wp (F := F) (lawMapEntry hE t m k) he hg R
  | entryStore t m s x => exact law_wp (F := F) (lawEntryStore t m s x) he hg R
  | range t x => exact law_wp (F := F) (lawRange t x) he hg R
  | next it s => exact law_wp (F := F) (lawNext it s) he hg R
  | entry it => exact law_wp (F := F) (lawEntry it) he hg R
  | typeAssert _ _ _ _ => cases he
  | extract x j => exact law_wp (F := F) (lawExtract x j) he hg R
  | go _ => cases he
  | defer _ => cases he
  | panic _ => cases he
  | send _ _ => cases he
  | recv _ _ _ => cases he
  | select _ _ => cases he
  | call c =>
    obtain ⟨callee, args, ts⟩ := c
    have he' : oCall ⟨callee, args, ts⟩ E F g h nx = some (v, h', nx') := he
    unfold oCall at he'
    rw [ob_eq] at he'
    obtain ⟨l, hl, he'⟩ := he'
    cases callee with
    | invoke _ _ => cases he'
    | builtin b =>
      have he2 : evBuiltin b E ts.toList l h nx = some (v, h', nx') := he'
      cases b <;> first | (cases he2; done) | skip
      · exact builtin_wp bAppend_law (F := F) hl he2 hg R
      · exact builtin_wp bCap_law (F := F) hl he2 hg R
      · exact builtin_wp bClear_law (F := F) hl he2 hg R
      · exact builtin_wp bCopy_law (F := F) hl he2 hg R
      · exact builtin_wp (bDelete_law hE) (F := F) hl he2 hg R
      · exact builtin_wp bLen_law (F := F) hl he2 hg R
      · exact builtin_wp bMax_law (F := F) hl he2 hg R
      · exact builtin_wp bMin_law (F := F) hl he2 hg R
    | value f =>
      have he2 : (ob (val g f) fun v => onFn v fun k caps => F.call k (app l caps) h nx) = some (v, h', nx') := he'
      simp only [ob_eq, onFn_eq] at he2
      obtain ⟨u, hu, k, caps, rfl, he2⟩ := he2
      have hx := val_vr hu hg
      generalize hxe : a.eval f = xv at hx
      cases hx with
      | @fn _ _ cs hcs =>
        have hargs : VRs ρ env nx (app l caps) (args.map a.eval ++ cs).toList := by
          rw [app_eq, Array.toList_append, Array.toList_map]
          exact (vals_vrs hg hl).append hcs
        have hrun : (execOp a.eval ⟨d, .call ⟨.value f, args, ts⟩, ty, pos, aft, gd⟩).run E.P w = (callFunc k (args.map a.eval ++ cs)).run E.P w := by
          simp [execOp, resolve, hxe, Deferred.ofValue, invoke]
        rcases hF he2 hargs R with ⟨h1, h2⟩ | ⟨ρ', x, w', h1, h2, h3⟩
        · intro K Q hK
          unfold Oper.wp
          rw [hrun, h1]
          rw [Oper.upon_enter]
          refine h2.mono ?_
          rintro e w' ⟨ρ', x, rfl, hvr, hgo⟩
          exact hK x w' ⟨ρ', hvr, hgo⟩
        · exact OpWp.of_yield (.inl (hrun.trans h1)) ⟨ρ', h2, h3⟩
theorem any_wp (hE : EnvOk E) {F : Fns} (hF : CallOk E F.call) {ops : Array Oper} {g : G} {h h' : H} {nx nx' : Nat} {v : V} {ρ : Nat → Loc} {env : Nat → Value} {a : Act} {w : World} {o : Oper}
    (he : evAny E F ops.toList g o h nx = some (v, h', nx')) (hg : GR ρ env nx g a) (R : Rel E.P ρ env nx h w) : StepOk E.P ops o a w (fun x w' => ∃ ρ', VR ρ' env nx' v x ∧ Goes E.P ρ env nx h w ρ' nx' h' w') := by
  intro K Q hK
  have run : (evOp o.op E F g h nx = some (v, h', nx')) → Region.wanted o (yielded ops a.tmps) = true → (if Region.wanted o (yielded ops a.tmps) then o.wp E.P a w K Q ∨ (o.asks E.P a w ∧ LetsOut Q) else K (a.put o.dst undef) w) := by
    intro h1 h2
    rw [if_pos h2]
    exact .inl (op_wp hE hF h1 hg R K Q hK)
  have no : (out .undef h nx = some (v, h', nx')) → Region.wanted o (yielded ops a.tmps) = false → (if Region.wanted o (yielded ops a.tmps) then o.wp E.P a w K Q ∨ (o.asks E.P a w ∧ LetsOut Q) else K (a.put o.dst undef) w) := by
    intro h1 h2
    rw [h2, if_neg (by simp)]
    rw [out_eq] at h1
    obtain ⟨rfl, rfl, rfl⟩ := h1
    exact hK _ _ ⟨ρ, .tup .nil, Goes.refl R⟩
  unfold evAny goOn at he
  cases hgd : o.guard with
  | none =>
    rw [hgd] at he
    exact run he (by unfold Region.wanted; rw [hgd])
  | some q =>
    rw [hgd] at he
    have he' : (ob (nth ops.toList q.1) fun o' => ob o'.dst fun d => ob (g d) fun u => guardB (known u) (@Bool.rec (fun _ => Out) (out .undef h nx) (evOp o.op E F g h nx) (orF (onB u fun x => some (x == q.2))))) = some (v, h', nx') := he
    simp only [ob_eq, nth_eq, guardB_eq] at he'
    obtain ⟨o', ho', d, hd, u, hu, hkn, he'⟩ := he'
    rw [Array.getElem?_toList] at ho'
    have hx := hg d u hu
    have hw : Region.wanted o (yielded ops a.tmps) = orF (onB u fun x => some (x == q.2)) := by
      unfold Region.wanted
      rw [hgd]
      show (yielded ops a.tmps q.1 == some q.2) = _
      have hy : yielded ops a.tmps q.1 = match a.tmps[d]? with | some (.bool b) => some b | _ => none := by
        unfold yielded; rw [ho']; simp [hd]; rfl
      rw [hy]
      have hgd2 : a.tmps.getD d undef = (a.tmps[d]?).getD undef := by simp
      rw [hgd2] at hx
      cases ht : a.tmps[d]? with
      | none =>
        rw [ht] at hx
        have hx' : VR ρ env nx u undef := hx
        cases hx' with
        | tup _ => rfl
        | far _ h1 _ => cases h1
      | some xv =>
        rw [ht] at hx
        have hx' : VR ρ env nx u xv := hx
        cases hx' <;> first | rfl | cases hkn
    rw [← hw] at he'
    cases hb : Region.wanted o (yielded ops a.tmps) with
    | true => rw [hb] at he'; have := run he' hb; rw [hb] at this; exact this
    | false => rw [hb] at he'; have := no he' hb; rw [hb] at this; exact this
end op
/-- the frame -/
structure FR (ρ : Nat → Loc) (env : Nat → Value) (nx : Nat) (fr : Tr V) (n : Nat) (a : Act) : Prop where
  get : GR ρ env nx fr.get a
  size : n ≤ a.tmps.size
  defers : a.defers = []
theorem FR.put {ρ ρ' : Nat → Loc} {env : Nat → Value} {nx nx' : Nat} {fr : Tr V} {n : Nat} {a : Act} (h : FR ρ env nx fr n a) (ha : Agree ρ ρ' nx) (hn : nx ≤ nx') {d : Option Tmp} (hd : ∀ t, d = some t → t < n) {v : V} {x : Value} (hv : VR ρ' env nx' v x) : FR ρ' env nx' (putD fr d v) n (a.put d x) := by
  cases d with
  | none => exact ⟨h.get.mono ha hn, h.size, h.defers⟩
  | some t =>
    refine ⟨?_, by simp only [Act.put, Array.size_setIfInBounds]; exact h.size, h.defers⟩
    intro t' u hu
    have hu' : (fr.put (some v) t).get t' = some u := hu
    rw [Tr.get_put] at hu'
    have htl : t < a.tmps.size := Nat.lt_of_lt_of_le (hd t rfl) h.size
    split at hu'
    · rename_i e; subst e; cases hu'
      simp only [Act.put, Array.getD_eq_getD_getElem?, Array.getElem?_setIfInBounds_self, htl, if_true, Option.getD_some]
      exact hv
    · rename_i e
      have := (h.get t' u hu').mono ha hn
      simp only [Act.put, Array.getD_eq_getD_getElem?] at this ⊢
      rw [Array.getElem?_setIfInBounds_ne (fun q => e q.symm)]
      exact this
theorem list_wp {E : Env} (hE : EnvOk E) {F : Fns} (hF : CallOk E F.call) {ops : Array Oper} {n : Nat} : ∀ (l : List Oper) (fr fr' : Tr V) (h h' : H) (nx nx' t id : Nat) (ρ : Nat → Loc) (env : Nat → Value) (a : Act) (w : World) (Q : Exit → Act → World → Prop),
    (∀ o ∈ l, dOk n o = true) → evList E F ops.toList kNorm l fr h nx = some (t, id, fr', h', nx') → FR ρ env nx fr n a → Rel E.P ρ env nx h w →
    (∀ ρ' a' w', FR ρ' env nx' fr' n a' → Goes E.P ρ env nx h w ρ' nx' h' w' → Q .normal a' w') → t = 0 ∧ wpList E.P ops Q l a w := by
  intro l
  induction l with
  | nil =>
    intro fr fr' h h' nx nx' t id ρ env a w Q _ he hf R hQ
    cases he
    exact ⟨rfl, hQ ρ a w hf (Goes.refl R)⟩
  | cons o l ih =>
    intro fr fr' h h' nx nx' t id ρ env a w Q hd he hf R hQ
    have he' : (ob (evAny E F ops.toList fr.get o h nx) fun r => evList E F ops.toList kNorm l (putD fr o.dst r.1) r.2.1 r.2.2) = some (t, id, fr', h', nx') := he
    rw [ob_eq] at he'
    obtain ⟨⟨v, h1, nx1⟩, hv, he'⟩ := he'
    have hs := any_wp hE hF hv hf.get R
    have hdo : ∀ t, o.dst = some t → t < n := by
      intro t ht
      have := hd o (.head _)
      unfold dOk at this
      rw [ht] at this
      exact blt_eq.1 this
    have ht0 : t = 0 := by
      have key : ∀ (l : List Oper) (fr : Tr V) (h : H) (nx : Nat), evList E F ops.toList kNorm l fr h nx = some (t, id, fr', h', nx') → t = 0 := by
        intro l
        induction l with
        | nil => intro fr h nx he; cases he; rfl
        | cons o l ih2 =>
          intro fr h nx he
          have he' : (ob (evAny E F ops.toList fr.get o h nx) fun r => evList E F ops.toList kNorm l (putD fr o.dst r.1) r.2.1 r.2.2) = some (t, id, fr', h', nx') := he
          rw [ob_eq] at he'
          obtain ⟨r, _, he'⟩ := he'
          exact ih2 _ _ _ he'
      exact key _ _ _ _ he'
    refine ⟨ht0, ?_⟩
    unfold wpList
    refine hs (wpList E.P ops Q l) Q ?_
    rintro x w' ⟨ρ', hvx, hgo⟩
    exact (ih _ _ _ _ _ _ _ _ ρ' env _ w' Q (fun o ho => hd o (.tail _ ho)) he' (hf.put hgo.agree hgo.le hdo hvx) hgo.rel (fun ρ'' a'' w'' hf'' hgo'' => hQ ρ'' a'' w'' hf'' (hgo.trans hgo''))).2
end Go.Proofs.YtemkiobojboceaaGreat.Ev
