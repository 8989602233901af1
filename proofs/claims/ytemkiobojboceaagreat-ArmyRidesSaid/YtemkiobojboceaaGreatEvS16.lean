/- The small machine's code and calls. No conditions: over any program. -/
import Derived.Test.YtemkiobojboceaaGreatEvS15
namespace Go.Proofs.YtemkiobojboceaaGreat.Ev
open Go Go.RowKit
set_option linter.unusedSimpArgs false
set_option linter.unusedVariables false

def exOf : Nat → Nat → Exit
  | 0, _ => .normal
  | 1, id => .exit id
  | _, _ => .ret
def CodeOkS (E : Env) (code : Code → Tr V → H → Nat → Option (Nat × Nat × Tr V × H × Nat)) : Prop := ∀ {c : Code} {fr fr' : Tr V} {h h' : H} {nx nx' t id n : Nat} {ρ : Nat → Loc} {env : Nat → Value} {a : Act} {w : World} {Q : Exit → Act → World → Prop},
  code c fr h nx = some (t, id, fr', h', nx') → codeOk n c = true → FR ρ env nx fr n a → Rel E.P ρ env nx h w →
  (∀ ρ' a' w', FR ρ' env nx' fr' n a' → Goes E.P ρ env nx h w ρ' nx' h' w' → Q (exOf t id) a' w') → c.wp E.P Q a w
theorem reg_wp {E : Env} (hE : EnvOk E) {F : Fns} (hF : CallOk E F.call) {ops : Array Oper} {n id : Nat} {draw : Bool} {fr fr' : Tr V} {h h' : H} {nx nx' t id' : Nat} {ρ : Nat → Loc} {env : Nat → Value} {a : Act} {w : World} {Q : Exit → Act → World → Prop}
    (hd : ∀ o ∈ ops.toList, dOk n o = true) (he : evReg E F ops.toList draw kNorm fr h nx = some (t, id', fr', h', nx')) (hf : FR ρ env nx fr n a) (R : Rel E.P ρ env nx h w)
    (hQ : ∀ ρ' a' w', FR ρ' env nx' fr' n a' → Goes E.P ρ env nx h w ρ' nx' h' w' → Q .normal a' w') : t = 0 ∧ (Code.region id ops draw).wp E.P Q a w := by
  cases draw with
  | false =>
    have he' : evList E F ops.toList kNorm ops.toList fr h nx = some (t, id', fr', h', nx') := he
    obtain ⟨h1, h2⟩ := list_wp hE hF (ops := ops) ops.toList fr fr' h h' nx nx' t id' ρ env a w Q hd he' hf R hQ
    refine ⟨h1, ?_⟩
    have e : ops = ops.toList.toArray := by simp
    rw [e]
    exact wp_region_lit (by rw [← e]; exact h2)
  | true =>
    have he' : (ob (plan ops.toList) fun p => evSteps E F ops.toList kNorm p fr h nx) = some (t, id', fr', h', nx') := he
    rw [ob_eq] at he'
    obtain ⟨σ, hp, he'⟩ := he'
    exact steps_wp hE hF hp hd he' hf R hQ
theorem frame_get : ∀ (args : List V) (j : Nat) (t : Tr V) (i : Nat), (frame args j t).get i = if j ≤ i ∧ i < j + args.length then args[i - j]? else t.get i := by
  intro args
  induction args with
  | nil => intro j t i; show t.get i = _; rw [if_neg (by simp)]
  | cons v l ih =>
    intro j t i
    have e : frame (v :: l) j t = frame l (j + 1) (t.put (some v) j) := rfl
    rw [e, ih, Tr.get_put]
    by_cases hi : i = j
    · subst hi; rw [if_neg (by omega), if_pos rfl, if_pos (by simp)]; simp
    · rw [if_neg hi]
      by_cases h2 : j + 1 ≤ i ∧ i < j + 1 + l.length
      · rw [if_pos h2, if_pos (by simp; omega), show i - j = (i - (j + 1)) + 1 by omega, List.getElem?_cons_succ]
      · rw [if_neg h2, if_neg (by simp; omega)]
theorem res_run {E : Env} {ρ : Nat → Loc} {env : Nat → Value} {nx n : Nat} {fr : Tr V} {h : H} {a : Act} {w : World} (hf : FR ρ env nx fr n a) (R : Rel E.P ρ env nx h w) {r : ResultVar} {v : V} (hr : resV E fr h r = some v) :
    ∃ x, ((match r with | .tmp t => pure (a.tmps.getD t undef) | .cell p t => do loadVar t (← asAddr (a.tmps.getD p undef))) : Sem Value).run E.P w = .ok x w ∧ VR ρ env nx v x := by
  cases r with
  | tmp t => exact ⟨_, rfl, hf.get t v hr⟩
  | cell p t =>
    have hr' : (ob (fr.get p) fun v => onP v fun r o => onCells h r fun _ cs => partV E t cs o) = some v := hr
    simp only [ob_eq, onP_eq, onCells_eq] at hr'
    obtain ⟨u, hu, r, o, rfl, ty, cs, hrow, hp⟩ := hr'
    have hx := hf.get p _ hu
    generalize hxe : a.tmps.getD p undef = xv at hx
    cases hx with
    | p hlt =>
      obtain ⟨y, hy, hvy⟩ := load_vr hp (R.obj r _ hrow).2
      exact ⟨y, by simp only [hxe, asAddr, Sem.run_bind, Sem.run_pure, Result.andThen_ok, hy], hvy⟩
def resOneS (tmps : Array Value) : ResultVar → Sem Value
  | .tmp t => pure (tmps.getD t undef)
  | .cell p t => do loadVar t (← asAddr (tmps.getD p undef))
theorem results_eqS (fn : Func) (tmps : Array Value) : results fn tmps = (do let vs ← fn.results.mapM (resOneS tmps); pure (if h : vs.size = 1 then vs[0] else .tuple vs)) := rfl
theorem results_run {E : Env} {ρ : Nat → Loc} {env : Nat → Value} {nx n : Nat} {fr : Tr V} {h : H} {a : Act} {w : World} (hf : FR ρ env nx fr n a) (R : Rel E.P ρ env nx h w) {fn : Func} {l : List V} (hl : mapO (resV E fr h) fn.results.toList = some l) :
    ∃ x, (results fn a.tmps).run E.P w = .ok x w ∧ VR ρ env nx (oneV l) x := by
  have key : ∀ (rs : List ResultVar) (l : List V), mapO (resV E fr h) rs = some l → ∃ xs : List Value, (rs.mapM (resOneS a.tmps)).run E.P w = .ok xs w ∧ VRs ρ env nx l xs := by
    intro rs
    induction rs with
    | nil => intro l hl; cases hl; exact ⟨[], rfl, .nil⟩
    | cons r rs ih =>
      intro l hl
      obtain ⟨v, l', hv, hl', rfl⟩ := mapO_cons.1 hl
      obtain ⟨x, hx, hvx⟩ := res_run hf R hv
      have hx : (resOneS a.tmps r).run E.P w = .ok x w := by cases r <;> exact hx
      obtain ⟨xs, hxs, hvs⟩ := ih l' hl'
      exact ⟨x :: xs, by rw [List.mapM_cons, Sem.run_bind, hx]; simp only [Result.andThen_ok, Sem.run_bind, hxs, Sem.run_pure], .cons hvx hvs⟩
  obtain ⟨xs, hxs, hvs⟩ := key _ l hl
  rw [results_eqS, Sem.run_bind, Array.mapM_eq_mapM_toList, Sem.run_map, hxs]
  simp only [Result.andThen_ok, Sem.run_pure]
  cases hvs with
  | nil => exact ⟨_, rfl, .tup .nil⟩
  | @cons v x l xs hx ht =>
    cases ht with
    | nil => exact ⟨x, rfl, hx⟩
    | cons hx2 ht2 => exact ⟨_, rfl, .tup (.cons hx (.cons hx2 ht2))⟩
theorem onU_eq {β : Type} {v : V} {f : Nat → Option β} {y : β} : onU v f = some y ↔ ∃ n, v = .i .u64 (.ofNat n) ∧ f n = some y := by
  unfold onU
  simp only [onI_eq, guardB_eq, beq_eq]
  constructor
  · rintro ⟨k, n, rfl, hk, h⟩
    cases k <;> first | (cases n with
      | ofNat n => exact ⟨n, rfl, h⟩
      | negSucc n => cases h) | cases hk
  · rintro ⟨n, rfl, h⟩
    exact ⟨.u64, _, rfl, rfl, h⟩
theorem call_ok {E : Env} (hE : EnvOk E) {F : Fns} (hC : CodeOkS E F.code) : CallOk E (evCall E F) := by
  intro f args h h' nx nx' v ρ env w xs he hv R
  unfold evCall at he
  rw [ob_eq] at he
  obtain ⟨fn, hfn, he⟩ := he
  have hname := hE.names f fn hfn
  cases hb : fn.body with
  | none =>
    rw [hb] at he
    have he' : guardB (E.add64 f) (evAdd64 args h nx) = some (v, h', nx') := he
    rw [guardB_eq] at he'
    obtain ⟨ha, he'⟩ := he'
    obtain ⟨fn', _, _, hrun⟩ := hE.add64 f ha
    unfold evAdd64 at he'
    simp only [guardB_eq, beq_eq, len_eq, ob_eq, hd_eq, onU_eq, ble_eq, out_eq] at he'
    obtain ⟨hlen, x, ⟨r1, hx⟩, y, ⟨r2, hy⟩, c, ⟨r3, hc⟩, m, rfl, n, rfl, k, rfl, hk, rfl, rfl, rfl⟩ := he'
    subst hx
    have hy' : r1 = V.i .u64 (Int.ofNat n) :: r2 := hy
    subst hy'
    have hc' : r2 = V.i .u64 (Int.ofNat k) :: r3 := hc
    subst hc'
    have hr3 : r3 = [] := by
      cases r3 with
      | nil => rfl
      | cons _ _ => simp at hlen
    subst hr3
    have hxs : xs = #[.int .u64 (m : Int), .int .u64 (n : Int), .int .u64 (k : Int)] := by
      apply Array.ext'
      generalize xs.toList = l at hv
      cases hv with | cons h1 t1 => cases t1 with | cons h2 t2 => cases t2 with | cons h3 t3 => cases t3; cases h1; cases h2; cases h3; rfl
    subst hxs
    exact .inr ⟨ρ, _, w, hrun m n k w hk, .tup (.cons .i (.cons .i .nil)), Goes.refl R⟩
  | some c =>
    rw [hb] at he
    have he' : guardB (codeOk fn.ntmps c) (ob (F.code c (frame args 0 .nil) h nx) fun q => guardB (notB (Nat.beq q.1 1)) (ob (mapO (resV E q.2.2.1 q.2.2.2.1) fn.results.toList) fun l => out (oneV l) q.2.2.2.1 q.2.2.2.2)) = some (v, h', nx') := he
    simp only [guardB_eq, ob_eq, notB_eq] at he'
    obtain ⟨hok, ⟨t, id, fr', h1, nx1⟩, hcode, hne, l, hl, he'⟩ := he'
    rw [out_eq] at he'
    obtain ⟨rfl, rfl, rfl⟩ := he'
    refine .inl ⟨?_, ?_⟩
    · simp [callFunc, hfn, hname, hb]
    · refine calls_of_wp hfn hb ?_
      have hlen := hv.length
      have hf : FR ρ env nx (frame args 0 .nil) fn.ntmps ⟨xs ++ Array.replicate (fn.ntmps - xs.size) undef, []⟩ := by
        refine ⟨?_, by simp; omega, rfl⟩
        intro i u hu
        rw [frame_get] at hu
        split at hu
        · rename_i hi
          rw [Nat.sub_zero] at hu
          obtain ⟨x, hx, hvx⟩ := hv.get i u hu
          rw [Array.getElem?_toList] at hx
          have hil : i < xs.size := (Array.getElem?_eq_some_iff.1 hx).1
          have : (xs ++ Array.replicate (fn.ntmps - xs.size) undef).getD i undef = x := by
            rw [Array.getD_eq_getD_getElem?, Array.getElem?_append_left hil, hx]; rfl
          rw [this]; exact hvx
        · cases hu
      refine hC hcode hok hf R ?_
      intro ρ' a' w' hf' hgo
      obtain ⟨x, hx, hvx⟩ := results_run hf' hgo.rel hl
      have post : a'.defers = [] ∧ ∃ v, (results fn a'.tmps).run E.P w' = .ok v w' ∧ ∃ ρ' x, Ending.returned v = .returned x ∧ VR ρ' env nx1 (oneV l) x ∧ Goes E.P ρ env nx h w ρ' nx1 h1 w' := ⟨hf'.defers, x, hx, ρ', x, rfl, hvx, hgo⟩
      match t, hne with
      | 0, _ => exact post
      | 1, hne => cases hne
      | t + 2, _ => exact post
theorem code_ok {E : Env} (hE : EnvOk E) (n : Nat) (ih : ∀ m, m < n → CodeOkS E (fns E m).code ∧ CallOk E (fns E m).call) : CodeOkS E (fns E n).code := by
  intro c fr fr' h h' nx nx' t id N ρ env a w Q he hok hf R hQ
  cases n with
  | zero => cases he
  | succ n =>
    obtain ⟨hC, hF⟩ := ih n (Nat.lt_succ_self n)
    have he' : evCode c E (fns E n) fr h nx = some (t, id, fr', h', nx') := he
    cases c with
    | skip => cases he'; exact wp_skip (hQ ρ a w hf (Goes.refl R))
    | region i ops draw =>
      have hd : ∀ o ∈ ops.toList, dOk N o = true := allB_eq.1 hok
      obtain ⟨rfl, h2⟩ := reg_wp (id := i) (Q := Q) hE hF hd (t := t) (id' := id) he' hf R (fun ρ' a' w' h1 h2 => by
        have ht : t = 0 := (reg_wp (id := i) (Q := fun _ _ _ => True) hE hF hd (t := t) (id' := id) he' hf R (fun _ _ _ _ _ => trivial)).1
        subst ht; exact hQ ρ' a' w' h1 h2)
      exact h2
    | seq x y =>
      have he2 : andThen ((fns E n).code x fr h nx) ((fns E n).code y) = some (t, id, fr', h', nx') := he'
      unfold andThen at he2
      rw [ob_eq] at he2
      obtain ⟨⟨t1, id1, fr1, h1, nx1⟩, hx, he2⟩ := he2
      obtain ⟨ok1, ok2⟩ := andB_eq.1 (show andB (codeOk N x) (codeOk N y) = true from hok)
      refine wp_seq (hC hx ok1 hf R ?_)
      intro ρ' a' w' hf' hgo
      by_cases ht : t1 = 0
      · subst ht
        have he3 : (fns E n).code y fr1 h1 nx1 = some (t, id, fr', h', nx') := he2
        exact hC he3 ok2 hf' hgo.rel (fun ρ'' a'' w'' hf'' hgo'' => hQ ρ'' a'' w'' hf'' (hgo.trans hgo''))
      · rw [hx] at he2
        have hb : Nat.beq t1 0 = false := beq_ne ht
        have he3 : @Bool.rec (fun _ => Res) (some (t1, id1, fr1, h1, nx1)) ((fns E n).code y fr1 h1 nx1) (Nat.beq t1 0) = some (t, id, fr', h', nx') := he2
        rw [hb] at he3
        cases he3
        have := hQ ρ' a' w' hf' hgo
        match t, ht with
        | 1, _ => exact this
        | t + 2, _ => exact this
    | cond c x y =>
      have he2 : (ob (val fr.get c) fun v => onB v fun b => (fns E n).code (@Bool.rec (fun _ => Code) y x b) fr h nx) = some (t, id, fr', h', nx') := he'
      simp only [ob_eq, onB_eq] at he2
      obtain ⟨u, hu, b, rfl, he2⟩ := he2
      have hx := val_vr hu hf.get
      generalize hxe : a.eval c = xv at hx
      cases hx
      obtain ⟨ok1, ok2⟩ := andB_eq.1 (show andB (codeOk N x) (codeOk N y) = true from hok)
      cases b with
      | true => exact wp_cond_true hxe (hC he2 ok1 hf R hQ)
      | false => exact wp_cond_false hxe (hC he2 ok2 hf R hQ)
    | block i b =>
      have he2 : outOf i ((fns E n).code b fr h nx) = some (t, id, fr', h', nx') := he'
      unfold outOf at he2
      rw [ob_eq] at he2
      obtain ⟨⟨t1, id1, fr1, h1, nx1⟩, hx, he2⟩ := he2
      refine wp_block (hC hx hok hf R ?_)
      intro ρ' a' w' hf' hgo
      rw [hx] at he2
      have he3 : @Bool.rec (fun _ => Res) (some (t1, id1, fr1, h1, nx1)) (some (0, 0, fr1, h1, nx1)) (andB (Nat.beq t1 1) (Nat.beq id1 i)) = some (t, id, fr', h', nx') := he2
      cases hb : andB (Nat.beq t1 1) (Nat.beq id1 i) with
      | true =>
        rw [hb] at he3
        obtain ⟨e1, e2⟩ := andB_eq.1 hb
        rw [beq_eq] at e1 e2
        subst e1; subst e2
        cases he3
        show Exit.inBlock id1 Q (.exit id1) a' w'
        simp only [Exit.inBlock, if_true]
        exact hQ ρ' a' w' hf' hgo
      | false =>
        rw [hb] at he3
        cases he3
        have := hQ ρ' a' w' hf' hgo
        match t, hb with
        | 0, _ => exact this
        | 1, hb =>
          have hne : id ≠ i := by intro e; subst e; rw [show andB (Nat.beq 1 1) (Nat.beq id id) = Nat.beq id id from rfl] at hb; rw [beq_eq.2 rfl] at hb; cases hb
          show Exit.inBlock i Q (.exit id) a' w'
          simp only [Exit.inBlock, hne, if_false]
          exact this
        | t + 2, _ => exact this
    | loop b =>
      refine wp_loop_ghost (fun m a' w' => m ≤ n + 1 ∧ ∃ ρ' fr1 h1 nx1, (fns E m).code (.loop b) fr1 h1 nx1 = some (t, id, fr', h', nx') ∧ FR ρ' env nx1 fr1 N a' ∧ Goes E.P ρ env nx h w ρ' nx1 h1 w') (n + 1) ⟨Nat.le_refl _, ρ, fr, h, nx, he, hf, Goes.refl R⟩ ?_
      rintro m a1 w1 ⟨hm, ρ1, fr1, h1, nx1, he1, hf1, hgo1⟩
      cases m with
      | zero => cases he1
      | succ m =>
        obtain ⟨hC, hF⟩ := ih m (by omega)
        have he2 : andThen ((fns E m).code b fr1 h1 nx1) ((fns E m).code (.loop b)) = some (t, id, fr', h', nx') := he1
        unfold andThen at he2
        rw [ob_eq] at he2
        obtain ⟨⟨t2, id2, fr2, h2, nx2⟩, hx, he2⟩ := he2
        refine hC hx hok hf1 hgo1.rel ?_
        intro ρ' a' w' hf' hgo
        by_cases ht : t2 = 0
        · subst ht
          have he3 : (fns E m).code (.loop b) fr2 h2 nx2 = some (t, id, fr', h', nx') := he2
          exact ⟨m, Nat.lt_succ_self m, by omega, ρ', fr2, h2, nx2, he3, hf', hgo1.trans hgo⟩
        · rw [hx] at he2
          have hb : Nat.beq t2 0 = false := beq_ne ht
          have he3 : @Bool.rec (fun _ => Res) (some (t2, id2, fr2, h2, nx2)) ((fns E m).code (.loop b) fr2 h2 nx2) (Nat.beq t2 0) = some (t, id, fr', h', nx') := he2
          rw [hb] at he3
          cases he3
          have := hQ ρ' a' w' hf' (hgo1.trans hgo)
          match t, ht with
          | 1, _ => exact this
          | t + 2, _ => exact this
    | rangeFunc _ _ _ _ => cases he'
    | exit i => cases he'; exact wp_exit (hQ ρ a w hf (Goes.refl R))
    | scope _ => cases he'
    | label _ => cases he'
    | goto _ => cases he'
    | ret => cases he'; exact wp_ret (hQ ρ a w hf (Goes.refl R))
    | refuse _ => cases he'
theorem fns_ok {E : Env} (hE : EnvOk E) (n : Nat) : CodeOkS E (fns E n).code ∧ CallOk E (fns E n).call := by
  induction n using Nat.strongRecOn with
  | _ n ih =>
    refine ⟨code_ok hE n ih, ?_⟩
    cases n with
    | zero => intro f args h h' nx nx' v ρ env w xs he; cases he
    | succ n => exact call_ok hE (ih n (Nat.lt_succ_self n)).1
end Go.Proofs.YtemkiobojboceaaGreat.Ev
