/- A region whose order is open: every order comes to what the one that is reckoned comes to. No conditions: over any program. -/
import Derived.Test.YtemkiobojboceaaGreatEvS15D
namespace Go.Proofs.YtemkiobojboceaaGreat.Ev
open Go Go.RowKit
set_option linter.unusedSimpArgs false
set_option linter.unusedVariables false

section step
variable {E : Env} {F : Fns} {ops : Array Oper} {n nf : Nat} {σ : List Step} {fT : Nat → Tr V} {hT : Nat → H} {nT : Nat → Nat} {v : Nat → V} {ρ0 : Nat → Loc} {env : Nat → Value} {h0 : H} {w0 : World} {l : Array Bool} {a : Act} {w : World} {ρ : Nat → Loc} {P : Nat} {hc : H}
/-- a variable is made -/
theorem float_step (pl : PlanOk ops.toList nf σ) (tr : Trace E F ops.toList σ fT hT nT v) (I : Inv E.P ops n nf σ (fT 0) hT nT v ρ0 env h0 w0 l a w ρ P hc) {k : Nat} {x : Step} (hx : σ[k]? = some x) (hk : k < nf) (hj : x.it.j < l.size) (hns : ¬ Ls l x.it.j) (hanc : ∀ i, bit x.it.anc i = true → Ls l i) (hd : ∀ t, x.it.o.dst = some t → t < n) :
    StepOk E.P ops x.it.o a w (fun y w' => ∃ ρ' P' hc', Inv E.P ops n nf σ (fT 0) hT nT v ρ0 env h0 w0 (l.setIfInBounds x.it.j true) (a.put x.it.o.dst y) w' ρ' P' hc') := by
  obtain ⟨e, d, ty, pos, aft, i, z, cs, hxo, hi, hz, hl, hv, hn1, hh1⟩ := tr.float pl hx hk
  obtain ⟨r1, r2, r3⟩ := tr.rows pl nf (Nat.le_refl _)
  obtain ⟨s1, s2, s3⟩ := tr.rows pl k (by omega)
  intro K Q hK
  rw [hxo]
  rw [if_pos (by rfl)]
  refine .inl ?_
  refine OpWp.of_yield (Post := fun y w' => y = .pointer (some ⟨w.heap.size, 0, none⟩) ∧ w' = w.alloc (.cells z.cells e)) (.inl (by simp [execOp, Instr.alloc, run_zeroValue hi hz, newVar, Go.newRow])) ⟨rfl, rfl⟩ K Q ?_
  rintro y w' ⟨rfl, rfl⟩
  have hK' := hK (.pointer (some ⟨w.heap.size, 0, none⟩)) (w.alloc (.cells z.cells e))
  rw [hxo] at hK'
  refine hK' ?_
  have hoff := I.off k x hk hx hns
  have hlt : nT 0 + k < nT P := by have := I.nle; omega
  have hvr := ofCells_vrs (ρ := ρ) (env := env) (nx := nT P) hl
  have ha0 : Agree ρ (at_ ρ (nT 0 + k) ⟨w.heap.size, i.size, z.cells.size, true⟩) (nT P) := by
    intro r' hr'
    refine at_ne _ _ _ ?_
    rintro rfl
    have := hr'.2
    rw [hoff] at this; cases this
  have ho : ObjR E.P (at_ ρ (nT 0 + k) ⟨w.heap.size, i.size, z.cells.size, true⟩) env (nT P) (.cells e cs) ⟨w.heap.size, i.size, z.cells.size, true⟩ (w.alloc (.cells z.cells e)) := by
    refine ⟨z.cells, (0, 0), i, heap_alloc_new w _, rfl, Or.inl rfl, hi, rfl, ?_, ?_⟩
    · have := hvr.length; simp at this; omega
    · intro j u hju
      obtain ⟨y, hy, hyv⟩ := hvr.get j u hju
      exact ⟨y, by simpa using hy, hyv.mono ha0 (Nat.le_refl _)⟩
  obtain ⟨ha, hrel⟩ := I.goes.rel.newAt hlt hoff (keep_alloc w (.cells z.cells e) _) (Nat.le_refl _) rfl ho
  refine ⟨at_ ρ (nT 0 + k) ⟨w.heap.size, i.size, z.cells.size, true⟩, P, hc.put (some (.cells e cs)) (nT 0 + k), ?_⟩
  have := I.step pl hx hj hns hanc hd (y := .pointer (some ⟨w.heap.size, 0, none⟩)) (w' := w.alloc (.cells z.cells e)) (hc' := hc.put (some (.cells e cs)) (nT 0 + k)) (P' := P) ha (Nat.le_refl _) ?_ I.P1 I.P2 ?_ I.next ?_ ?_ ?_ ?_
  · rw [hxo] at this; exact this
  · intro t ht
    rw [hv, s1]
    have := VR.p (ρ := at_ ρ (nT 0 + k) ⟨w.heap.size, i.size, z.cells.size, true⟩) (env := env) (nx := nT P) (r := nT 0 + k) (o := 0) ⟨hlt, by rw [at_same]⟩
    rw [at_same] at this; exact this
  · intro k' x' h1 h2 h3
    rw [← I.chain k' x' h1 h2 h3]
    constructor
    · rintro (h | h)
      · exact h
      · have := pl.inj h2 hx h; omega
    · exact .inl
  · refine ⟨fun r hr => ?_, I.goes.le, I.goes.keep.trans (keep_alloc w _ (fun _ => False)) (fun _ _ h => h.elim), ?_, hrel⟩
    · rw [at_ne _ _ _ (by omega)]; exact I.goes.all r hr
    · rintro b ⟨r, o, hr, rfl⟩
      rw [Tr.get_put] at hr
      split at hr
      · rename_i e'; subst e'; rw [at_same]; exact .inr I.goes.keep.size
      · rename_i e'; rw [at_ne _ _ _ e']; exact I.goes.src _ ⟨r, o, hr, rfl⟩
  · intro r
    refine ⟨fun h1 h2 => ?_, fun h1 => ?_⟩
    · rw [Tr.get_put, if_neg h2]; exact (I.hcs r).1 h1
    · rw [Tr.get_put]
      by_cases e' : r = nT 0 + k
      · subst e'
        rw [if_pos rfl, I.row k x hk hx hns, r3 k hk, hh1, s1, Tr.get_put, if_pos rfl]
      · rw [if_neg e']
        rcases h1 with h1 | h1
        · exact (I.hcs r).2 h1
        · exact absurd h1.2 e'
  · intro k' x' h1 h2 h3 h4
    rw [at_ne _ _ _ (by omega)]; exact I.off k' x' h1 h2 h3
  · intro k' x' h1 h2 h3 h4
    exact I.row k' x' h1 h2 h3
/-- what acts not -/
theorem quiet_step (pl : PlanOk ops.toList nf σ) (I : Inv E.P ops n nf σ (fT 0) hT nT v ρ0 env h0 w0 l a w ρ P hc) {k : Nat} {x : Step} (hx : σ[k]? = some x) (hk : nf ≤ k) (hj : x.it.j < l.size) (hns : ¬ Ls l x.it.j) (hanc : ∀ i, bit x.it.anc i = true → Ls l i) (hd : ∀ t, x.it.o.dst = some t → t < n) (hq : quiet x.it.o.op = true)
    {ρ' : Nat → Loc} {w' : World} {y : Value} {u : V} (hu : ∀ t, x.it.o.dst = some t → u = v k) (hv : VR ρ' env (nT P) u y) (hg : Goes E.P ρ env (nT P) hc w ρ' (nT P) hc w') :
    ∃ ρ' P' hc', Inv E.P ops n nf σ (fT 0) hT nT v ρ0 env h0 w0 (l.setIfInBounds x.it.j true) (a.put x.it.o.dst y) w' ρ' P' hc' := by
  refine ⟨ρ', P, hc, I.step pl hx hj hns hanc hd hg.agree (Nat.le_refl _) (fun t ht => hu t ht ▸ hv) I.P1 I.P2 ?_ I.next (I.goes.trans hg) ?_ ?_ ?_⟩
  · intro k' x' h1 h2 h3
    rw [← I.chain k' x' h1 h2 h3]
    constructor
    · rintro (h | h)
      · exact h
      · have := pl.inj h2 hx h
        subst this
        rw [hx] at h2; cases h2
        rw [hq] at h3; cases h3
    · exact .inl
  · intro r
    refine ⟨fun h1 _ => (I.hcs r).1 h1, fun h1 => ?_⟩
    rcases h1 with h1 | h1
    · exact (I.hcs r).2 h1
    · omega
  · intro k' x' h1 h2 h3 _
    rw [hg.all _ (by have := I.nle; omega)]
    exact I.off k' x' h1 h2 h3
  · intro k' x' h1 h2 h3 _
    exact I.row k' x' h1 h2 h3
theorem other_step (hE : EnvOk E) (hF : CallOk E F.call) (pl : PlanOk ops.toList nf σ) (tr : Trace E F ops.toList σ fT hT nT v) (I : Inv E.P ops n nf σ (fT 0) hT nT v ρ0 env h0 w0 l a w ρ P hc) {k : Nat} {x : Step} (hx : σ[k]? = some x) (hk : nf ≤ k) (hj : x.it.j < l.size) (hns : ¬ Ls l x.it.j) (hanc : ∀ i, bit x.it.anc i = true → Ls l i) (hd : ∀ t, x.it.o.dst = some t → t < n) :
    StepOk E.P ops x.it.o a w (fun y w' => ∃ ρ' P' hc', Inv E.P ops n nf σ (fT 0) hT nT v ρ0 env h0 w0 (l.setIfInBounds x.it.j true) (a.put x.it.o.dst y) w' ρ' P' hc') := by
  have hkl : k < σ.length := (List.getElem?_eq_some_iff.1 hx).1
  have hclosed : ∀ (k : Nat) (x : Step), σ[k]? = some x → Ls l x.it.j → ∀ i, bit x.it.anc i = true → Ls l i := I.closed
  -- the rows that are yet to be made are laid aside
  have hun : ∀ p, nf ≤ p → p ≤ σ.length → ∀ r, Un σ nf (nT 0) l r → HidR (fT p).get x.it.mask r := by
    rintro p hp hpl r ⟨k', y, h1, h2, h3, rfl⟩
    refine (tr.hid pl hx hk hp hpl _).2 ⟨k', y, h1, h2, ?_, rfl⟩
    cases hb : bit x.it.anc y.it.j with
    | false => rfl
    | true => exact absurd (hanc _ hb) h3
  have post : ∀ {Post Post' : Value → World → Prop}, StepOk E.P ops x.it.o a w Post → (∀ y w', Post y w' → Post' y w') → StepOk E.P ops x.it.o a w Post' := fun h hp K Q hK => h K Q fun y w' hy => hK y w' (hp y w' hy)
  have hnotP : k < P ∨ k = P := by
    rcases Nat.lt_trichotomy k P with h | h | h
    · exact .inl h
    · exact .inr h
    · exfalso
      obtain ⟨c, hc'⟩ : ∃ c, σ[P]? = some c := ⟨σ[P]'(by omega), List.getElem?_eq_getElem (by omega)⟩
      have hqc := I.next c hc'
      have := pl.chain P k c x I.P1 h hc' hx hqc
      have := (I.chain P c I.P1 hc' hqc).1 (hanc _ this)
      omega
  -- memory at a place where it is as it is now
  have look : ∀ p hh q h2 u nx1, nf ≤ p → p ≤ σ.length → (∀ r, (hT p).get r = (hT P).get r) → hide (fT p).get x.it.mask (hT p) = some (hh, q) → evAny E F ops.toList (gL σ v (fT 0) (Ls l)) x.it.o hh (nT P) = some (u, h2, nx1) →
      StepOk E.P ops x.it.o a w (fun y w' => ∃ ρ', VR ρ' env nx1 u y ∧ ∀ h3 : H, (∀ r, HidR (fT p).get x.it.mask r → h3.get r = hc.get r) → (∀ r, ¬ HidR (fT p).get x.it.mask r → h3.get r = h2.get r) → Goes E.P ρ env (nT P) hc w ρ' nx1 h3 w') := by
    intro p hh q h2 u nx1 hp hpl hh0 hhide hev
    obtain ⟨_, s2, s3⟩ := hide_spec _ _ _ _ hhide
    have hM : ∀ r, HidR (fT p).get x.it.mask r → hh.get r = none := fun r hr => by rw [s2, if_pos hr]
    have hN : ∀ r, ¬ HidR (fT p).get x.it.mask r → hh.get r = hc.get r := fun r hr => by
      rw [s2, if_neg hr, hh0, (I.hcs r).2 (fun hu => hr (hun p hp hpl r hu))]
    have Rh : Rel E.P ρ env (nT P) hh w := I.goes.rel.sub fun r y hy => by
      by_cases hr : HidR (fT p).get x.it.mask r
      · rw [hM r hr] at hy; cases hy
      · rw [← hN r hr]; exact hy
    refine post (any_wp hE hF hev I.gr Rh) ?_
    rintro y w' ⟨ρ', hvr, hgo⟩
    exact ⟨ρ', hvr, fun h3 p1 p2 => hgo.patch I.goes.rel hM hN p1 p2⟩
  cases hq : quiet x.it.o.op with
  | false =>
    have hkP : k = P := by
      rcases hnotP with h | h
      · exact absurd ((I.chain k x hk hx hq).2 h) hns
      · exact h
    subst hkP
    obtain ⟨hh, q, h2, e3, e4, e5⟩ := evM_eq (tr.step k x hx).1
    rw [← any_congr (agree_at pl tr hx hns hclosed hanc)] at e4
    obtain ⟨_, s2, s3⟩ := hide_spec _ _ _ _ e3
    refine post (look k hh q h2 (v k) (nT (k + 1)) hk (by omega) (fun _ => rfl) e3 e4) ?_
    rintro y w' ⟨ρ', hvr, hgo⟩
    obtain ⟨h3, hm⟩ := minus (unhide q h2) (Un σ nf (nT 0) l) (nT 0 + nf)
    have hm' : ∀ r, (Un σ nf (nT 0) l r → h3.get r = none) ∧ (¬ Un σ nf (nT 0) l r → h3.get r = (hT (k + 1)).get r) := by
      intro r
      rw [hm r]
      constructor
      · intro hu
        have : r < nT 0 + nf := by obtain ⟨k', y', h1, _, _, rfl⟩ := hu; omega
        rw [if_pos ⟨this, hu⟩]
      · intro hu
        rw [if_neg (fun h => hu h.2), e5]
    have g1 := hgo h3 (fun r hr => by
        by_cases hu : Un σ nf (nT 0) l r
        · rw [(hm' r).1 hu, (I.hcs r).1 hu]
        · rw [(hm' r).2 hu, (I.hcs r).2 hu, e5, s3, if_pos hr]) (fun r hr => by
        rw [(hm' r).2 (fun hu => hr (hun k hk (by omega) r hu)), e5, s3, if_neg hr])
    obtain ⟨P', p1, p2, p3, p4⟩ := next_chain σ (σ.length - (k + 1)) (k + 1) (by omega)
    obtain ⟨t1, t2⟩ := tr.stretch (p := k + 1) (P' - (k + 1)) (by omega) (fun k' x' h1 h2 h3 => p3 k' x' h1 (by omega) h3)
    rw [show k + 1 + (P' - (k + 1)) = P' by omega] at t1 t2
    refine ⟨ρ', P', h3, I.step pl hx hj hns hanc hd g1.agree (by rw [t2]; exact g1.le) (fun t ht => by rw [t2]; exact hvr) (by omega) p2 ?_ p4 (by rw [t2]; exact I.goes.trans g1) ?_ ?_ ?_⟩
    · intro k' x' h1 h2' h3'
      rw [I.chain k' x' h1 h2' h3']
      constructor
      · rintro (h | h)
        · omega
        · have := pl.inj h2' hx h; omega
      · intro h
        by_cases e : k' < k
        · exact .inl e
        · by_cases e2 : k' = k
          · subst e2; rw [hx] at h2'; cases h2'; exact .inr rfl
          · exfalso
            have := p3 k' x' (by omega) h h2'
            rw [this] at h3'; cases h3'
    · intro r
      refine ⟨fun h1 _ => (hm' r).1 h1, fun h1 => ?_⟩
      rcases h1 with h1 | h1
      · rw [(hm' r).2 h1, t1]
      · omega
    · intro k' x' h1 h2' h3' _
      rw [g1.all _ (by have := I.nle; omega)]
      exact I.off k' x' h1 h2' h3'
    · intro k' x' h1 h2' h3' _
      rw [t1, ← I.row k' x' h1 h2' h3', e5, s3, if_pos (hun k hk (by omega) _ ⟨k', x', h1, h2', h3', rfl⟩)]
  | true =>
    have hkP : k < P := by
      rcases hnotP with h | h
      · exact h
      · subst h
        have := I.next x hx
        rw [hq] at this; cases this
    rcases quiet_cases hq with hp | hp
    · -- it looks into no memory
      obtain ⟨hh, q, h2, e3, e4, e5⟩ := evM_eq (tr.step k x hx).1
      rw [← any_congr (agree_at pl tr hx hns hclosed hanc)] at e4
      have e6 := (pure_any hp _ _ _ _ _ e4).2.2 hc (nT P)
      refine post (any_wp hE hF e6 I.gr I.goes.rel) ?_
      rintro y w' ⟨ρ', hvr, hgo⟩
      exact quiet_step pl I hx hk hj hns hanc hd hq (fun _ _ => rfl) hvr hgo
    · -- it looks into memory
      have hre : reads x.it.o.op = true := beq_eq.2 hp
      have fin : ∀ p hh q h2 u, nf ≤ p → p ≤ σ.length → (∀ r, (hT p).get r = (hT P).get r) → hide (fT p).get x.it.mask (hT p) = some (hh, q) → evAny E F ops.toList (gL σ v (fT 0) (Ls l)) x.it.o hh (nT P) = some (u, h2, nT P) → (∀ t, x.it.o.dst = some t → u = v k) →
          StepOk E.P ops x.it.o a w (fun y w' => ∃ ρ' P' hc', Inv E.P ops n nf σ (fT 0) hT nT v ρ0 env h0 w0 (l.setIfInBounds x.it.j true) (a.put x.it.o.dst y) w' ρ' P' hc') := by
        intro p hh q h2 u h1 h2' h3 h4 h5 h6
        obtain ⟨s1, _⟩ := same_any hq _ _ _ _ _ h5
        obtain ⟨_, s2, _⟩ := hide_spec _ _ _ _ h4
        refine post (look p hh q h2 u (nT P) h1 h2' h3 h4 h5) ?_
        rintro y w' ⟨ρ', hvr, hgo⟩
        refine quiet_step pl I hx hk hj hns hanc hd hq h6 hvr (hgo hc (fun _ _ => rfl) fun r hr => ?_)
        rw [s1, s2, if_neg hr, h3, (I.hcs r).2 (fun hu => hr (hun p h1 h2' r hu))]
      have atk : (∀ (k' : Nat) (y : Step), k ≤ k' → k' < P → σ[k']? = some y → quiet y.it.o.op = true) → StepOk E.P ops x.it.o a w (fun y w' => ∃ ρ' P' hc', Inv E.P ops n nf σ (fT 0) hT nT v ρ0 env h0 w0 (l.setIfInBounds x.it.j true) (a.put x.it.o.dst y) w' ρ' P' hc') := by
        intro hqs
        obtain ⟨hh, q, h2, e3, e4, e5⟩ := evM_eq (tr.step k x hx).1
        rw [← any_congr (agree_at pl tr hx hns hclosed hanc)] at e4
        have I2 := I.P2
        obtain ⟨t1, t2⟩ := tr.stretch (p := k) (P - k) (by omega) (fun k' y h1 h2 h3 => hqs k' y h1 (by omega) h3)
        rw [show k + (P - k) = P by omega] at t1 t2
        have e7 := (tr.quiet hx hq).2
        rw [e7, ← t2] at e4
        exact fin k hh q h2 (v k) hk (by omega) (fun r => (t1 r).symm) e3 e4 (fun _ _ => rfl)
      have I2 := I.P2
      have I1 := I.P1
      rcases last_chain σ nf (P - nf) (by omega) with h1 | ⟨c, cx, c1, c2, c3, c4, c5⟩
      · exact atk fun k' y k1 k2 hy => h1 k' y (by omega) (by omega) hy
      · rcases Nat.lt_trichotomy c k with hck | hck | hck
        · exact atk fun k' y k1 k2 hy => c5 k' y (by omega) (by omega) hy
        · subst hck
          rw [hx] at c3; cases c3
          rw [hq] at c4; cases c4
        · have hnb : bit cx.it.anc x.it.j = false := by
            cases hb : bit cx.it.anc x.it.j with
            | false => rfl
            | true =>
              exfalso
              exact hns (I.closed c cx c3 ((I.chain c cx c1 c3 c4).2 (by omega)) _ hb)
          have hlate := pl.late c cx c1 c3 c4 k x hk hck hx hre hnb
          have hask := allB_eq.1 (tr.step c cx c3).2.2 x.it hlate
          unfold again at hask
          rw [orF_eq] at hask
          simp only [ob_eq] at hask
          obtain ⟨⟨u, h1, nx1⟩, hev, hsame⟩ := hask
          obtain ⟨hh, q, h2, e3, e4, e5⟩ := evM_eq hev
          rw [← any_congr (agree_late pl tr hx c3 hck hlate hanc)] at e4
          obtain ⟨t1, t2⟩ := tr.stretch (p := c + 1) (P - (c + 1)) (by omega) (fun k' y h1 h2 h3 => c5 k' y (by omega) (by omega) h3)
          rw [show c + 1 + (P - (c + 1)) = P by omega] at t1 t2
          have e7 := (same_any hq _ _ _ _ _ e4).2
          rw [e7, ← t2] at e4
          refine fin (c + 1) hh q h2 u (by omega) (by omega) (fun r => (t1 r).symm) e3 e4 ?_
          intro t ht
          have hs2 : @Option.rec Tmp (fun _ => Option Bool) (some true) (fun d => ob ((fT (c + 1)).get d) fun u' => some (sameV u u')) x.it.o.dst = some true := hsame
          rw [ht] at hs2
          have hs3 : (ob ((fT (c + 1)).get t) fun u' => some (sameV u u')) = some true := hs2
          rw [tr.frame_at hx ht (fun k' x' h1 h2 => pl.dst h1 hx h2 ht) (c + 1) (by omega) (by omega)] at hs3
          exact sameV_eq (Option.some.inj hs3)
end step
theorem steps_wp {E : Env} (hE : EnvOk E) {F : Fns} (hF : CallOk E F.call) {ops : Array Oper} {n id : Nat} {σ : List Step} (hp : plan ops.toList = some σ) {fr fr' : Tr V} {h h' : H} {nx nx' t id' : Nat} {ρ : Nat → Loc} {env : Nat → Value} {a : Act} {w : World} {Q : Exit → Act → World → Prop}
    (hd : ∀ o ∈ ops.toList, dOk n o = true) (he : evSteps E F ops.toList kNorm σ fr h nx = some (t, id', fr', h', nx')) (hf : FR ρ env nx fr n a) (R : Rel E.P ρ env nx h w)
    (hQ : ∀ ρ' a' w', FR ρ' env nx' fr' n a' → Goes E.P ρ env nx h w ρ' nx' h' w' → Q .normal a' w') : t = 0 ∧ (Code.region id ops true).wp E.P Q a w := by
  obtain ⟨nf, pl⟩ := plan_ok hp
  obtain ⟨ht, fT, hT, nT, v, tr, e1, e2, e3, e4, e5, e6⟩ := trace_of _ _ _ _ _ _ _ _ _ he
  refine ⟨ht, ?_⟩
  have hnf := pl.nf_le
  have hlen := pl.len
  rw [Array.length_toList] at hlen
  obtain ⟨r1, r2, r3⟩ := tr.rows pl nf (Nat.le_refl _)
  refine wp_region_any hE.mixed ?_
  refine wpAny_inv (I := fun l a w' => ∃ ρ' P hc, Inv E.P ops n nf σ (fT 0) hT nT v ρ env h w l a w' ρ' P hc) ?_ ?_ ops.size _ a _ ?_ ?_
  · -- the end
    rintro l a' w' ⟨ρ', P, hc, I⟩ hr
    have all : ∀ j, j < ops.size → Ls l j := by
      intro j
      induction j using Nat.strongRecOn with
      | _ j ih =>
        intro hj
        by_cases hl : Ls l j
        · exact hl
        · exfalso
          have : j ∈ Region.ready .any ops l := by
            refine mem_ready.2 ⟨?_, ops[j], Array.getElem?_eq_getElem hj, ?_⟩
            · have hjl : j < l.size := by rw [I.size]; exact hj
              unfold Ls at hl
              simp [hjl] at hl ⊢
              exact hl
            · intro e he hb
              have := pl.edges j ops[j] e (by rw [Array.getElem?_toList, Array.getElem?_eq_getElem hj]) (by simpa using he) (by rw [binding_eq]; exact hb)
              exact ih e.on this (by omega)
          rw [hr] at this; cases this
    have hall : ∀ (k : Nat) (x : Step), σ[k]? = some x → Ls l x.it.j := fun k x hx => all _ (by
      have := (List.getElem?_eq_some_iff.1 (pl.item' hx).1).1
      rwa [Array.length_toList] at this)
    have hP : P = σ.length := by
      rcases Nat.lt_or_ge P σ.length with h1 | h1
      · exfalso
        have hx : σ[P]? = some σ[P] := List.getElem?_eq_getElem h1
        have := (I.chain P _ I.P1 hx (I.next _ hx)).1 (hall P _ hx)
        omega
      · exact Nat.le_antisymm I.P2 h1
    subst hP
    have hnu : ∀ r, ¬ Un σ nf (nT 0) l r := by
      rintro r ⟨k, x, h1, h2, h3, _⟩
      exact h3 (hall k x h2)
    have hg := I.goes.congr (h2 := h') fun r => by rw [(I.hcs r).2 (hnu r), e5]
    rw [e3, e6] at hg
    refine hQ ρ' a' w' ⟨?_, I.asz, I.defers⟩ hg
    intro t u hu
    have := I.gr t u
    rw [e6] at this
    refine this ?_
    rw [← hu, ← e4]
    by_cases hw : ∃ (k : Nat) (x : Step), σ[k]? = some x ∧ x.it.o.dst = some t
    · obtain ⟨k, x, hx, hxd⟩ := hw
      rw [gL_at pl hx hxd (hall k x hx), tr.frame_at hx hxd (fun k' x' h1 h2 => pl.dst h1 hx h2 hxd) _ (Nat.le_refl _) (List.getElem?_eq_some_iff.1 hx).1]
    · rw [gL_not fun k' x' hk' hd' => absurd ⟨k', x', hk', hd'⟩ hw, tr.frame_not _ (Nat.le_refl _) fun k' x' _ hk' hd' => hw ⟨k', x', hk', hd'⟩]
  · -- a step
    rintro l a' w' j ⟨ρ', P, hc, I⟩ hj
    obtain ⟨hu, o, ho, hedge⟩ := mem_ready.1 hj
    obtain ⟨hjl, hns⟩ := not_Ls hu
    obtain ⟨k, x, hx, rfl⟩ := pl.pos (j := j) (by rw [Array.length_toList, ← I.size]; exact hjl)
    have hxo := (pl.item' hx).1
    rw [Array.getElem?_toList, ho] at hxo
    cases hxo
    have hanc : ∀ i, bit x.it.anc i = true → Ls l i := by
      intro i hi
      rw [(pl.item' hx).2] at hi
      obtain ⟨e, he, hb, h1⟩ := (bits_spec (pl.item' hx).1 i).1 hi
      have hse : Ls l e.on := hedge e (by simpa using he) (by rw [← binding_eq]; exact hb)
      rcases h1 with rfl | ⟨h1, h2⟩
      · exact hse
      · obtain ⟨k', y, hy, hyj⟩ := pl.pos (j := e.on) (by
          have := pl.edges _ _ e (pl.item' hx).1 he hb
          have := (List.getElem?_eq_some_iff.1 (pl.item' hx).1).1
          omega)
        have h3 := I.closed k' y hy (by rw [hyj]; exact hse) i
        rw [(pl.item' hy).2, hyj] at h3
        exact h3 h2
    have hdn : ∀ t, x.it.o.dst = some t → t < n := by
      intro t ht
      have := hd x.it.o (List.mem_of_getElem? (pl.item' hx).1)
      unfold dOk at this
      rw [ht] at this
      exact blt_eq.1 this
    have key : StepOk E.P ops x.it.o a' w' (fun y w'' => ∃ ρ' P' hc', Inv E.P ops n nf σ (fT 0) hT nT v ρ env h w (l.setIfInBounds x.it.j true) (a'.put x.it.o.dst y) w'' ρ' P' hc') := by
      rcases Nat.lt_or_ge k nf with hk | hk
      · exact float_step pl tr I hx hk hjl hns hanc hdn
      · exact other_step hE hF pl tr I hx hk hjl hns hanc hdn
    unfold wpOp
    rw [ho]
    exact key _ Q fun y w'' hy => hy
  · -- the start
    obtain ⟨P, p1, p2, p3, p4⟩ := next_chain σ (σ.length - nf) nf (by omega)
    obtain ⟨t1, t2⟩ := tr.stretch (p := nf) (P - nf) (by omega) (fun k' x' h1 h2 h3 => p3 k' x' h1 (by omega) h3)
    rw [show nf + (P - nf) = P by omega] at t1 t2
    have hno : ∀ j, ¬ Ls (Array.replicate ops.size false) j := by
      intro j hj
      unfold Ls at hj
      by_cases hlt : j < ops.size <;> simp [hlt] at hj
    let ρ1 : Nat → Loc := fun r => if nx ≤ r ∧ r < nx + nf then ⟨(ρ r).b, (ρ r).sz, (ρ r).T, false⟩ else ρ r
    have hall : ∀ r, r < nx → ρ1 r = ρ r := fun r hr => if_neg (by omega)
    have hagr : Agree ρ ρ1 nx := fun r hr => hall r hr.1
    have hle : nx ≤ nT P := by rw [t2, r1, e3]; omega
    have hR : Rel E.P ρ1 env (nT P) h { w with drawn := w.drawn + 1 } := by
      refine ⟨fun r o ho => ?_, fun r r' o o' h1 h2 e => ?_⟩
      · have h1 := R.obj r o ho
        refine ⟨h1.1.mono hagr hle, ?_⟩
        rw [hall r h1.1.1]
        exact h1.2.mono hagr hle rfl
      · rw [hall r (R.obj r o h1).1.1, hall r' (R.obj r' o' h2).1.1] at e
        exact R.inj r r' o o' h1 h2 e
    refine ⟨ρ1, P, h, by simp, fun k x _ hs => absurd hs (hno _), p1, p2, ?_, p4, by rw [t2, r1]; exact Nat.le_refl _, ?_, hf.size, hf.defers, ⟨?_, by rw [e3]; exact hle, ⟨rfl, rfl, rfl, Nat.le_refl _, fun _ _ _ => rfl⟩, ?_, hR⟩, ?_, ?_, ?_⟩
    · intro k x h1 h2 h3
      refine ⟨fun hs => absurd hs (hno _), fun hlt => ?_⟩
      have := p3 k x h1 hlt h2
      rw [this] at h3; cases h3
    · intro t u hu
      rw [gL_not (fun _ _ _ _ => hno _), e1] at hu
      exact (hf.get t u hu).mono hagr hle
    · intro r hr; exact hall r (by rw [← e3]; exact hr)
    · rintro b ⟨r, o, ho, rfl⟩
      exact .inl ⟨r, o, ho, by rw [hall r (R.obj r o ho).1.1]⟩
    · intro r
      have hnone : ∀ r, nx ≤ r → h.get r = none := fun r hr => R.get_none hr
      refine ⟨fun hu => ?_, fun hu => ?_⟩
      · obtain ⟨k, x, h1, h2, h3, rfl⟩ := hu
        exact hnone _ (by rw [e3]; omega)
      · rw [t1, r2 r, e2]
        refine Classical.byContradiction fun hne => hu ?_
        refine ⟨r - nT 0, σ[r - nT 0]'(by omega), by omega, List.getElem?_eq_getElem (by omega), hno _, by omega⟩
    · intro k x h1 h2 h3
      show (if nx ≤ nT 0 + k ∧ nT 0 + k < nx + nf then (⟨_, _, _, false⟩ : Loc) else ρ (nT 0 + k)).on = false
      rw [if_pos (by rw [e3]; omega)]
    · intro k x h1 h2 h3
      exact t1 _
  · simp
end Go.Proofs.YtemkiobojboceaaGreat.Ev
