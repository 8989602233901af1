/- What holds while a region whose order is open goes on. No conditions: over any program. -/
import Derived.Test.YtemkiobojboceaaGreatEvS15C
namespace Go.Proofs.YtemkiobojboceaaGreat.Ev
open Go Go.RowKit
set_option linter.unusedSimpArgs false
set_option linter.unusedVariables false

def Ls (l : Array Bool) (j : Nat) : Prop := l.getD j false = true
theorem Ls_set {l : Array Bool} {i j : Nat} (hj : j < l.size) : Ls (l.setIfInBounds j true) i ↔ Ls l i ∨ i = j := by
  unfold Ls
  by_cases e : i = j
  · subst e; simp [hj]
  · simp only [Array.getD_eq_getD_getElem?]
    rw [Array.getElem?_setIfInBounds_ne (fun q => e q.symm)]
    simp [e]
theorem not_Ls {l : Array Bool} {j : Nat} (h : l.getD j true = false) : j < l.size ∧ ¬ Ls l j := by
  have hlt : j < l.size := by
    rcases Nat.lt_or_ge j l.size with h' | h'
    · exact h'
    · simp [Array.getElem?_eq_none h'] at h
  refine ⟨hlt, ?_⟩
  unfold Ls
  simp [hlt] at h ⊢
  exact h
/-- the slots, while some have gone -/
noncomputable def gL (σ : List Step) (v : Nat → V) (f0 : Tr V) (S : Nat → Prop) : G := fun t => @dite _ (∃ k : Nat, ∃ x : Step, σ[k]? = some x ∧ x.it.o.dst = some t ∧ S x.it.j) (Classical.propDecidable _) (fun h => some (v h.choose)) (fun _ => f0.get t)
section g
variable {ops : List Oper} {nf : Nat} {σ : List Step} {v : Nat → V} {f0 : Tr V} {S : Nat → Prop}
theorem gL_at (pl : PlanOk ops nf σ) {k : Nat} {x : Step} {t : Tmp} (hk : σ[k]? = some x) (hd : x.it.o.dst = some t) (hs : S x.it.j) : gL σ v f0 S t = some (v k) := by
  unfold gL
  have h : ∃ k : Nat, ∃ x : Step, σ[k]? = some x ∧ x.it.o.dst = some t ∧ S x.it.j := ⟨k, x, hk, hd, hs⟩
  rw [dif_pos h]
  obtain ⟨y, hy, hyd, _⟩ := h.choose_spec
  rw [pl.dst hy hk hyd hd]
theorem gL_not {t : Tmp} (h : ∀ (k : Nat) (x : Step), σ[k]? = some x → x.it.o.dst = some t → ¬ S x.it.j) : gL σ v f0 S t = f0.get t := by
  unfold gL
  rw [dif_neg]
  rintro ⟨k, x, hk, hd, hs⟩
  exact h k x hk hd hs
theorem gL_step (pl : PlanOk ops nf σ) {S' : Nat → Prop} {k : Nat} {x : Step} (hk : σ[k]? = some x) (hS : ∀ i, S' i ↔ S i ∨ i = x.it.j) (t : Tmp) : gL σ v f0 S' t = if x.it.o.dst = some t then some (v k) else gL σ v f0 S t := by
  by_cases hd : x.it.o.dst = some t
  · rw [if_pos hd]; exact gL_at pl hk hd ((hS _).2 (.inr rfl))
  · rw [if_neg hd]
    by_cases hw : ∃ k : Nat, ∃ y : Step, σ[k]? = some y ∧ y.it.o.dst = some t ∧ S y.it.j
    · obtain ⟨k', y, hy, hyd, hys⟩ := hw
      rw [gL_at pl hy hyd hys, gL_at pl hy hyd ((hS _).2 (.inl hys))]
    · rw [gL_not (S := S) fun k' y hy hyd hys => hw ⟨k', y, hy, hyd, hys⟩]
      refine gL_not fun k' y hy hyd hys => ?_
      rcases (hS _).1 hys with h1 | h1
      · exact hw ⟨k', y, hy, hyd, h1⟩
      · have := pl.inj hy hk h1
        subst this
        rw [hk] at hy; cases hy
        exact hd hyd
end g
section agree
variable {E : Env} {F : Fns} {ops : Array Oper} {nf : Nat} {σ : List Step} {fT : Nat → Tr V} {hT : Nat → H} {nT : Nat → Nat} {v : Nat → V} {S : Nat → Prop}
theorem agree_at (pl : PlanOk ops.toList nf σ) (tr : Trace E F ops.toList σ fT hT nT v) {k : Nat} {x : Step} (hk : σ[k]? = some x) (hns : ¬ S x.it.j) (hc : ∀ (k : Nat) (x : Step), σ[k]? = some x → S x.it.j → ∀ i, bit x.it.anc i = true → S i) (ha : ∀ i, bit x.it.anc i = true → S i) :
    ∀ t ∈ x.it.o.looksAt ops, gL σ v (fT 0) S t = (fT k).get t := by
  intro t ht
  have hkl : k ≤ σ.length := Nat.le_of_lt (List.getElem?_eq_some_iff.1 hk).1
  by_cases hw : ∃ ky : Nat, ∃ y : Step, σ[ky]? = some y ∧ y.it.o.dst = some t
  · obtain ⟨ky, y, hy, hyd⟩ := hw
    have hu : ∀ (k' : Nat) (x' : Step), σ[k']? = some x' → x'.it.o.dst = some t → k' = ky := fun k' x' h1 h2 => pl.dst h1 hy h2 hyd
    have late : k ≤ ky → ¬ S y.it.j → gL σ v (fT 0) S t = (fT k).get t := by
      intro h1 h2
      rw [gL_not fun k' x' hk' hd' => by have := hu k' x' hk' hd'; subst this; rw [hy] at hk'; cases hk'; exact h2]
      rw [tr.frame_not k hkl fun k' x' hlt hk' hd' => by have := hu k' x' hk' hd'; omega]
    rcases pl.names y.it.j x.it.j y.it.o x.it.o t (pl.item' hy).1 hyd (pl.item' hk).1 (by simpa using ht) with h1 | h1 | h1
    · have := pl.inj hy hk h1
      subst this
      exact late (Nat.le_refl _) (by rw [h1]; exact hns)
    · rw [← (pl.item' hk).2] at h1
      rw [gL_at pl hy hyd (ha _ h1)]
      obtain ⟨k', y', hlt, hy', hj⟩ := pl.ahead k x _ hk h1
      have := pl.inj hy' hy hj
      subst this
      rw [tr.frame_at hy hyd hu k hkl hlt]
    · rw [← (pl.item' hy).2] at h1
      obtain ⟨k', y', hlt, hy', hj⟩ := pl.ahead ky y _ hy h1
      have := pl.inj hy' hk hj
      subst this
      exact late (by omega) (fun hs => hns (hc ky y hy hs _ h1))
  · rw [gL_not fun k' x' hk' hd' => absurd ⟨k', x', hk', hd'⟩ hw, tr.frame_not k hkl fun k' x' _ hk' hd' => hw ⟨k', x', hk', hd'⟩]
theorem agree_late (pl : PlanOk ops.toList nf σ) (tr : Trace E F ops.toList σ fT hT nT v) {k kc : Nat} {x c : Step} (hk : σ[k]? = some x) (hkc : σ[kc]? = some c) (hlt : k < kc) (hl : x.it ∈ c.late) (ha : ∀ i, bit x.it.anc i = true → S i) :
    ∀ t ∈ x.it.o.looksAt ops, gL σ v (fT 0) S t = (fT (kc + 1)).get t := by
  intro t ht
  have hkl : kc + 1 ≤ σ.length := (List.getElem?_eq_some_iff.1 hkc).1
  by_cases hw : ∃ ky : Nat, ∃ y : Step, σ[ky]? = some y ∧ y.it.o.dst = some t
  · obtain ⟨ky, y, hy, hyd⟩ := hw
    have h1 := pl.strict c (List.mem_of_getElem? hkc) x.it hl y.it.j y.it.o t (pl.item' hy).1 hyd (by simpa using ht)
    rw [gL_at pl hy hyd (ha _ h1)]
    obtain ⟨k', y', hlt', hy', hj⟩ := pl.ahead k x _ hk h1
    have := pl.inj hy' hy hj
    subst this
    rw [tr.frame_at hy hyd (fun k' x' h1 h2 => pl.dst h1 hy h2 hyd) (kc + 1) hkl (by omega)]
  · rw [gL_not fun k' x' hk' hd' => absurd ⟨k', x', hk', hd'⟩ hw, tr.frame_not (kc + 1) hkl fun k' x' _ hk' hd' => hw ⟨k', x', hk', hd'⟩]
/-- what variables' steps come to -/
theorem Trace.float (pl : PlanOk ops.toList nf σ) (tr : Trace E F ops.toList σ fT hT nT v) {k : Nat} {x : Step} (hk : σ[k]? = some x) (hlt : k < nf) :
    ∃ e d ty pos aft i z cs, x.it.o = ⟨some d, .alloc e, ty, pos, aft, none⟩ ∧ E.P.info? e = some i ∧ i.zero = some z ∧ mapO ofCell z.cells.toList = some cs ∧ v k = .p (nT k) 0 ∧ nT (k + 1) = nT k + 1 ∧ hT (k + 1) = (hT k).put (some (.cells e cs)) (nT k) := by
  obtain ⟨e, d, ty, pos, aft, hxo⟩ := pl.float hk hlt
  obtain ⟨hh, q, h2, h3, h4, h5⟩ := evM_eq (tr.step k x hk).1
  rw [(pl.fl k x hk hlt).2.2] at h3
  cases h3
  rw [hxo] at h4
  have h4' : oAlloc e E F (fT k).get (hT k) (nT k) = some (v k, h2, nT (k + 1)) := h4
  simp only [oAlloc, zeroT_eq, guardB_eq, out_eq] at h4'
  obtain ⟨i, z, cs, hi, hz, hl, h1, e1, e2, e3⟩ := h4'
  refine ⟨e, d, ty, pos, aft, i, z, cs, hxo, hi, hz, hl, e1.symm, e3.symm, ?_⟩
  rw [h5, ← e2]; rfl
theorem Trace.rows (pl : PlanOk ops.toList nf σ) (tr : Trace E F ops.toList σ fT hT nT v) : ∀ p, p ≤ nf → nT p = nT 0 + p ∧ (∀ r, r < nT 0 ∨ nT 0 + p ≤ r → (hT p).get r = (hT 0).get r) ∧ ∀ k, k < p → (hT p).get (nT 0 + k) = (hT (k + 1)).get (nT 0 + k) := by
  intro p
  induction p with
  | zero => intro _; exact ⟨rfl, fun _ _ => rfl, fun k hk => by omega⟩
  | succ p ih =>
    intro hp
    obtain ⟨i1, i2, i3⟩ := ih (by omega)
    have := pl.nf_le
    obtain ⟨x, hx⟩ : ∃ x, σ[p]? = some x := ⟨σ[p], List.getElem?_eq_getElem (by omega)⟩
    obtain ⟨e, d, ty, pos, aft, i, z, cs, _, _, _, _, _, e1, e2⟩ := tr.float pl hx (by omega)
    refine ⟨by omega, ?_, ?_⟩
    · intro r hr
      rw [e2, Tr.get_put, if_neg (by omega)]
      exact i2 r (by omega)
    · intro k hk
      by_cases hkp : k = p
      · subst hkp; rfl
      · rw [e2, Tr.get_put, if_neg (by omega)]
        exact i3 k (by omega)
/-- its row, and its slot later on -/
theorem Trace.slot (pl : PlanOk ops.toList nf σ) (tr : Trace E F ops.toList σ fT hT nT v) {k : Nat} {x : Step} {d : Tmp} (hk : σ[k]? = some x) (hlt : k < nf) (hd : x.it.o.dst = some d) {p : Nat} (hp : nf ≤ p) (hpl : p ≤ σ.length) : (fT p).get d = some (.p (nT 0 + k) 0) := by
  obtain ⟨e, d', ty, pos, aft, i, z, cs, hxo, _, _, _, hv, _, _⟩ := tr.float pl hk hlt
  rw [tr.frame_at hk hd (fun k' x' h1 h2 => pl.dst h1 hk h2 hd) p hpl (by omega), hv, (tr.rows pl k (by omega)).1]
/-- which rows an operation lays aside -/
theorem Trace.hid (pl : PlanOk ops.toList nf σ) (tr : Trace E F ops.toList σ fT hT nT v) {k : Nat} {x : Step} (hk : σ[k]? = some x) (hnf : nf ≤ k) {p : Nat} (hp : nf ≤ p) (hpl : p ≤ σ.length) (r : Nat) :
    HidR (fT p).get x.it.mask r ↔ ∃ (k' : Nat) (y : Step), k' < nf ∧ σ[k']? = some y ∧ bit x.it.anc y.it.j = false ∧ r = nT 0 + k' := by
  constructor
  · rintro ⟨t, ht, o, hg⟩
    obtain ⟨k', y, h1, h2, h3, h4⟩ := (pl.mask k x hk hnf t).1 ht
    rw [tr.slot pl h2 h1 h3 hp hpl] at hg
    cases hg
    exact ⟨k', y, h1, h2, h4, rfl⟩
  · rintro ⟨k', y, h1, h2, h4, rfl⟩
    obtain ⟨e, d, ty, pos, aft, hxo⟩ := pl.float h2 h1
    have hd : y.it.o.dst = some d := by rw [hxo]
    exact ⟨d, (pl.mask k x hk hnf d).2 ⟨k', y, h1, h2, hd, h4⟩, 0, tr.slot pl h2 h1 hd hp hpl⟩
end agree
theorem GR.put {ρ ρ' : Nat → Loc} {env : Nat → Value} {nx nx' n : Nat} {g g' : G} {a : Act} (hg : GR ρ env nx g a) (hs : n ≤ a.tmps.size) (ha : Agree ρ ρ' nx) (hn : nx ≤ nx') {d : Option Tmp} (hd : ∀ t, d = some t → t < n) {v : V} {x : Value} (hv : ∀ t, d = some t → VR ρ' env nx' v x)
    (he : ∀ t, g' t = if d = some t then some v else g t) : GR ρ' env nx' g' (a.put d x) := by
  intro t u hu
  rw [he] at hu
  cases d with
  | none =>
    rw [if_neg (by simp)] at hu
    exact (hg t u hu).mono ha hn
  | some d =>
    have htl : d < a.tmps.size := Nat.lt_of_lt_of_le (hd d rfl) hs
    by_cases e : d = t
    · subst e
      rw [if_pos rfl] at hu
      cases hu
      simp only [Act.put, Array.getD_eq_getD_getElem?, Array.getElem?_setIfInBounds_self, htl, if_true, Option.getD_some]
      exact hv d rfl
    · rw [if_neg (by simpa using e)] at hu
      have := (hg t u hu).mono ha hn
      simp only [Act.put, Array.getD_eq_getD_getElem?] at this ⊢
      rw [Array.getElem?_setIfInBounds_ne e]
      exact this
theorem Goes.congr {P : Program} {ρ ρ' : Nat → Loc} {env : Nat → Value} {nx nx' : Nat} {h h1 h2 : H} {w w' : World} (g : Goes P ρ env nx h w ρ' nx' h1 w') (he : ∀ r, h2.get r = h1.get r) : Goes P ρ env nx h w ρ' nx' h2 w' :=
  ⟨g.all, g.le, g.keep, fun b ⟨r, o, ho, e⟩ => g.src b ⟨r, o, (he r) ▸ ho, e⟩, g.rel.sub fun r x hx => (he r) ▸ hx⟩
/-- rows of variables that are yet to be made -/
def Un (σ : List Step) (nf n0 : Nat) (l : Array Bool) (r : Nat) : Prop := ∃ (k : Nat) (x : Step), k < nf ∧ σ[k]? = some x ∧ ¬ Ls l x.it.j ∧ r = n0 + k
structure Inv (P0 : Program) (ops : Array Oper) (n nf : Nat) (σ : List Step) (f0 : Tr V) (hT : Nat → H) (nT : Nat → Nat) (v : Nat → V) (ρ0 : Nat → Loc) (env : Nat → Value) (h0 : H) (w0 : World) (l : Array Bool) (a : Act) (w : World) (ρ : Nat → Loc) (P : Nat) (hc : H) : Prop where
  size : l.size = ops.size
  closed : ∀ (k : Nat) (x : Step), σ[k]? = some x → Ls l x.it.j → ∀ i, bit x.it.anc i = true → Ls l i
  P1 : nf ≤ P
  P2 : P ≤ σ.length
  chain : ∀ (k : Nat) (x : Step), nf ≤ k → σ[k]? = some x → quiet x.it.o.op = false → (Ls l x.it.j ↔ k < P)
  next : ∀ x, σ[P]? = some x → quiet x.it.o.op = false
  nle : nT 0 + nf ≤ nT P
  gr : GR ρ env (nT P) (gL σ v f0 (Ls l)) a
  asz : n ≤ a.tmps.size
  defers : a.defers = []
  goes : Goes P0 ρ0 env (nT 0) h0 w0 ρ (nT P) hc w
  hcs : ∀ r, (Un σ nf (nT 0) l r → hc.get r = none) ∧ (¬ Un σ nf (nT 0) l r → hc.get r = (hT P).get r)
  off : ∀ (k : Nat) (x : Step), k < nf → σ[k]? = some x → ¬ Ls l x.it.j → (ρ (nT 0 + k)).on = false
  row : ∀ (k : Nat) (x : Step), k < nf → σ[k]? = some x → ¬ Ls l x.it.j → (hT P).get (nT 0 + k) = (hT nf).get (nT 0 + k)
section step
variable {P0 : Program} {ops : Array Oper} {n nf : Nat} {σ : List Step} {f0 : Tr V} {hT : Nat → H} {nT : Nat → Nat} {v : Nat → V} {ρ0 : Nat → Loc} {env : Nat → Value} {h0 : H} {w0 : World} {l : Array Bool} {a : Act} {w : World} {ρ : Nat → Loc} {P : Nat} {hc : H}
theorem Inv.step (pl : PlanOk ops.toList nf σ) (I : Inv P0 ops n nf σ f0 hT nT v ρ0 env h0 w0 l a w ρ P hc) {k : Nat} {x : Step} (hx : σ[k]? = some x) (hj : x.it.j < l.size) (hns : ¬ Ls l x.it.j) (hanc : ∀ i, bit x.it.anc i = true → Ls l i) (hd : ∀ t, x.it.o.dst = some t → t < n)
    {ρ' : Nat → Loc} {P' : Nat} {hc' : H} {w' : World} {y : Value} (ha : Agree ρ ρ' (nT P)) (hn : nT P ≤ nT P') (hv : ∀ t, x.it.o.dst = some t → VR ρ' env (nT P') (v k) y) (P1' : nf ≤ P') (P2' : P' ≤ σ.length)
    (chain' : ∀ (k' : Nat) (x' : Step), nf ≤ k' → σ[k']? = some x' → quiet x'.it.o.op = false → (Ls l x'.it.j ∨ x'.it.j = x.it.j ↔ k' < P')) (next' : ∀ x, σ[P']? = some x → quiet x.it.o.op = false)
    (goes' : Goes P0 ρ0 env (nT 0) h0 w0 ρ' (nT P') hc' w')
    (hcs' : ∀ r, (Un σ nf (nT 0) l r → r ≠ nT 0 + k → hc'.get r = none) ∧ (¬ Un σ nf (nT 0) l r ∨ (k < nf ∧ r = nT 0 + k) → hc'.get r = (hT P').get r))
    (off' : ∀ (k' : Nat) (x' : Step), k' < nf → σ[k']? = some x' → ¬ Ls l x'.it.j → k' ≠ k → (ρ' (nT 0 + k')).on = false)
    (row' : ∀ (k' : Nat) (x' : Step), k' < nf → σ[k']? = some x' → ¬ Ls l x'.it.j → k' ≠ k → (hT P').get (nT 0 + k') = (hT nf).get (nT 0 + k')) :
    Inv P0 ops n nf σ f0 hT nT v ρ0 env h0 w0 (l.setIfInBounds x.it.j true) (a.put x.it.o.dst y) w' ρ' P' hc' := by
  have hS : ∀ i, Ls (l.setIfInBounds x.it.j true) i ↔ Ls l i ∨ i = x.it.j := fun i => Ls_set hj
  have hU : ∀ r, Un σ nf (nT 0) (l.setIfInBounds x.it.j true) r ↔ Un σ nf (nT 0) l r ∧ r ≠ nT 0 + k := by
    intro r
    constructor
    · rintro ⟨k', x', h1, h2, h3, rfl⟩
      rw [hS] at h3
      refine ⟨⟨k', x', h1, h2, fun q => h3 (.inl q), rfl⟩, fun e => ?_⟩
      have : k' = k := by omega
      subst this
      rw [hx] at h2; cases h2
      exact h3 (.inr rfl)
    · rintro ⟨⟨k', x', h1, h2, h3, rfl⟩, hne⟩
      refine ⟨k', x', h1, h2, fun q => ?_, rfl⟩
      rcases (hS _).1 q with q | q
      · exact h3 q
      · exact hne (by rw [pl.inj h2 hx q])
  refine ⟨by simp [I.size], ?_, P1', P2', ?_, next', Nat.le_trans I.nle hn, ?_, ?_, ?_, goes', ?_, ?_, ?_⟩
  · intro k' x' hx' hs i hi
    rw [hS] at hs ⊢
    rcases hs with hs | hs
    · exact .inl (I.closed k' x' hx' hs i hi)
    · have := pl.inj hx' hx hs
      subst this
      rw [hx] at hx'; cases hx'
      exact .inl (hanc i hi)
  · intro k' x' h1 h2 h3
    rw [hS]
    exact chain' k' x' h1 h2 h3
  · exact I.gr.put I.asz ha hn hd hv (gL_step pl hx hS)
  · cases hdd : x.it.o.dst with
    | none => exact I.asz
    | some d => simp only [Act.put, Array.size_setIfInBounds]; exact I.asz
  · cases hdd : x.it.o.dst with
    | none => exact I.defers
    | some d => exact I.defers
  · intro r
    rw [hU]
    refine ⟨fun ⟨h1, h2⟩ => (hcs' r).1 h1 h2, fun hn => (hcs' r).2 ?_⟩
    by_cases hu : Un σ nf (nT 0) l r
    · right
      have e : r = nT 0 + k := Classical.byContradiction fun e => hn ⟨hu, e⟩
      obtain ⟨k', x', h1, h2, h3, h4⟩ := hu
      exact ⟨by omega, e⟩
    · exact .inl hu
  · intro k' x' h1 h2 h3
    rw [hS] at h3
    refine off' k' x' h1 h2 (fun q => h3 (.inl q)) ?_
    rintro rfl
    rw [hx] at h2; cases h2
    exact h3 (.inr rfl)
  · intro k' x' h1 h2 h3
    rw [hS] at h3
    refine row' k' x' h1 h2 (fun q => h3 (.inl q)) ?_
    rintro rfl
    rw [hx] at h2; cases h2
    exact h3 (.inr rfl)
end step
end Go.Proofs.YtemkiobojboceaaGreat.Ev
