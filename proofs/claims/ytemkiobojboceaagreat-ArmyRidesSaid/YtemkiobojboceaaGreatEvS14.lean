/- The order in which a region is reckoned: what holds of it. No conditions: over any program. -/
import Derived.Test.YtemkiobojboceaaGreatEvS13
namespace Go.Proofs.YtemkiobojboceaaGreat.Ev
open Go Go.RowKit
set_option linter.unusedSimpArgs false
set_option linter.unusedVariables false

theorem bit_eq (s j : Nat) : bit s j = s.testBit j := by
  unfold bit
  rw [Nat.testBit_eq_decide_div_mod_eq]
  have : Nat.mod (Nat.shiftRight s j) 2 = s / 2 ^ j % 2 := by
    show (s >>> j) % 2 = _
    rw [Nat.shiftRight_eq_div_pow]
  rw [this]
  by_cases h : s / 2 ^ j % 2 = 1
  · rw [h]; rfl
  · rw [beq_ne h]; simp [h]
theorem within_spec {s t : Nat} (h : within s t = true) {i : Nat} (hi : bit s i = true) : bit t i = true := by
  unfold within at h
  have h' : s &&& t = s := beq_eq.1 h
  rw [bit_eq] at hi ⊢
  rw [← h', Nat.testBit_and] at hi
  simp at hi; exact hi.2
theorem bit_lor (s t i : Nat) : bit (Nat.lor s t) i = (bit s i || bit t i) := by
  rw [bit_eq, bit_eq, bit_eq]; exact Nat.testBit_or s t i
theorem bit_pow (n i : Nat) : bit (Nat.pow 2 n) i = decide (n = i) := by
  rw [bit_eq]; show (2 ^ n).testBit i = _; rw [Nat.testBit_two_pow]
theorem bit_zero (i : Nat) : bit 0 i = false := by rw [bit_eq]; simp
theorem bitsOf_spec (acc : List Nat) (i : Nat) : ∀ (l : List Edge), bit (bitsOf acc l) i = true ↔ ∃ e ∈ l, binding e = true ∧ (e.on = i ∨ ∃ b, acc[e.on]? = some b ∧ bit b i = true) := by
  intro l
  induction l with
  | nil => show bit 0 i = true ↔ _; rw [bit_zero]; simp
  | cons e l ih =>
    have e1 : bitsOf acc (e :: l) = @Bool.rec (fun _ => Nat) (bitsOf acc l) (Nat.lor (bitsOf acc l) (Nat.lor (Nat.pow 2 e.on) (@Option.rec Nat (fun _ => Nat) 0 (fun b => b) (nth acc e.on)))) (binding e) := rfl
    rw [e1]
    cases hb : binding e with
    | false =>
      show bit (bitsOf acc l) i = true ↔ _
      rw [ih]
      constructor
      · rintro ⟨e', h1, h2⟩; exact ⟨e', .tail _ h1, h2⟩
      · rintro ⟨e', h1, h2⟩
        cases h1 with
        | head => rw [hb] at h2; cases h2.1
        | tail _ h1 => exact ⟨e', h1, h2⟩
    | true =>
      show bit (Nat.lor (bitsOf acc l) (Nat.lor (Nat.pow 2 e.on) (@Option.rec Nat (fun _ => Nat) 0 (fun b => b) (nth acc e.on)))) i = true ↔ _
      rw [bit_lor, bit_lor, bit_pow, nth_eq]
      simp only [Bool.or_eq_true, decide_eq_true_eq, ih]
      constructor
      · rintro (⟨e', h1, h2⟩ | h | h)
        · exact ⟨e', .tail _ h1, h2⟩
        · exact ⟨e, .head _, hb, .inl h⟩
        · cases ha : acc[e.on]? with
          | none => rw [ha] at h; have : bit 0 i = true := h; rw [bit_zero] at this; cases this
          | some b => rw [ha] at h; exact ⟨e, .head _, hb, .inr ⟨b, ha, h⟩⟩
      · rintro ⟨e', h1, h2, h3⟩
        cases h1 with
        | head =>
          rcases h3 with h3 | ⟨b, h3, h4⟩
          · exact .inr (.inl h3)
          · rw [h3]; exact .inr (.inr h4)
        | tail _ h1 => exact .inl ⟨e', h1, h2, h3⟩
theorem ancL_spec : ∀ (l : List Oper) (acc : List Nat), (ancL l acc).length = acc.length + l.length ∧ (∀ j, j < acc.length → (ancL l acc)[j]? = acc[j]?) ∧
    ∀ j o, l[j]? = some o → (ancL l acc)[acc.length + j]? = some (bitsOf ((ancL l acc).take (acc.length + j)) o.after.toList) := by
  intro l
  induction l with
  | nil => intro acc; exact ⟨rfl, fun j _ => rfl, fun j o h => by simp at h⟩
  | cons o l ih =>
    intro acc
    have e1 : ancL (o :: l) acc = ancL l (acc ++ [bitsOf acc o.after.toList]) := by
      show ancL l (snoc acc (bitsOf acc o.after.toList)) = _; rw [snoc_eq]
    rw [e1]
    obtain ⟨h1, h2, h3⟩ := ih (acc ++ [bitsOf acc o.after.toList])
    simp only [List.length_append, List.length_cons, List.length_nil, Nat.zero_add] at h1 h2 h3
    refine ⟨by rw [h1, List.length_cons]; omega, ?_, ?_⟩
    · intro j hj
      rw [h2 j (by omega), List.getElem?_append_left hj]
    · intro j o' hj
      cases j with
      | zero =>
        simp at hj; subst hj
        have h4 := h2 acc.length (by omega)
        rw [List.getElem?_append_right (Nat.le_refl _)] at h4
        simp at h4
        rw [Nat.add_zero, List.getElem?_eq_getElem (by omega)] at *
        rw [← List.getElem?_eq_getElem (by rw [h1]; omega), h2 acc.length (by omega), List.getElem?_append_right (Nat.le_refl _)]
        simp
        congr 1
        apply List.ext_getElem?
        intro i
        rw [List.getElem?_take]
        split
        · rw [h2 i (by omega), List.getElem?_append_left (by omega)]
        · rw [List.getElem?_eq_none (by omega)]
      | succ j =>
        have h4 := h3 j o' (by simpa using hj)
        rw [show acc.length + (j + 1) = acc.length + 1 + j by omega]
        exact h4
/-- which stand ahead of each -/
noncomputable def bits (ops : List Oper) (j : Nat) : Nat := ((ancL ops [])[j]?).getD 0
theorem bits_get {ops : List Oper} {j : Nat} {o : Oper} (h : ops[j]? = some o) : (ancL ops [])[j]? = some (bits ops j) := by
  have := (ancL_spec ops []).2.2 j o h
  simp only [List.length_nil, Nat.zero_add] at this
  unfold bits; rw [this]; rfl
theorem bits_spec {ops : List Oper} {j : Nat} {o : Oper} (h : ops[j]? = some o) (i : Nat) : bit (bits ops j) i = true ↔ ∃ e ∈ o.after.toList, binding e = true ∧ (e.on = i ∨ (e.on < j ∧ bit (bits ops e.on) i = true)) := by
  have h1 := (ancL_spec ops []).2.2 j o h
  simp only [List.length_nil, Nat.zero_add] at h1
  have h2 : bits ops j = bitsOf ((ancL ops []).take j) o.after.toList := by unfold bits; rw [h1]; rfl
  rw [h2, bitsOf_spec]
  constructor
  · rintro ⟨e, he, hb, h3⟩
    refine ⟨e, he, hb, ?_⟩
    rcases h3 with h3 | ⟨b, h3, h4⟩
    · exact .inl h3
    · rw [List.getElem?_take] at h3
      split at h3
      · rename_i hlt
        refine .inr ⟨hlt, ?_⟩
        unfold bits; rw [h3]; exact h4
      · cases h3
  · rintro ⟨e, he, hb, h3⟩
    refine ⟨e, he, hb, ?_⟩
    rcases h3 with h3 | ⟨h3, h4⟩
    · exact .inl h3
    · have hl := (ancL_spec ops []).1
      have hjl : j < ops.length := (List.getElem?_eq_some_iff.1 h).1
      have hlt : e.on < (ancL ops []).length := by rw [hl]; simp; omega
      refine .inr ⟨(ancL ops [])[e.on], ?_, ?_⟩
      · rw [List.getElem?_take, if_pos h3, List.getElem?_eq_getElem hlt]
      · unfold bits at h4; rw [List.getElem?_eq_getElem hlt] at h4; exact h4
/-- edges go back -/
def EdgesOk (ops : List Oper) : Prop := ∀ j o e, ops[j]? = some o → e ∈ o.after.toList → binding e = true → e.on < j
theorem bits_closed {ops : List Oper} (hE : EdgesOk ops) (L : Nat → Prop) (hL : ∀ j o e, L j → ops[j]? = some o → e ∈ o.after.toList → binding e = true → L e.on) : ∀ j o i, ops[j]? = some o → L j → bit (bits ops j) i = true → L i := by
  intro j
  induction j using Nat.strongRecOn with
  | _ j ih =>
    intro o i ho hj hb
    obtain ⟨e, he, hbe, h⟩ := (bits_spec ho i).1 hb
    have h1 := hL j o e hj ho he hbe
    rcases h with rfl | ⟨hlt, h⟩
    · exact h1
    · have hjl : j < ops.length := (List.getElem?_eq_some_iff.1 ho).1
      exact ih e.on hlt ops[e.on] i (List.getElem?_eq_getElem (by omega)) h1 h
theorem bits_trans {ops : List Oper} (hE : EdgesOk ops) : ∀ j o i k, ops[j]? = some o → bit (bits ops j) i = true → bit (bits ops i) k = true → bit (bits ops j) k = true := by
  intro j
  induction j using Nat.strongRecOn with
  | _ j ih =>
    intro o i k ho hb hk
    obtain ⟨e, he, hbe, h⟩ := (bits_spec ho i).1 hb
    have hlt := hE j o e ho he hbe
    have hjl : j < ops.length := (List.getElem?_eq_some_iff.1 ho).1
    rcases h with rfl | ⟨_, h⟩
    · exact (bits_spec ho k).2 ⟨e, he, hbe, .inr ⟨hlt, hk⟩⟩
    · exact (bits_spec ho k).2 ⟨e, he, hbe, .inr ⟨hlt, ih e.on hlt ops[e.on] i k (List.getElem?_eq_getElem (by omega)) h hk⟩⟩
theorem items_spec : ∀ (l : List Oper) (r : List Nat) (j0 : Nat), l.length = r.length → ∀ (k : Nat) (x : It), (items l r j0)[k]? = some x ↔ ∃ o b, l[k]? = some o ∧ r[k]? = some b ∧ x = ⟨j0 + k, o, b, []⟩ := by
  intro l
  induction l with
  | nil => intro r j0 h k x; show ([] : List It)[k]? = _ ↔ _; simp
  | cons o l ih =>
    intro r j0 h k x
    cases r with
    | nil => simp at h
    | cons b r =>
      have e1 : items (o :: l) (b :: r) j0 = ⟨j0, o, b, []⟩ :: items l r (j0 + 1) := rfl
      rw [e1]
      cases k with
      | zero => simp; exact ⟨fun h => h.symm, fun h => h.symm⟩
      | succ k =>
        simp only [List.getElem?_cons_succ]
        rw [ih r (j0 + 1) (by simpa using h) k x]
        rw [show j0 + 1 + k = j0 + (k + 1) by omega]
theorem filterB_eq {α : Type} (p : α → Bool) (l : List α) : filterB p l = l.filter p := by
  induction l with
  | nil => rfl
  | cons x l ih =>
    have e1 : filterB p (x :: l) = @Bool.rec (fun _ => List α) (filterB p l) (x :: filterB p l) (p x) := rfl
    rw [e1, List.filter_cons, ih]
    cases p x <;> rfl
theorem mapL_eq {α β : Type} (f : α → β) (l : List α) : mapL f l = l.map f := by
  induction l with
  | nil => rfl
  | cons x l ih => show f x :: mapL f l = _; rw [ih]; rfl
theorem doneOf_spec (l : List It) (i : Nat) : bit (doneOf l) i = true ↔ ∃ x ∈ l, x.j = i := by
  induction l with
  | nil => show bit 0 i = true ↔ _; rw [bit_zero]; simp
  | cons x l ih =>
    show bit (Nat.lor (doneOf l) (Nat.pow 2 x.j)) i = true ↔ _
    rw [bit_lor, bit_pow, Bool.or_eq_true, ih]; simp
    constructor
    · rintro (h | h); exact .inr h; exact .inl h
    · rintro (h | h); exact .inr h; exact .inl h
theorem pass_spec : ∀ (l : List It) (d : Nat), ((pass l d).go ++ (pass l d).rest).Perm l ∧ (∀ i, bit (pass l d).done i = true ↔ bit d i = true ∨ ∃ x ∈ (pass l d).go, x.j = i) ∧ (∀ (k : Nat) (x : It), (pass l d).go[k]? = some x → quiet x.o.op = true ∧ ∀ i, bit x.anc i = true → bit d i = true ∨ ∃ (k' : Nat) (y : It), k' < k ∧ (pass l d).go[k']? = some y ∧ y.j = i) := by
  intro l
  induction l with
  | nil => intro d; refine ⟨.refl _, fun i => ?_, fun k x h => ?_⟩; show bit d i = true ↔ _; simp [show (pass [] d).go = [] from rfl]; rw [show (pass [] d).go = [] from rfl] at h; simp at h
  | cons x l ih =>
    intro d
    have e1 : pass (x :: l) d = @Bool.rec (fun _ => Pass) (passR x (pass l d)) (passG x (pass l (Nat.lor d (Nat.pow 2 x.j)))) (andB (quiet x.o.op) (within x.anc d)) := rfl
    rw [e1]
    cases hb : andB (quiet x.o.op) (within x.anc d) with
    | false =>
      obtain ⟨h1, h2, h3⟩ := ih d
      exact ⟨(List.perm_middle (l₁ := (pass l d).go) (a := x) (l₂ := (pass l d).rest)).trans (h1.cons x), h2, h3⟩
    | true =>
      obtain ⟨hq, hw⟩ := andB_eq.1 hb
      obtain ⟨h1, h2, h3⟩ := ih (Nat.lor d (Nat.pow 2 x.j))
      refine ⟨h1.cons x, ?_, ?_⟩
      · intro i
        show bit (pass l (Nat.lor d (Nat.pow 2 x.j))).done i = true ↔ bit d i = true ∨ ∃ y ∈ x :: (pass l (Nat.lor d (Nat.pow 2 x.j))).go, y.j = i
        rw [h2, bit_lor, bit_pow, Bool.or_eq_true, decide_eq_true_eq]
        simp only [List.mem_cons, exists_eq_or_imp]
        constructor
        · rintro ((h | h) | h)
          · exact .inl h
          · exact .inr (.inl h)
          · exact .inr (.inr h)
        · rintro (h | h | h)
          · exact .inl (.inl h)
          · exact .inl (.inr h)
          · exact .inr h
      · intro k y hk
        have hk' : (x :: (pass l (Nat.lor d (Nat.pow 2 x.j))).go)[k]? = some y := hk
        cases k with
        | zero =>
          simp at hk'; subst hk'
          exact ⟨hq, fun i hi => .inl (within_spec hw hi)⟩
        | succ k =>
          obtain ⟨g1, g2⟩ := h3 k y (by simpa using hk')
          refine ⟨g1, fun i hi => ?_⟩
          rcases g2 i hi with h | ⟨k', z, hlt, hz, hj⟩
          · rw [bit_lor, bit_pow, Bool.or_eq_true, decide_eq_true_eq] at h
            rcases h with h | h
            · exact .inl h
            · exact .inr ⟨0, x, by omega, rfl, h⟩
          · exact .inr ⟨k' + 1, z, by omega, hz, hj⟩
/-- what the passes come to -/
structure Good (todo : List It) (done : Nat) (was : List It) (last : Option Nat) (r : List Step) : Prop where
  perm : (r.map (·.it)).Perm todo
  ahead : ∀ (k : Nat) (x : Step), r[k]? = some x → ∀ i, bit x.it.anc i = true → bit done i = true ∨ ∃ (k' : Nat) (y : Step), k' < k ∧ r[k']? = some y ∧ y.it.j = i
  behind : ∀ x ∈ r, behind last x.it.anc = true
  chain : ∀ (k k' : Nat) (x y : Step), k < k' → r[k]? = some x → r[k']? = some y → quiet x.it.o.op = false → bit y.it.anc x.it.j = true
  late : ∀ (k : Nat) (x : Step), r[k]? = some x → quiet x.it.o.op = false → ∀ p, (p ∈ was ∨ ∃ (k' : Nat) (y : Step), k' < k ∧ r[k']? = some y ∧ y.it = p) → reads p.o.op = true → bit x.it.anc p.j = false → p ∈ x.late
theorem passes_spec : ∀ (f : Nat) (todo : List It) (done : Nat) (was : List It) (last : Option Nat) (r : List Step), (∀ x ∈ todo, ∀ c ∈ todo, ∀ k, bit x.anc c.j = true → bit c.anc k = true → bit x.anc k = true) → passes f todo done was last = some r → Good todo done was last r := by
  intro f
  induction f with
  | zero => intro todo done was last r _ h; cases h
  | succ f ih =>
    intro todo done was last r htr h
    obtain ⟨h1, h2, h3⟩ := pass_spec todo done
    have e1 : passes (f + 1) todo done was last = guardB (allB (fun x => behind last x.anc) (pass todo done).go) (@List.rec It (fun _ => Option (List Step)) (some (plainSteps (pass todo done).go))
      (fun c rest _ => guardB (andB (notB (quiet c.o.op)) (andB (within c.anc (pass todo done).done) (behind last c.anc)))
        (ob (passes f rest (Nat.lor (pass todo done).done (Nat.pow 2 c.j)) (app was (pass todo done).go) (some c.j)) fun r => some (app (plainSteps (pass todo done).go) (⟨c, lates c (app was (pass todo done).go)⟩ :: r)))) (pass todo done).rest) := rfl
    rw [e1] at h
    generalize pass todo done = p at *
    rw [guardB_eq, allB_eq] at h
    obtain ⟨hbe, h⟩ := h
    have hgo : ∀ (k : Nat) (x : Step), (plainSteps p.go)[k]? = some x → p.go[k]? = some x.it ∧ x.late = [] := by
      intro k x hk
      unfold plainSteps at hk
      rw [mapL_eq, List.getElem?_map] at hk
      cases hg : p.go[k]? with
      | none => rw [hg] at hk; cases hk
      | some y => rw [hg] at hk; cases hk; exact ⟨rfl, rfl⟩
    have hlen : (plainSteps p.go).length = p.go.length := by unfold plainSteps; rw [mapL_eq]; simp
    have hmap : (plainSteps p.go).map (·.it) = p.go := by unfold plainSteps; rw [mapL_eq]; simp [Function.comp_def]
    have ahead0 : ∀ (k : Nat) (x : Step), (plainSteps p.go)[k]? = some x → ∀ i, bit x.it.anc i = true → bit done i = true ∨ ∃ (k' : Nat) (y : Step), k' < k ∧ (plainSteps p.go)[k']? = some y ∧ y.it.j = i := by
      intro k x hk i hi
      rcases (h3 k x.it (hgo k x hk).1).2 i hi with h | ⟨k', y, hlt, hy, hj⟩
      · exact .inl h
      · refine .inr ⟨k', ⟨y, []⟩, hlt, ?_, hj⟩
        unfold plainSteps; rw [mapL_eq, List.getElem?_map, hy]; rfl
    cases hr : p.rest with
    | nil =>
      rw [hr] at h h1
      have h' : some (plainSteps p.go) = some r := h
      cases h'
      refine ⟨by rw [hmap]; simpa using h1, ahead0, ?_, ?_, ?_⟩
      · intro x hx
        obtain ⟨k, hk⟩ := List.mem_iff_getElem?.1 hx
        exact hbe _ (List.mem_of_getElem? (hgo k x hk).1)
      · intro k k' x y _ hk _ hq
        rw [(h3 k _ (hgo k x hk).1).1] at hq; cases hq
      · intro k x hk hq
        rw [(h3 k _ (hgo k x hk).1).1] at hq; cases hq
    | cons c rest =>
      rw [hr] at h h1
      have h' : guardB (andB (notB (quiet c.o.op)) (andB (within c.anc p.done) (behind last c.anc))) (ob (passes f rest (Nat.lor p.done (Nat.pow 2 c.j)) (app was p.go) (some c.j)) fun r => some (app (plainSteps p.go) (⟨c, lates c (app was p.go)⟩ :: r))) = some r := h
      rw [guardB_eq, andB_eq, andB_eq, notB_eq, ob_eq] at h'
      obtain ⟨⟨hcq, hw, hbl⟩, r', hr', e⟩ := h'
      cases e
      have hsub : ∀ x ∈ rest, x ∈ todo := fun x hx => h1.mem_iff.1 (List.mem_append_right _ (.tail _ hx))
      have hcm : c ∈ todo := h1.mem_iff.1 (List.mem_append_right _ (.head _))
      have G := ih _ _ _ _ _ (fun x hx c hc => htr x (hsub x hx) c (hsub c hc)) hr'
      rw [app_eq] at G
      rw [app_eq, app_eq]
      -- positions
      have pos : ∀ (k : Nat) (x : Step), (plainSteps p.go ++ ⟨c, lates c (was ++ p.go)⟩ :: r')[k]? = some x → (k < p.go.length ∧ (plainSteps p.go)[k]? = some x) ∨ (k = p.go.length ∧ x = ⟨c, lates c (was ++ p.go)⟩) ∨ (∃ k2, k = p.go.length + 1 + k2 ∧ r'[k2]? = some x) := by
        intro k x hk
        by_cases hlt : k < p.go.length
        · rw [List.getElem?_append_left (by rw [hlen]; exact hlt)] at hk; exact .inl ⟨hlt, hk⟩
        · rw [List.getElem?_append_right (by rw [hlen]; omega), hlen] at hk
          by_cases he : k = p.go.length
          · subst he; simp at hk; exact .inr (.inl ⟨rfl, hk.symm⟩)
          · obtain ⟨k2, rfl⟩ : ∃ k2, k = p.go.length + 1 + k2 := ⟨k - p.go.length - 1, by omega⟩
            rw [show p.go.length + 1 + k2 - p.go.length = k2 + 1 by omega, List.getElem?_cons_succ] at hk
            exact .inr (.inr ⟨k2, rfl, hk⟩)
      have at0 : ∀ (k : Nat) (x : Step), (plainSteps p.go)[k]? = some x → (plainSteps p.go ++ ⟨c, lates c (was ++ p.go)⟩ :: r')[k]? = some x := by
        intro k x hk
        rw [List.getElem?_append_left (List.getElem?_eq_some_iff.1 hk).1]; exact hk
      have at1 : (plainSteps p.go ++ ⟨c, lates c (was ++ p.go)⟩ :: r')[p.go.length]? = some ⟨c, lates c (was ++ p.go)⟩ := by
        rw [List.getElem?_append_right (by rw [hlen]; exact Nat.le_refl _), hlen]; simp
      have at2 : ∀ (k : Nat) (x : Step), r'[k]? = some x → (plainSteps p.go ++ ⟨c, lates c (was ++ p.go)⟩ :: r')[p.go.length + 1 + k]? = some x := by
        intro k x hk
        rw [List.getElem?_append_right (by rw [hlen]; omega), hlen, show p.go.length + 1 + k - p.go.length = k + 1 by omega, List.getElem?_cons_succ]; exact hk
      have done_go : ∀ i, bit p.done i = true → bit done i = true ∨ ∃ (k' : Nat) (y : Step), k' < p.go.length ∧ (plainSteps p.go ++ ⟨c, lates c (was ++ p.go)⟩ :: r')[k']? = some y ∧ y.it.j = i := by
        intro i hi
        rcases (h2 i).1 hi with h | ⟨x, hx, hj⟩
        · exact .inl h
        · obtain ⟨k, hk⟩ := List.mem_iff_getElem?.1 hx
          refine .inr ⟨k, ⟨x, []⟩, (List.getElem?_eq_some_iff.1 hk).1, at0 _ _ ?_, hj⟩
          unfold plainSteps; rw [mapL_eq, List.getElem?_map, hk]; rfl
      refine ⟨?_, ?_, ?_, ?_, ?_⟩
      · rw [List.map_append, hmap, List.map_cons]
        exact ((G.perm.cons c).append_left p.go).trans h1
      · intro k x hk i hi
        rcases pos k x hk with ⟨hlt, hk0⟩ | ⟨rfl, rfl⟩ | ⟨k2, rfl, hk2⟩
        · rcases ahead0 k x hk0 i hi with h | ⟨k', y, hlt', hy, hj⟩
          · exact .inl h
          · exact .inr ⟨k', y, hlt', at0 _ _ hy, hj⟩
        · exact done_go i (within_spec hw hi)
        · rcases G.ahead k2 x hk2 i hi with h | ⟨k', y, hlt', hy, hj⟩
          · rw [bit_lor, bit_pow, Bool.or_eq_true, decide_eq_true_eq] at h
            rcases h with h | h
            · rcases done_go i h with h | ⟨k', y, hlt', hy, hj⟩
              · exact .inl h
              · exact .inr ⟨k', y, by omega, hy, hj⟩
            · exact .inr ⟨p.go.length, _, by omega, at1, h⟩
          · exact .inr ⟨p.go.length + 1 + k', y, by omega, at2 _ _ hy, hj⟩
      · -- behind the last
        have hbr : ∀ x ∈ r', behind last x.it.anc = true := by
          intro x hx
          have h5 : bit x.it.anc c.j = true := G.behind x hx
          have hxm : x.it ∈ rest := G.perm.mem_iff.1 (List.mem_map_of_mem hx)
          cases last with
          | none => rfl
          | some k => exact htr x.it (hsub _ hxm) c hcm k h5 hbl
        intro x hx
        rw [List.mem_append] at hx
        rcases hx with hx | hx
        · obtain ⟨k, hk⟩ := List.mem_iff_getElem?.1 hx
          exact hbe _ (List.mem_of_getElem? (hgo k x hk).1)
        · cases hx with
          | head => exact hbl
          | tail _ hx => exact hbr x hx
      · intro k k' x y hlt hk hk' hq
        rcases pos k x hk with ⟨_, hk0⟩ | ⟨rfl, rfl⟩ | ⟨k2, rfl, hk2⟩
        · rw [(h3 k _ (hgo k x hk0).1).1] at hq; cases hq
        · rcases pos k' y hk' with ⟨hlt', _⟩ | ⟨rfl, _⟩ | ⟨k2, rfl, hk2⟩
          · omega
          · omega
          · exact G.behind y (List.mem_of_getElem? hk2)
        · rcases pos k' y hk' with ⟨hlt', _⟩ | ⟨rfl, _⟩ | ⟨k3, rfl, hk3⟩
          · omega
          · omega
          · exact G.chain k2 k3 x y (by omega) hk2 hk3 hq
      · intro k x hk hq q hp hre hnb
        rcases pos k x hk with ⟨_, hk0⟩ | ⟨rfl, rfl⟩ | ⟨k2, rfl, hk2⟩
        · rw [(h3 k _ (hgo k x hk0).1).1] at hq; cases hq
        · show q ∈ lates c (was ++ p.go)
          unfold lates
          rw [filterB_eq, List.mem_filter]
          refine ⟨?_, andB_eq.2 ⟨hre, by rw [notB_eq, hnb]; rfl⟩⟩
          rcases hp with hp | ⟨k', y, hlt, hy, rfl⟩
          · exact List.mem_append_left _ hp
          · rcases pos k' y hy with ⟨_, hk0⟩ | ⟨rfl, _⟩ | ⟨k3, rfl, _⟩
            · exact List.mem_append_right _ (List.mem_of_getElem? (hgo k' y hk0).1)
            · omega
            · omega
        · refine G.late k2 x hk2 hq q ?_ hre hnb
          rcases hp with hp | ⟨k', y, hlt, hy, rfl⟩
          · exact .inl (List.mem_append_left _ hp)
          · rcases pos k' y hy with ⟨_, hk0⟩ | ⟨rfl, rfl⟩ | ⟨k3, rfl, hk3⟩
            · exact .inl (List.mem_append_right _ (List.mem_of_getElem? (hgo k' y hk0).1))
            · -- the one that acts reads no memory
              exfalso
              have hk : opKind c.o.op = 1 := beq_eq.1 hre
              have : quiet c.o.op = true := by unfold quiet; rw [hk]; rfl
              rw [this] at hcq; cases hcq
            · exact .inr ⟨k3, y, by omega, hk3, rfl⟩
theorem masks_spec (anc : Nat) (d : Tmp) : ∀ (l : List It), d ∈ masks anc l ↔ ∃ x ∈ l, x.o.dst = some d ∧ bit anc x.j = false := by
  intro l
  induction l with
  | nil => simp [masks]
  | cons x l ih =>
    have e1 : masks anc (x :: l) = @Bool.rec (fun _ => List Tmp) (@Option.rec Tmp (fun _ => List Tmp) (masks anc l) (fun d => d :: masks anc l) x.o.dst) (masks anc l) (bit anc x.j) := rfl
    rw [e1]
    simp only [List.mem_cons, exists_eq_or_imp]
    cases hb : bit anc x.j with
    | true => show d ∈ masks anc l ↔ _; rw [ih]; simp
    | false =>
      cases hd : x.o.dst with
      | none => show d ∈ masks anc l ↔ _; rw [ih]; simp
      | some d' =>
        show d ∈ d' :: masks anc l ↔ _
        rw [List.mem_cons, ih]; simp
        constructor
        · rintro (h | h); exact .inl h.symm; exact .inr h
        · rintro (h | h); exact .inl h.symm; exact .inr h
theorem writers_spec : ∀ (l : List It) (t wt : Tr Nat), writers l t = some wt → (∀ d i, t.get d = some i → wt.get d = some i) ∧ ∀ x ∈ l, ∀ d, x.o.dst = some d → wt.get d = some x.j := by
  intro l
  induction l with
  | nil => intro t wt h; cases h; exact ⟨fun _ _ h => h, fun x hx => by cases hx⟩
  | cons x l ih =>
    intro t wt h
    have e1 : writers (x :: l) t = @Option.rec Tmp (fun _ => Option (Tr Nat)) (writers l t) (fun d => @Option.rec Nat (fun _ => Option (Tr Nat)) (writers l (t.put (some x.j) d)) (fun _ => none) (t.get d)) x.o.dst := rfl
    rw [e1] at h
    cases hd : x.o.dst with
    | none =>
      rw [hd] at h
      obtain ⟨h1, h2⟩ := ih _ _ h
      refine ⟨h1, fun y hy d hyd => ?_⟩
      cases hy with
      | head => rw [hd] at hyd; cases hyd
      | tail _ hy => exact h2 y hy d hyd
    | some d0 =>
      rw [hd] at h
      have h' : @Option.rec Nat (fun _ => Option (Tr Nat)) (writers l (t.put (some x.j) d0)) (fun _ => none) (t.get d0) = some wt := h
      cases hg : t.get d0 with
      | some _ => rw [hg] at h'; cases h'
      | none =>
        rw [hg] at h'
        obtain ⟨h1, h2⟩ := ih _ _ h'
        refine ⟨fun d i hdi => ?_, fun y hy d hyd => ?_⟩
        · refine h1 d i ?_
          rw [Tr.get_put]
          split
          · rename_i e; subst e; rw [hg] at hdi; cases hdi
          · exact hdi
        · cases hy with
          | head => rw [hd] at hyd; cases hyd; exact h1 _ _ (by rw [Tr.get_put, if_pos rfl])
          | tail _ hy => exact h2 y hy d hyd
/-- what holds of the order in which a region is reckoned -/
structure PlanOk (ops : List Oper) (nf : Nat) (σ : List Step) : Prop where
  edges : EdgesOk ops
  js : (σ.map (·.it.j)).Perm (List.range ops.length)
  item : ∀ x ∈ σ, ops[x.it.j]? = some x.it.o ∧ x.it.anc = bits ops x.it.j
  nf_le : nf ≤ σ.length
  fl : ∀ (k : Nat) (x : Step), σ[k]? = some x → k < nf → isFloat x.it = true ∧ x.late = [] ∧ x.it.mask = []
  mask : ∀ (k : Nat) (x : Step), σ[k]? = some x → nf ≤ k → ∀ d, d ∈ x.it.mask ↔ ∃ (k' : Nat) (y : Step), k' < nf ∧ σ[k']? = some y ∧ y.it.o.dst = some d ∧ bit x.it.anc y.it.j = false
  ahead : ∀ (k : Nat) (x : Step) (i : Nat), σ[k]? = some x → bit x.it.anc i = true → ∃ (k' : Nat) (y : Step), k' < k ∧ σ[k']? = some y ∧ y.it.j = i
  chain : ∀ (k k' : Nat) (x y : Step), nf ≤ k → k < k' → σ[k]? = some x → σ[k']? = some y → quiet x.it.o.op = false → bit y.it.anc x.it.j = true
  late : ∀ (k : Nat) (x : Step), nf ≤ k → σ[k]? = some x → quiet x.it.o.op = false → ∀ (k' : Nat) (y : Step), nf ≤ k' → k' < k → σ[k']? = some y → reads y.it.o.op = true → bit x.it.anc y.it.j = false → y.it ∈ x.late
  dsts : ∀ (i j : Nat) (o o' : Oper) (t : Tmp), ops[i]? = some o → ops[j]? = some o' → o.dst = some t → o'.dst = some t → i = j
  names : ∀ (i j : Nat) (o o' : Oper) (t : Tmp), ops[i]? = some o → o.dst = some t → ops[j]? = some o' → t ∈ o'.looksAt ops.toArray → i = j ∨ bit (bits ops j) i = true ∨ bit (bits ops i) j = true
  strict : ∀ x ∈ σ, ∀ y ∈ x.late, ∀ (i : Nat) (o : Oper) (t : Tmp), ops[i]? = some o → o.dst = some t → t ∈ y.o.looksAt ops.toArray → bit y.anc i = true
theorem plan_ok {ops : List Oper} {σ : List Step} (h : plan ops = some σ) : ∃ nf, PlanOk ops nf σ := by
  have e0 : plan ops = planOf ops (ancL ops []) (items ops (ancL ops []) 0) (filterB isFloat (items ops (ancL ops []) 0)) := rfl
  rw [e0] at h
  unfold planOf at h
  simp only [ob_eq, guardB_eq, allB_eq, Option.some.injEq] at h
  obtain ⟨wt, hwt, hok, r, hr, hst, rfl⟩ := h
  have hlen : ops.length = (ancL ops []).length := by rw [(ancL_spec ops []).1]; simp
  have hit : ∀ (k : Nat) (x : It), (items ops (ancL ops []) 0)[k]? = some x ↔ ∃ o, ops[k]? = some o ∧ x = ⟨k, o, bits ops k, []⟩ := by
    intro k x
    rw [items_spec ops _ 0 hlen]
    constructor
    · rintro ⟨o, b, ho, hb, rfl⟩
      rw [bits_get ho] at hb; cases hb
      exact ⟨o, ho, by simp⟩
    · rintro ⟨o, ho, rfl⟩
      exact ⟨o, _, ho, bits_get ho, by simp⟩
  generalize hits : items ops (ancL ops []) 0 = its at *
  have hmem : ∀ x ∈ its, ops[x.j]? = some x.o ∧ x.anc = bits ops x.j ∧ x.mask = [] := by
    intro x hx
    obtain ⟨k, hk⟩ := List.mem_iff_getElem?.1 hx
    obtain ⟨o, ho, rfl⟩ := (hit k x).1 hk
    exact ⟨ho, rfl, rfl⟩
  have hitem : ∀ j o, ops[j]? = some o → (⟨j, o, bits ops j, []⟩ : It) ∈ its := fun j o ho => List.mem_of_getElem? ((hit j _).2 ⟨o, ho, rfl⟩)
  have hedges : EdgesOk ops := by
    intro j o e ho he hb
    have := hok _ (hitem j o ho)
    unfold okIt at this
    have h1 := (andB_eq.1 this).1
    unfold okEdges at h1
    have h2 := allB_eq.1 h1 e he
    rw [orB_eq, notB_eq, hb] at h2
    rcases h2 with h2 | h2
    · cases h2
    · exact blt_eq.1 h2
  have hjs : its.map (·.j) = List.range ops.length := by
    apply List.ext_getElem?
    intro k
    rw [List.getElem?_map]
    by_cases hk : k < ops.length
    · rw [(hit k _).2 ⟨ops[k], List.getElem?_eq_getElem hk, rfl⟩, List.getElem?_range hk]; rfl
    · have : its[k]? = none := by
        cases hx : its[k]? with
        | none => rfl
        | some x => obtain ⟨o, ho, _⟩ := (hit k x).1 hx; exact absurd (List.getElem?_eq_some_iff.1 ho).1 hk
      rw [this, List.getElem?_eq_none (by simp; omega)]; rfl
  have htr : ∀ x ∈ its, ∀ c ∈ its, ∀ k, bit x.anc c.j = true → bit c.anc k = true → bit x.anc k = true := by
    intro x hx c hc k h1 h2
    obtain ⟨x1, x2, _⟩ := hmem x hx
    obtain ⟨c1, c2, _⟩ := hmem c hc
    rw [x2] at h1 ⊢
    rw [c2] at h2
    exact bits_trans hedges x.j x.o c.j k x1 h1 h2
  rw [filterB_eq, filterB_eq, mapL_eq] at hr
  rw [filterB_eq, app_eq]
  have G := passes_spec _ _ _ _ _ _ (by
    intro x hx c hc
    obtain ⟨x', hx', rfl⟩ := List.mem_map.1 hx
    obtain ⟨c', hc', rfl⟩ := List.mem_map.1 hc
    exact htr x' (List.mem_filter.1 hx').1 c' (List.mem_filter.1 hc').1) hr
  generalize hfl : its.filter isFloat = fl at *
  have hflm : ∀ x ∈ fl, x ∈ its ∧ isFloat x = true := fun x hx => by rw [← hfl] at hx; exact List.mem_filter.1 hx
  have hpl : ∀ (k : Nat) (x : Step), (plainSteps fl)[k]? = some x → fl[k]? = some x.it ∧ x.late = [] := by
    intro k x hk
    unfold plainSteps at hk
    rw [mapL_eq, List.getElem?_map] at hk
    cases hg : fl[k]? with
    | none => rw [hg] at hk; cases hk
    | some y => rw [hg] at hk; cases hk; exact ⟨rfl, rfl⟩
  have hpl' : ∀ (k : Nat) (x : It), fl[k]? = some x → (plainSteps fl)[k]? = some ⟨x, []⟩ := by
    intro k x hk; unfold plainSteps; rw [mapL_eq, List.getElem?_map, hk]; rfl
  have hlenp : (plainSteps fl).length = fl.length := by unfold plainSteps; rw [mapL_eq]; simp
  have pos : ∀ (k : Nat) (x : Step), (plainSteps fl ++ r)[k]? = some x → (k < fl.length ∧ (plainSteps fl)[k]? = some x) ∨ ∃ k2, k = fl.length + k2 ∧ r[k2]? = some x := by
    intro k x hk
    by_cases hlt : k < fl.length
    · rw [List.getElem?_append_left (by rw [hlenp]; exact hlt)] at hk; exact .inl ⟨hlt, hk⟩
    · rw [List.getElem?_append_right (by rw [hlenp]; omega), hlenp] at hk
      exact .inr ⟨k - fl.length, by omega, hk⟩
  have at0 : ∀ (k : Nat) (x : Step), (plainSteps fl)[k]? = some x → (plainSteps fl ++ r)[k]? = some x := by
    intro k x hk
    rw [List.getElem?_append_left (List.getElem?_eq_some_iff.1 hk).1]; exact hk
  have at2 : ∀ (k : Nat) (x : Step), r[k]? = some x → (plainSteps fl ++ r)[fl.length + k]? = some x := by
    intro k x hk
    rw [List.getElem?_append_right (by rw [hlenp]; omega), hlenp, show fl.length + k - fl.length = k by omega]; exact hk
  have hrm : ∀ x ∈ r, ∃ y ∈ its, isFloat y = false ∧ x.it = withMask fl y := by
    intro x hx
    have := G.perm.mem_iff.1 (List.mem_map_of_mem (f := (·.it)) hx)
    obtain ⟨y, hy, e⟩ := List.mem_map.1 this
    obtain ⟨h1, h2⟩ := List.mem_filter.1 hy
    rw [notB_eq] at h2
    exact ⟨y, h1, by simpa using h2, e.symm⟩
  have hown : ∀ x ∈ its, ∀ d, x.o.dst = some d → wt.get d = some x.j := (writers_spec _ _ _ hwt).2
  refine ⟨fl.length, hedges, ?_, ?_, ?_, ?_, ?_, ?_, ?_, ?_, ?_, ?_, ?_⟩
  · rw [← hjs]
    have e1 : (plainSteps fl ++ r).map (·.it.j) = (fl ++ r.map (·.it)).map (·.j) := by
      rw [List.map_append, List.map_append, List.map_map]
      congr 1
      unfold plainSteps; rw [mapL_eq, List.map_map]; rfl
    rw [e1]
    have p1 : (fl ++ r.map (·.it)).Perm (fl ++ (its.filter fun x => notB (isFloat x)).map (withMask fl)) := G.perm.append_left fl
    refine (p1.map _).trans ?_
    rw [List.map_append, List.map_map]
    have e2 : ((·.j) ∘ withMask fl : It → Nat) = (·.j) := rfl
    rw [e2, ← List.map_append, ← hfl]
    refine List.Perm.map _ ?_
    have : (fun x => notB (isFloat x)) = fun x => !(isFloat x) := by funext x; exact notB_eq _
    rw [this]
    exact List.filter_append_perm isFloat its
  · intro x hx
    rcases List.mem_append.1 hx with hx | hx
    · obtain ⟨k, hk⟩ := List.mem_iff_getElem?.1 hx
      have := hmem _ (hflm _ (List.mem_of_getElem? (hpl k x hk).1)).1
      exact ⟨this.1, this.2.1⟩
    · obtain ⟨y, hy, _, e⟩ := hrm x hx
      rw [e]
      exact ⟨(hmem y hy).1, (hmem y hy).2.1⟩
  · rw [List.length_append, hlenp]; omega
  · intro k x hk hlt
    rcases pos k x hk with ⟨_, hk0⟩ | ⟨k2, rfl, _⟩
    · have := hflm _ (List.mem_of_getElem? (hpl k x hk0).1)
      exact ⟨this.2, (hpl k x hk0).2, (hmem _ this.1).2.2⟩
    · omega
  · intro k x hk hle d
    rcases pos k x hk with ⟨_, hk0⟩ | ⟨k2, rfl, hk2⟩
    · omega
    · obtain ⟨y, hy, _, e⟩ := hrm x (List.mem_of_getElem? hk2)
      rw [e]
      show d ∈ masks y.anc fl ↔ _
      rw [masks_spec]
      constructor
      · rintro ⟨z, hz, h1, h2⟩
        obtain ⟨k', hk'⟩ := List.mem_iff_getElem?.1 hz
        exact ⟨k', ⟨z, []⟩, (List.getElem?_eq_some_iff.1 hk').1, at0 _ _ (hpl' k' z hk'), h1, h2⟩
      · rintro ⟨k', z, hlt, hz, h1, h2⟩
        rcases pos k' z hz with ⟨_, hk0⟩ | ⟨k3, rfl, _⟩
        · exact ⟨z.it, List.mem_of_getElem? (hpl k' z hk0).1, h1, h2⟩
        · omega
  · intro k x i hk hi
    rcases pos k x hk with ⟨_, hk0⟩ | ⟨k2, rfl, hk2⟩
    · exfalso
      have hf := (hflm _ (List.mem_of_getElem? (hpl k x hk0).1)).2
      unfold isFloat at hf
      simp only [andB_eq, beq_eq] at hf
      rw [hf.2.1, bit_zero] at hi; cases hi
    · rcases G.ahead k2 x hk2 i hi with h1 | ⟨k', y, hlt, hy, hj⟩
      · rw [doneOf_spec] at h1
        obtain ⟨z, hz, hj⟩ := h1
        obtain ⟨k', hk'⟩ := List.mem_iff_getElem?.1 hz
        exact ⟨k', ⟨z, []⟩, by have := (List.getElem?_eq_some_iff.1 hk').1; omega, at0 _ _ (hpl' k' z hk'), hj⟩
      · exact ⟨fl.length + k', y, by omega, at2 _ _ hy, hj⟩
  · intro k k' x y hnk hlt hk hk' hq
    rcases pos k x hk with ⟨_, _⟩ | ⟨k2, rfl, hk2⟩
    · omega
    · rcases pos k' y hk' with ⟨_, _⟩ | ⟨k3, rfl, hk3⟩
      · omega
      · exact G.chain k2 k3 x y (by omega) hk2 hk3 hq
  · intro k x hnk hk hq k' y hnk' hlt hk' hre hnb
    rcases pos k x hk with ⟨_, _⟩ | ⟨k2, rfl, hk2⟩
    · omega
    · rcases pos k' y hk' with ⟨_, _⟩ | ⟨k3, rfl, hk3⟩
      · omega
      · exact G.late k2 x hk2 hq y.it (.inr ⟨k3, y, by omega, hk3, rfl⟩) hre hnb
  · intro i j o o' t hi hj h1 h2
    have e1 := hown _ (hitem i o hi) t h1
    have e2 := hown _ (hitem j o' hj) t h2
    rw [e1] at e2; exact Option.some.inj e2
  · intro i j o o' t hi h1 hj ht
    have e1 := hown _ (hitem i o hi) t h1
    have hk := hok _ (hitem j o' hj)
    unfold okIt at hk
    obtain ⟨_, hk⟩ := andB_eq.1 hk
    obtain ⟨hg, ho⟩ := andB_eq.1 hk
    have fin : okTmp (ancL ops []) wt ⟨j, o', bits ops j, []⟩ t = true → i = j ∨ bit (bits ops j) i = true ∨ bit (bits ops i) j = true := by
      intro hq
      unfold okTmp at hq
      rw [e1] at hq
      have hq' : orB (Nat.beq i j) (orB (bit (bits ops j) i) (@Option.rec Nat (fun _ => Bool) false (fun b => bit b j) (nth (ancL ops []) i))) = true := hq
      rw [orB_eq, orB_eq, beq_eq, nth_eq, bits_get hi] at hq'
      exact hq'
    unfold Oper.looksAt at ht
    rw [List.mem_append] at ht
    rcases ht with ht | ht
    · obtain ⟨y, hy, e⟩ := List.mem_filterMap.1 ht
      have := allB_eq.1 ho y hy
      cases y <;> simp at e
      subst e
      exact fin this
    · cases hgd : o'.guard with
      | none => rw [hgd] at ht; simp at ht
      | some q =>
        rw [hgd] at ht
        have ht' : t ∈ ((ops.toArray[q.1]?).bind (·.dst)).toList := ht
        rw [List.getElem?_toArray] at ht'
        cases ho2 : ops[q.1]? with
        | none => rw [ho2] at ht'; simp at ht'
        | some y =>
          rw [ho2] at ht'
          have hd : y.dst = some t := by
            cases hyd : y.dst with
            | none => simp [hyd] at ht'
            | some d => simp [hyd] at ht'; rw [ht']
          unfold okGuard at hg
          have hg' : @Option.rec (Nat × Bool) (fun _ => Bool) true (fun q => @Option.rec Oper (fun _ => Bool) true (fun y => @Option.rec Tmp (fun _ => Bool) true (fun d => okTmp (ancL ops []) wt ⟨j, o', bits ops j, []⟩ d) y.dst) (nth ops q.1)) o'.guard = true := hg
          rw [hgd] at hg'
          have hg2 : @Option.rec Oper (fun _ => Bool) true (fun y => @Option.rec Tmp (fun _ => Bool) true (fun d => okTmp (ancL ops []) wt ⟨j, o', bits ops j, []⟩ d) y.dst) (nth ops q.1) = true := hg'
          rw [nth_eq, ho2] at hg2
          have hg3 : @Option.rec Tmp (fun _ => Bool) true (fun d => okTmp (ancL ops []) wt ⟨j, o', bits ops j, []⟩ d) y.dst = true := hg2
          rw [hd] at hg3
          exact fin hg3
  · intro x hx y hy i o t hi h1 ht
    have e1 := hown _ (hitem i o hi) t h1
    have hk : stIt wt ops y = true := by
      rcases List.mem_append.1 hx with hx | hx
      · exfalso
        obtain ⟨k, hk⟩ := List.mem_iff_getElem?.1 hx
        rw [(hpl k x hk).2] at hy; cases hy
      · exact hst x hx y hy
    unfold stIt at hk
    obtain ⟨hg, ho⟩ := andB_eq.1 hk
    have fin : stTmp wt y t = true → bit y.anc i = true := by
      intro hq
      unfold stTmp at hq
      rw [e1] at hq
      exact hq
    unfold Oper.looksAt at ht
    rw [List.mem_append] at ht
    rcases ht with ht | ht
    · obtain ⟨z, hz, e⟩ := List.mem_filterMap.1 ht
      have := allB_eq.1 ho z hz
      cases z <;> simp at e
      subst e
      exact fin this
    · cases hgd : y.o.guard with
      | none => rw [hgd] at ht; simp at ht
      | some q =>
        rw [hgd] at ht
        have ht' : t ∈ ((ops.toArray[q.1]?).bind (·.dst)).toList := ht
        rw [List.getElem?_toArray] at ht'
        cases ho2 : ops[q.1]? with
        | none => rw [ho2] at ht'; simp at ht'
        | some z =>
          rw [ho2] at ht'
          have hd : z.dst = some t := by
            cases hyd : z.dst with
            | none => simp [hyd] at ht'
            | some d => simp [hyd] at ht'; rw [ht']
          have hg' : @Option.rec (Nat × Bool) (fun _ => Bool) true (fun q => @Option.rec Oper (fun _ => Bool) true (fun y' => @Option.rec Tmp (fun _ => Bool) true (fun d => stTmp wt y d) y'.dst) (nth ops q.1)) y.o.guard = true := hg
          rw [hgd] at hg'
          have hg2 : @Option.rec Oper (fun _ => Bool) true (fun y' => @Option.rec Tmp (fun _ => Bool) true (fun d => stTmp wt y d) y'.dst) (nth ops q.1) = true := hg'
          rw [nth_eq, ho2] at hg2
          have hg3 : @Option.rec Tmp (fun _ => Bool) true (fun d => stTmp wt y d) z.dst = true := hg2
          rw [hd] at hg3
          exact fin hg3
end Go.Proofs.YtemkiobojboceaaGreat.Ev
