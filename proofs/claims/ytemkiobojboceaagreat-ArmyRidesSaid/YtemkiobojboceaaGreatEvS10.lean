/- What the small machine's operations come to, the program's come to: maps gone through; conversions; the builtins. No conditions: over any program. -/
import Derived.Test.YtemkiobojboceaaGreatEvS9
namespace Go.Proofs.YtemkiobojboceaaGreat.Ev
open Go Go.RowKit
set_option linter.unusedSimpArgs false
set_option linter.unusedVariables false

section iter
variable {E : Env} {ρ : Nat → Loc} {env : Nat → Value} {nx : Nat}
theorem iterObj {P : Program} {h : H} {w : World} (R : Rel P ρ env nx h w) {r : Nat} {m : Option Nat} {s t : Nat} {l : List Nat} (hr : h.get r = some (.iter m s l t)) : w.heap[(ρ r).b]? = some (.mapIter (m.map fun r => (ρ r).b) s l.toArray t) ∧ ∀ r, m = some r → On ρ nx r := (R.obj r _ hr).2
theorem leftOf_filter {seen : List Nat} : ∀ {es : List Ent} {xs : List MapEntry}, EntsR ρ env nx es xs → EntsR ρ env nx (leftOf seen es) (xs.filter fun e => !seen.toArray.contains e.born) := by
  intro es
  induction es with
  | nil => intro xs h; cases h; exact .nil
  | cons e es ih =>
    intro xs h
    cases h with
    | @cons _ x _ xs hx t =>
      have e1 : leftOf seen (e :: es) = @Bool.rec (fun _ => List Ent) (e :: leftOf seen es) (leftOf seen es) (anyB (fun b => Nat.beq b e.2.2) seen) := rfl
      rw [e1, List.filter_cons]
      have hc : anyB (fun b => Nat.beq b e.2.2) seen = seen.toArray.contains x.born := by
        rw [hx.2.2]
        rw [Bool.eq_iff_iff, anyB_eq]
        simp only [beq_eq, List.contains_toArray, List.contains_iff_mem, exists_eq_right]
      rw [hc]
      cases seen.toArray.contains x.born
      · simp only [Bool.not_false, if_true]; exact .cons hx (ih t)
      · simp only [Bool.not_true, Bool.false_eq_true, if_false]; exact ih t
theorem lawNext (it : Operand) (str : Bool) : Law E (oNext it str) (.next it str) := by
  intro F g h h' nx nx' v ρ env a w d ty pos aft gd hf hg R
  simp only [oNext, guardB_eq, notB_eq, ob_eq] at hf
  obtain ⟨hs, u, hu, hf⟩ := hf
  have hs' : str = false := by simpa using hs
  subst hs'
  unfold evNext at hf
  simp only [onP_eq, guardB_eq, beq_eq, onIter_eq] at hf
  obtain ⟨q, o, rfl, rfl, m, since, seen, last, hq, hf⟩ := hf
  have hx := val_vr hu hg
  generalize hxe : a.eval it = xv at hx
  obtain ⟨hio, hml⟩ := iterObj R hq
  cases hx with
  | p hlt =>
    cases m with
    | none =>
      have hf' : out (.tup [.b false]) h nx = some (v, h', nx') := hf
      rw [out_eq] at hf'
      obtain ⟨rfl, rfl, rfl⟩ := hf'
      refine ⟨ρ, .tuple #[.bool false], w, yv ?_, .tup (.cons .b .nil), Goes.refl R⟩
      simp only [Option.map_none] at hio
      simp only [execOp, Instr.next, hxe, Sem.run_bind, run_getObj_iter hio, Result.andThen_ok, Sem.run_pure]
    | some r =>
      have hf' : (onMap h r fun es clock => guardB (andB (Nat.beq since clock) (andB (Nat.beq last clock) (allB (fun e => Nat.blt e.2.2 clock) es))) (nextOf q r since clock seen h nx (leftOf seen es))) = some (v, h', nx') := hf
      simp only [onMap_eq, guardB_eq, andB_eq, beq_eq, allB_eq, blt_eq] at hf'
      obtain ⟨es, clock, hr, ⟨rfl, rfl, hall⟩, hf'⟩ := hf'
      obtain ⟨es', ho, hes⟩ := mapObj R hr
      have hL := leftOf_filter (seen := seen) hes
      simp only [Option.map_some] at hio
      have hall' : ∀ x ∈ es'.toList, x.born < last := by
        intro x hx
        obtain ⟨j, hj⟩ := List.mem_iff_getElem?.1 hx
        have hjl : j < es.length := by rw [hes.length]; exact (List.getElem?_eq_some_iff.1 hj).1
        obtain ⟨y, hy, hyr⟩ := hes.get j es[j] (List.getElem?_eq_getElem hjl)
        rw [hj] at hy; cases hy
        rw [hyr.2.2]; exact hall _ (List.getElem_mem hjl)
      have hcond : (!seen.toArray.isEmpty && !es'.isEmpty && es'.all (fun e => e.born ≥ last)) = false := by
        rw [← Bool.not_eq_true]
        intro hh
        simp only [Bool.and_eq_true] at hh
        obtain ⟨⟨_, h2⟩, h3⟩ := hh
        cases hel : es'.toList with
        | nil =>
          have : es' = #[] := by cases es'; simp at hel; subst hel; rfl
          subst this; simp at h2
        | cons x xs =>
          have hmem : x ∈ es'.toList := by rw [hel]; exact .head _
          have := hall' x hmem
          rw [Array.all_eq_true_iff_forall_mem] at h3
          have h4 := h3 x (by simpa using hmem)
          simp at h4; omega
      have hold : ((es'.filter fun e => !seen.toArray.contains e.born).filter fun e => e.born < last) = es'.filter fun e => !seen.toArray.contains e.born := by
        rw [Array.filter_eq_self]
        intro x hx
        have := hall' x (by simpa using (Array.mem_filter.1 hx).1)
        simpa using this
      have hnew : ((es'.filter fun e => !seen.toArray.contains e.born).filter fun e => e.born ≥ last) = #[] := by
        rw [Array.filter_eq_empty_iff]
        intro x hx
        have := hall' x (by simpa using (Array.mem_filter.1 hx).1)
        simp; omega
      have hfl : (es'.filter fun e => !seen.toArray.contains e.born).toList = es'.toList.filter fun e => !seen.toArray.contains e.born := by simp
      rw [← hfl] at hL
      generalize hle : es'.filter (fun e => !seen.toArray.contains e.born) = left at *
      cases hlo : leftOf seen es with
      | nil =>
        rw [hlo] at hL hf'
        have hf2 : out (.tup [.b false]) h nx = some (v, h', nx') := hf'
        rw [out_eq] at hf2
        obtain ⟨rfl, rfl, rfl⟩ := hf2
        have hl0 : left = #[] := by
          generalize hll : left.toList = ll at hL
          cases hL; cases left; simp at hll; subst hll; rfl
        refine ⟨ρ, .tuple #[.bool false], w, yv ?_, .tup (.cons .b .nil), Goes.refl R⟩
        simp only [execOp, Instr.next, hxe, Sem.run_bind, run_getObj_iter hio, Result.andThen_ok, run_getObj_map ho, hcond, Bool.false_eq_true, if_false, hle, hold, hnew, hl0]
        simp [choose, Sem.run, Question.forced]
      | cons e1 rest =>
        rw [hlo] at hL hf'
        cases rest with
        | cons _ _ => cases hf'
        | nil =>
          have hf2 : guardB (Nat.blt e1.2.2 last) (out (.tup [.b true, e1.1, e1.2.1]) (h.put (some (.iter (some r) last (snoc seen e1.2.2) last)) q) nx) = some (v, h', nx') := hf'
          simp only [guardB_eq, out_eq] at hf2
          obtain ⟨hbl, rfl, rfl, rfl⟩ := hf2
          generalize hll : left.toList = ll at hL
          cases hL with
          | @cons _ x _ xs hx ht =>
            cases ht
            have hl1 : left = #[x] := by cases left; simp at hll; subst hll; rfl
            have hxl : x.born < last := by rw [hx.2.2]; exact blt_eq.1 hbl
            have hxl' : ¬ last ≤ x.born := by omega
            have hput := R.put (w' := World.setO w (ρ q).b (.mapIter (some (ρ r).b) last (seen.toArray.push x.born) last)) (o' := .iter (some r) last (snoc seen e1.2.2) last) hq (keep_setO _ _ _) ⟨by
              rw [setO_same (R.obj q _ hq).2.lt]
              rw [snoc_eq, hx.2.2]; simp, fun r' e => hml r' e⟩
            refine ⟨ρ, .tuple #[.bool true, x.key, x.val], _, yv ?_, .tup (.cons .b (.cons hx.1 (.cons hx.2.1 .nil))), hput⟩
            simp only [execOp, Instr.next, hxe, Sem.run_bind, run_getObj_iter hio, Result.andThen_ok, run_getObj_map ho, hcond, Bool.false_eq_true, if_false, hle, hold, hnew, hl1]
            simp [choose, Sem.run, Question.forced, run_setObj_iter hio, hxl, hxl']
theorem lastOf_eq (l : List Nat) : lastOf l = l.getLast? := by
  induction l with
  | nil => rfl
  | cons x l ih =>
    have e : lastOf (x :: l) = @Option.rec Nat (fun _ => Option Nat) (some x) (fun y => some y) (lastOf l) := rfl
    rw [e, ih]
    cases l with
    | nil => rfl
    | cons y l => rw [List.getLast?_cons_cons]; cases h : (y :: l).getLast? with
      | none => simp at h
      | some z => rfl
theorem findB_spec {b : Nat} : ∀ {es : List Ent} {xs : List MapEntry} {p : V × V}, findB b es = some p → EntsR ρ env nx es xs → ∃ x, xs.find? (fun e => e.born == b) = some x ∧ VR ρ env nx p.1 x.key ∧ VR ρ env nx p.2 x.val := by
  intro es
  induction es with
  | nil => intro xs p h _; cases h
  | cons e es ih =>
    intro xs p h hr
    cases hr with
    | @cons _ x _ xs hx t =>
      have e1 : findB b (e :: es) = @Bool.rec (fun _ => Option (V × V)) (findB b es) (some (e.1, e.2.1)) (Nat.beq e.2.2 b) := rfl
      rw [e1] at h
      by_cases hb : e.2.2 = b
      · rw [beq_eq.2 hb] at h
        cases h
        exact ⟨x, by simp [hx.2.2, hb], hx.1, hx.2.1⟩
      · rw [beq_ne hb] at h
        obtain ⟨y, hy, h1, h2⟩ := ih h t
        exact ⟨y, by rw [List.find?_cons]; have : (x.born == b) = false := by rw [hx.2.2]; simpa using hb
                     rw [this]; exact hy, h1, h2⟩
theorem lawEntry (it : Operand) : Law E (oEntry it) (.entry it) := by
  intro F g h h' nx nx' v ρ env a w d ty pos aft gd hf hg R
  simp only [oEntry, ob_eq] at hf
  obtain ⟨u, hu, hf⟩ := hf
  unfold evEntry at hf
  simp only [onP_eq, guardB_eq, beq_eq, onIter_eq, ob_eq, onMap_eq, out_eq] at hf
  obtain ⟨q, o, rfl, rfl, m, since, seen, last, hq, r, rfl, es, clock, hr, rfl, b, hb, p, hp, rfl, rfl, rfl⟩ := hf
  have hx := val_vr hu hg
  generalize hxe : a.eval it = xv at hx
  obtain ⟨hio, hml⟩ := iterObj R hq
  cases hx with
  | p hlt =>
    obtain ⟨es', ho, hes⟩ := mapObj R hr
    obtain ⟨x, hx, h1, h2⟩ := findB_spec hp hes
    simp only [Option.map_some] at hio
    rw [lastOf_eq] at hb
    have hb' : seen.toArray.back? = some b := by rw [← hb]; simp
    have hx' : es'.find? (fun e => e.born == b) = some x := by rw [← hx]; simp
    refine ⟨ρ, .tuple #[x.key, x.val], w, yv ?_, .tup (.cons h1 (.cons h2 .nil)), Goes.refl R⟩
    simp [execOp, Instr.entry, hxe, Sem.run_bind, run_getObj_iter hio, run_getObj_map ho, hb', hx']
end iter
end Go.Proofs.YtemkiobojboceaaGreat.Ev
