/- Out of the small machine's reckoning: what a call comes to. No conditions: over any program. -/
import Derived.Test.YtemkiobojboceaaGreatEvS16
import Derived.Test.YtemkiobojboceaaGreatEvK3
import Derived.Laws.Externs
import Derived.Below
import Derived.Carry
import Derived.WideShapes
namespace Go.Proofs.YtemkiobojboceaaGreat.Ev
open Go Go.RowKit
set_option linter.unusedSimpArgs false
set_option linter.unusedVariables false

def flatFieldsB (P : Program) : List Field → Nat → Bool
  | [], _ => true
  | f :: l, j => !(f.name == "_") && f.offset == j && (match P.underlying f.type with | some (.int _) => true | _ => false) && flatFieldsB P l (j + 1)
theorem flatFields_of {P : Program} : ∀ (l : List Field) (j : Nat), flatFieldsB P l j = true → flatFields P l j := by
  intro l
  induction l with
  | nil => intro j _; trivial
  | cons f l ih =>
    intro j h
    simp only [flatFieldsB, Bool.and_eq_true, Bool.not_eq_true', beq_iff_eq] at h
    obtain ⟨⟨⟨h1, h2⟩, h3⟩, h4⟩ := h
    refine ⟨by simpa using h1, h2, ?_, ih _ h4⟩
    split at h3
    · rename_i k hk; exact ⟨k, hk⟩
    · cases h3
theorem flatOk_of {P : Program} {t : TypeId} {n : Nat} (h1 : P.underlying t = some (.struct (P.fieldsOf t))) (h2 : flatFieldsB P (P.fieldsOf t).toList 0 = true) (h3 : (P.fieldsOf t).toList.length = n) (h4 : P.stoodInHeld t = false) (h5 : P.eqGuardType P.depth t = false) : FlatOk P t n :=
  ⟨h1, flatFields_of _ _ h2, h3, h4, h5⟩
theorem names_of {P : Program} (h : (P.funcs.toList.all fun fn => !(fn.name == "runtime.NumGoroutine")) = true) : ∀ (f : FuncId) (fn : Func), P.funcs[f]? = some fn → fn.name ≠ "runtime.NumGoroutine" := by
  intro f fn hf
  have := List.all_eq_true.1 h fn (Array.mem_toList_iff.2 (Array.mem_of_getElem? hf))
  simpa using this
theorem add64_of {P : Program} {f : FuncId} (hN : (P.funcs.toList.all fun fn => !(fn.name == "runtime.NumGoroutine")) = true) (h1 : (P.funcs[f]?).bind Extern.find = some add64Entry) (h2 : (P.funcs[f]?).map (·.body.isNone) = some true) (h3 : (P.funcs[f]?).map (fun fn => (Extern.findNext fn).isNone) = some true) :
    ∃ fn, P.funcs[f]? = some fn ∧ fn.body = none ∧ ∀ (x y c : Nat) (w : World), c ≤ 1 → (callFunc f #[.int .u64 x, .int .u64 y, .int .u64 c]).run P w = .ok (.value (.tuple #[.int .u64 (((x + y + c) % 18446744073709551616 : Nat) : Int), .int .u64 (((x + y + c) / 18446744073709551616 : Nat) : Int)])) w := by
  cases hf : P.funcs[f]? with
  | none => rw [hf] at h1; cases h1
  | some fn =>
    rw [hf] at h1 h2 h3
    have hn := names_of hN f fn hf
    have h1' : Extern.find fn = some add64Entry := h1
    have h2' : fn.body = none := by simpa using h2
    have h3' : Extern.findNext fn = none := by simpa using h3
    refine ⟨fn, rfl, h2', fun x y c w hc => ?_⟩
    have hrun := run_add64 (P := P) (x : Int) y c (by omega) (by omega) (by omega) (by omega) w
    simp [callFunc, hf, hn, h2', h3', h1', hrun]
theorem tells_eq {o : Out} (h : tells o = true) : ∃ h' nx', o = some (.b true, h', nx') := by
  unfold tells at h
  rw [orF_eq] at h
  simp only [ob_eq, onB_eq, Option.some.injEq] at h
  obtain ⟨⟨v, h', nx'⟩, rfl, b, hb, rfl⟩ := h
  have hb' : v = .b true := hb
  subst hb'
  exact ⟨h', nx', rfl⟩
/-- A LAW THAT IS RECKONED TO BE TRUE RETURNS TRUE, and leaves what was there. -/
theorem law_calls {E : Env} (hE : EnvOk E) {n : Nat} {f : FuncId} {fn : Func} {args : List V} {env : Nat → Value} {xs : Array Value} (hf : E.P.funcs[f]? = some fn) (hb : fn.body.isSome = true) (ht : tells ((fns E n).call f args .nil 0) = true)
    (hv : VRs (fun _ => ⟨0, 0, 0, false⟩) env 0 args xs.toList) (w : World) : Calls E.P f xs w (fun e w' => e = .returned (.bool true) ∧ Below w.heap.size w w') := by
  obtain ⟨h', nx', he⟩ := tells_eq ht
  have hnil : ∀ r, (Tr.nil : H).get r = none := fun _ => rfl
  have R : Rel E.P (fun _ => ⟨0, 0, 0, false⟩) env 0 .nil w := ⟨fun r o h => (by rw [hnil] at h; cases h), fun r r' o o' h => (by rw [hnil] at h; cases h)⟩
  rcases (fns_ok hE n).2 he hv R with ⟨_, h2⟩ | ⟨ρ', x, w', h1, _, _⟩
  · refine h2.mono ?_
    rintro e w' ⟨ρ', x, rfl, hx, hg⟩
    cases hx
    have hno : ∀ b, ¬ Rows (fun _ => (⟨0, 0, 0, false⟩ : Loc)) (.nil : H) b := by rintro b ⟨r, o, ho, _⟩; rw [hnil] at ho; cases ho
    exact ⟨rfl, hg.keep.os, hg.keep.tape, hg.keep.output, hg.keep.size, fun k hk => hg.keep.block k hk (hno k)⟩
  · exfalso
    have hn := hE.names f fn hf
    have : (callFunc f xs).run E.P w = .ok (.enter f xs) w := by simp [callFunc, hf, hn, Option.isSome_iff_ne_none.1 hb]
    rw [this] at h1
    cases h1
theorem cell_one {P : Program} {w : World} {r : Reach} {base : Nat} {t : TypeId} {v : Value} (h : Cell.okWide P w r base t v) : v.oneCell' = true := by
  cases v <;> first | rfl | skip
  all_goals
    exfalso
    unfold Cell.okWide Cell.ok at h
    cases hu : P.underlying t with
    | none => rw [hu] at h; exact h
    | some d => rw [hu] at h; cases d <;> exact h
theorem struct_one {P : Program} {w : World} {r : Reach} {base : Nat} {t : TypeId} {v : Value} {fs : Array Field} (ht : P.underlying t = some (.struct fs)) (h : Value.okWide P w r base t v) : ∃ cs, v = .agg cs ∧ cs.size = P.cellsOf t ∧ ∀ x ∈ cs.toList, x.oneCell' = true := by
  simp only [Value.okWide, ht] at h
  obtain ⟨cs, h1, h2, ts, _, _, h3⟩ := h
  refine ⟨cs, h1, h2, fun x hx => ?_⟩
  obtain ⟨j, hj⟩ := List.mem_iff_getElem?.1 hx
  rw [Array.getElem?_toList] at hj
  obtain ⟨u, _, hu⟩ := h3 j x hj
  exact cell_one hu
theorem cell_slice {P : Program} {w : World} {r : Reach} {base : Nat} {t e : TypeId} {v : Value} (ht : P.underlying t = some (.slice e)) (h : Cell.okWide P w r base t v) : ∃ a n k, v = .slice a n k := by
  unfold Cell.okWide Cell.ok at h
  rw [ht] at h
  cases v <;> first | exact ⟨_, _, _, rfl⟩ | exact h.elim
theorem struct_cells {P : Program} {w : World} {r : Reach} {base : Nat} {t : TypeId} {v : Value} {fs : Array Field} {ts : List TypeId} (ht : P.underlying t = some (.struct fs)) (hts : P.cellTypes P.depth t = some ts) (h : Value.okWide P w r base t v) :
    ∃ cs, v = .agg cs ∧ cs.size = P.cellsOf t ∧ (∀ x ∈ cs.toList, x.oneCell' = true) ∧ ∀ (i : Nat) (x : Value), cs[i]? = some x → ∃ u, ts[i % ts.length]? = some u ∧ Cell.okWide P w r base u x := by
  simp only [Value.okWide, ht] at h
  obtain ⟨cs, h1, h2, ts', h4, _, h3⟩ := h
  rw [hts] at h4
  cases h4
  refine ⟨cs, h1, h2, fun x hx => ?_, h3⟩
  obtain ⟨j, hj⟩ := List.mem_iff_getElem?.1 hx
  rw [Array.getElem?_toList] at hj
  obtain ⟨u, _, hu⟩ := h3 j x hj
  exact cell_one hu
end Go.Proofs.YtemkiobojboceaaGreat.Ev
