/- The law ArmyRides: what the kernel has reckoned, said of every input. -/
import Derived.Test.YtemkiobojboceaaGreatRows
import Derived.Test.YtemkiobojboceaaGreatEvReck
import Derived.Test.YtemkiobojboceaaGreatEvS17
import Derived.WalkKit
import Derived.ProofKit
import Derived.OpenShut
namespace Go.Proofs.YtemkiobojboceaaGreat.armyRides
open Go Go.ChangeShapes Go.WideShapes Go.ChangeAt Go.RowKit Go.Proofs Go.Proofs.YtemkiobojboceaaGreat.Ev
set_option linter.unusedVariables false

theorem own : ownKnob Tryz.prog.godebug = none := by kernel_rfl
theorem laid : laidOutB Tryz.prog = true := by kernel_rfl
theorem named : (Tryz.prog.funcs.toList.all fun fn => !(fn.name == "runtime.NumGoroutine")) = true := by kernel_rfl
theorem flat34 : FlatOk Tryz.prog 34 2 := flatOk_of (by kernel_rfl) (by kernel_rfl) (by kernel_rfl) (by kernel_rfl) (by kernel_rfl)
theorem flat107 : FlatOk Tryz.prog 107 2 := flatOk_of (by kernel_rfl) (by kernel_rfl) (by kernel_rfl) (by kernel_rfl) (by kernel_rfl)
theorem machineOk : EnvOk M where
  mixed := by kernel_rfl
  flat := by
    intro t ht
    by_cases h1 : t = 34
    · subst h1; exact flat34
    · by_cases h2 : t = 107
      · subst h2; exact flat107
      · exfalso
        have e : M.flat t = 0 := by
          show @Bool.rec (fun _ => Nat) 0 2 (orB (Nat.beq t 34) (Nat.beq t 107)) = 0
          rw [beq_ne h1, beq_ne h2]; rfl
        omega
  names := names_of named
  add64 := by
    intro f hf
    have e : f = 132 := beq_eq.1 hf
    subst e
    exact add64_of named (by kernel_rfl) (by kernel_rfl) (by kernel_rfl)
theorem handed {cs : Array Value} (hs : cs.size = 11) (h1 : ∀ x ∈ cs.toList, x.oneCell' = true) {a : Option Addr} {n k : Nat} (h8 : cs[8]? = some (.slice a n k)) :
    VRs (fun _ => ⟨0, 0, 0, false⟩) (fun j => cs.getD j undef) 0 [.far 0 0 0, .far 1 0 0, .far 2 0 0, .far 3 0 0, .far 4 0 0, .far 5 0 0, .far 6 0 0, .far 7 0 0, .far 8 n 1, .far 9 0 0, .far 10 0 0] cs.toList := by
  have far0 : ∀ j, j < 11 → ∃ x, cs.toList[j]? = some x ∧ VR (fun _ => ⟨0, 0, 0, false⟩) (fun j => cs.getD j undef) 0 (.far j 0 0) x := by
    intro j hj
    have hlt : j < cs.size := by omega
    have hx : cs.toList[j]? = some cs[j] := by rw [Array.getElem?_toList, Array.getElem?_eq_getElem hlt]
    exact ⟨_, hx, .far (by simp [hlt]) (h1 _ (List.mem_of_getElem? hx)) (fun e => by cases e)⟩
  refine VRs.of_get (by simp [hs]) ?_
  intro j v hj
  match j with
  | 0 => cases hj; exact far0 0 (by omega)
  | 1 => cases hj; exact far0 1 (by omega)
  | 2 => cases hj; exact far0 2 (by omega)
  | 3 => cases hj; exact far0 3 (by omega)
  | 4 => cases hj; exact far0 4 (by omega)
  | 5 => cases hj; exact far0 5 (by omega)
  | 6 => cases hj; exact far0 6 (by omega)
  | 7 => cases hj; exact far0 7 (by omega)
  | 8 => cases hj; exact ⟨_, by rw [Array.getElem?_toList]; exact h8, .far (by simp [Array.getD_eq_getD_getElem?, h8]) rfl (fun _ => ⟨a, k, rfl⟩)⟩
  | 9 => cases hj; exact far0 9 (by omega)
  | 10 => cases hj; exact far0 10 (by omega)
  | j + 11 => simp at hj
theorem walk (cs : Array Value) (hs : cs.size = 11) (h1 : ∀ x ∈ cs.toList, x.oneCell' = true) {a : Option Addr} {n k : Nat} (h8 : cs[8]? = some (.slice a n k)) (w : World) : Calls Tryz.prog 3 #[.agg cs] w fun e w' => e = .returned (.bool true) ∧ Below w.heap.size w w' :=
  law_calls (E := M) machineOk (f := 3) (fn := Tryz.f3) Tryz.func3 (by kernel_rfl) (reckoned n) (.cons (.agg (handed hs h1 h8)) .nil) w

set_option maxRecDepth 100000 in
theorem lifted (os : Os) (started : os.Started) (H : Type) (enc : TypeId × Value → H) :
    ReturnsInHanded {} Tryz.checked os 3 .any (Rows.armyRidesSpec.pre6 enc Tryz.prog Tryz.f3 Rows.armyRidesRow.domain false) (Rows.armyRidesSpec.post enc Tryz.prog Tryz.f3 false true false false) := by
  refine returnsInHanded_of_change (C := Tryz.checked) own started (by kernel_rfl) Tryz.func3
    (ChangeSpec.witness6 (enc := enc) (C := Tryz.checked) false ⟨#[], #[.agg #[.int .i64 0, .int .i64 0, .int .i64 0, .int .i64 0, .int .i64 0, .slice none 0 0, .slice none 0 0, .slice none 0 0, .slice none 0 0, .slice none 0 0, .slice none 0 0]], []⟩ 8 (by kernel_rfl) (by kernel_rfl) (by kernel_rfl) (by kernel_rfl)) ?_
  intro W base args ds gs before hval0 hW hcnd _
  have hval : ∀ (j : Nat) t v, Tryz.f3.params[j]? = some t → args[j]? = some v → Value.okWide Tryz.prog W .any base t v := hval0
  have hW' := hW
  obtain ⟨p, q, hA0, hV, rfl, hfz, hnd⟩ := hW
  have hA : DataW.TrodAll enc Tryz.prog W 0 (fun _ => true) true Tryz.f3.params.toList args.toList ds p := hA0
  rw [Tryz.params3] at hA hval
  obtain ⟨v0, vs0, d0, ds0, p0, q0, hargs, rfl, rfl, h0, r0⟩ := trodAll_cons hA
  obtain ⟨rfl, rfl, rfl⟩ := trodAll_nil r0
  obtain rfl : args = #[v0] := by cases args; simp_all
  obtain ⟨rfl, rfl⟩ := trodVars_none hV
  obtain ⟨cs, rfl, hs, h1, hcell⟩ := struct_cells (ts := [3, 3, 3, 3, 3, 22, 25, 26, 29, 29, 30]) Tryz.underlying32 (by kernel_rfl) (hval 0 32 v0 rfl rfl)
  rw [show Tryz.prog.cellsOf 32 = 11 by kernel_rfl] at hs
  have h8 : cs[8]? = some cs[8] := Array.getElem?_eq_getElem (by omega)
  obtain ⟨u, hu, hok⟩ := hcell 8 _ h8
  cases hu
  obtain ⟨a8, n8, k8, e8⟩ := cell_slice Tryz.underlying29 hok
  rw [e8] at h8
  refine (walk cs hs h1 h8 W).mono fun e W' ⟨he, hb⟩ => ?_
  subst he
  have hlt : ∀ x ∈ p0, x.block < W.heap.size := fun x hx => hW'.lt x (by simpa using hx)
  exact ⟨_, rfl, _, _, _, [], _, [], hW', trodAll_cons_mk (shut_bool Tryz.underlying4 _) trodAll_mk0, trodAll_cons_mk (Below.trod laid (by kernel_rfl) (of_decide_eq_true (by kernel_rfl)) h0 hb hlt) trodAll_mk0, rfl, hb.frame _, fun h => by cases h⟩

/-- THE STATEMENT -/
theorem proved : Rows.ArmyRidesSaid :=
  OpenClaim.holds_of_wide 3 Tryz.f3 rfl rfl rfl rfl rfl rfl rfl ⟨rfl, rfl, rfl, rfl, rfl⟩ rfl rfl rfl rfl rfl (by kernel_rfl) Tryz.func3 (by kernel_rfl)
    (of_decide_eq_true (by kernel_rfl)) (by unfold Func.isWrapper; first | (rw [if_pos (by decide +kernel)]; kernel_rfl) | (rw [if_neg (by decide +kernel)]; exact ⟨rfl, rfl⟩))
    (fun os started H enc _ => lifted os started H enc)
end Go.Proofs.YtemkiobojboceaaGreat.armyRides
