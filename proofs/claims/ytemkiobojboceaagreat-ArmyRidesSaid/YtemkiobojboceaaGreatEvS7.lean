/- What the small machine's operations come to, the program's come to: structs and slices built, slices cut. No conditions: over any program. -/
import Derived.Test.YtemkiobojboceaaGreatEvS6
namespace Go.Proofs.YtemkiobojboceaaGreat.Ev
open Go Go.RowKit
set_option linter.unusedSimpArgs false
set_option linter.unusedVariables false

theorem foldl_set (o : Nat) : ∀ (vs : List Value) (k : Nat) (acc : List Value), o + k + vs.length ≤ acc.length →
    (vs.zipIdx k).foldl (fun (cs : Array Value) (p : Value × Nat) => cs.setIfInBounds (o + p.2) p.1) acc.toArray = (acc.take (o + k) ++ vs ++ acc.drop (o + k + vs.length)).toArray
  | [], k, acc, _ => by simp
  | v :: vs, k, acc, h => by
    simp only [List.length_cons] at h
    simp only [List.zipIdx_cons, List.foldl_cons, List.setIfInBounds_toArray]
    rw [foldl_set o vs (k + 1) (acc.set (o + k) v) (by simp; omega)]
    have h2 : (acc.set (o + k) v).take (o + (k + 1)) = acc.take (o + k) ++ [v] := by
      rw [← Nat.add_assoc, List.take_succ_eq_append_getElem (by simp; omega)]
      rw [List.take_set, List.set_eq_of_length_le (by simp; omega)]
      simp
    rw [h2, List.drop_set_of_lt (by omega)]
    simp only [List.length_cons, List.append_assoc, List.cons_append, List.nil_append]
    congr 5; omega
section fill
variable {ρ : Nat → Loc} {env : Nat → Value} {nx : Nat} {g : G} {a : Act}
theorem fill_vr (hg : GR ρ env nx g a) {place place' : Nat → Option (Nat × Nat)} (hpl : ∀ j q, place j = some q → place' j = some q) : ∀ (l : List (Nat × Operand)) (ps : List (Nat × V)) (cs r : List V) (zs : Array Value),
    valsP g l = some ps → fillV place ps cs = some r → VRs ρ env nx cs zs.toList → ∃ zs', Instr.fill place' zs (l.map fun p => (p.1, a.eval p.2)) = some zs' ∧ VRs ρ env nx r zs'.toList := by
  intro l
  induction l with
  | nil =>
    intro ps cs r zs h1 h2 h3
    cases h1; cases h2
    exact ⟨zs, rfl, h3⟩
  | cons q l ih =>
    intro ps cs r zs h1 h2 h3
    obtain ⟨j, x⟩ := q
    obtain ⟨p, ps', hp, hps, rfl⟩ := mapO_cons.1 h1
    have hp' : (ob (val g x) fun v => some (j, v)) = some p := hp
    rw [ob_eq] at hp'
    obtain ⟨v, hv, e⟩ := hp'
    cases e
    have e2 : fillV place ((j, v) :: ps') cs = ob (place j) fun q => guardB (Nat.beq (len v.cells) q.2) (ob (putL v.cells cs q.1) (fillV place ps')) := rfl
    rw [e2] at h2
    simp only [ob_eq, guardB_eq, beq_eq, len_eq] at h2
    obtain ⟨⟨o, n⟩, hq, hn, cs', hcs, h2⟩ := h2
    simp only at hn hcs
    obtain ⟨hle, rfl⟩ := putL_eq _ _ _ _ hcs
    have hx := (val_vr hv hg).cells
    have hlx := hx.length
    have hlz := h3.length
    have hnew : VRs ρ env nx (cs.take o ++ v.cells ++ cs.drop (o + v.cells.length)) (zs.toList.take o ++ (a.eval x).cells.toList ++ zs.toList.drop (o + (a.eval x).cells.toList.length)) := by
      rw [hlx]; exact ((h3.take o).append hx).append (h3.drop _)
    obtain ⟨zs', hz', hr⟩ := ih ps' _ r (zs.toList.take o ++ (a.eval x).cells.toList ++ zs.toList.drop (o + (a.eval x).cells.toList.length)).toArray hps h2 (by simpa using hnew)
    refine ⟨zs', ?_, hr⟩
    have hsz : (a.eval x).cells.size = n := by rw [← hn, hlx]; simp
    simp only [List.map_cons, Instr.fill, hpl _ _ hq, hsz, ne_eq, not_true_eq_false, decide_false, Bool.false_or]
    rw [if_neg (by simp at hlz hlx ⊢; omega)]
    have hf := foldl_set o (a.eval x).cells.toList 0 zs.toList (by simp at hlz hlx ⊢; omega)
    simp only [Nat.add_zero] at hf
    rw [← hz', ← hf]
    congr 1
    rw [← Array.foldl_toList]
    simp
theorem mapM_places {P : Program} {fs : Array Field} (w : World) : ∀ {pl : List (Nat × Nat)}, (∀ E : Env, E.P = P → placesL E fs.toList = some pl) →
    (fs.mapM fun f => do pure (f.offset, ← sizeOf f.type) : Sem (Array (Nat × Nat))).run P w = .ok pl.toArray w := by
  intro pl h
  rw [Array.mapM_eq_mapM_toList]
  have key : ∀ (l : List Field) (pl : List (Nat × Nat)), placesL ⟨P, fun _ => 0, fun _ => false⟩ l = some pl →
      (l.mapM fun f => do pure (f.offset, ← sizeOf f.type) : Sem (List (Nat × Nat))).run P w = .ok pl w := by
    intro l
    induction l with
    | nil => intro pl h; cases h; simp
    | cons f l ih =>
      intro pl h
      obtain ⟨q, pl', hq, hpl, rfl⟩ := mapO_cons.1 h
      rw [sizeT_eq] at hq
      obtain ⟨i, hi, e⟩ := hq
      cases e
      simp only [List.mapM_cons, Sem.run_bind, run_sizeOf hi, Result.andThen_ok, Sem.run_pure]
      rw [ih _ hpl]
      rfl
  rw [Sem.run_map, key _ _ (h ⟨P, fun _ => 0, fun _ => false⟩ rfl)]
  rfl
theorem placesL_env {E E' : Env} (h : E.P = E'.P) (fs : List Field) : placesL E fs = placesL E' fs := by
  unfold placesL sizeT; rw [h]
theorem rep_get (z : List V) (hz : 0 < z.length) : ∀ (n j : Nat), (rep n z)[j]? = if j < n * z.length then z[j % z.length]? else none := by
  intro n
  induction n with
  | zero => intro j; show ([] : List V)[j]? = _; simp
  | succ n ih =>
    intro j
    have e : rep (n + 1) z = z ++ rep n z := by show app z (rep n z) = _; exact app_eq _ _
    rw [e]
    by_cases hj : j < z.length
    · rw [List.getElem?_append_left hj, Nat.mod_eq_of_lt hj, if_pos]
      rw [Nat.succ_mul]; omega
    · rw [List.getElem?_append_right (by omega), ih]
      rw [Nat.succ_mul]
      by_cases h2 : j - z.length < n * z.length
      · rw [if_pos h2, if_pos (by omega)]; congr 1; exact (Nat.mod_eq_sub_mod (by omega)).symm
      · rw [if_neg h2, if_neg (by omega)]
theorem zero_row {z : List V} {zc : Array Value} (h : VRs ρ env nx z zc.toList) (hz : 0 < z.length) (n : Nat) : VRs ρ env nx (rep n z) ((Array.range (n * z.length)).map fun i => zc[i % zc.size]!).toList := by
  have hl := h.length
  have hl' : zc.size = z.length := by simpa using hl.symm
  refine VRs.of_get (by rw [rep_length]; simp) ?_
  intro j v hj
  rw [rep_get z hz] at hj
  split at hj
  · rename_i hlt
    obtain ⟨x, hx, hvx⟩ := h.get _ v hj
    refine ⟨x, ?_, hvx⟩
    rw [Array.getElem?_toList] at hx ⊢
    have hm : j % z.length < z.length := Nat.mod_lt _ hz
    have hx' : zc[j % z.length]! = x := by
      rw [getElem!_def, hx]
    simp [hlt, hl', hx']
  · cases hj
end fill
section laws
variable {E : Env}
theorem lawBuild (t : TypeId) (ps : Array (Nat × Operand)) : Law E (oBuild t ps) (.build t ps) := by
  intro F g h h' nx nx' v ρ env a w d ty pos aft gd hf hg R
  simp only [oBuild, zeroT_eq, ob_eq, desc_eq] at hf
  obtain ⟨i, z, zl, hi, hz, hl, pl, hpl, dd, hd, hf⟩ := hf
  have hv := ofCells_vrs (ρ := ρ) (env := env) (nx := nx) hl
  have he : (ps.map fun p => (p.1, a.eval p.2)).toList = ps.toList.map fun p => (p.1, a.eval p.2) := by simp
  cases dd <;> first | (cases hf; done) | skip
  · rename_i n e
    have hf' : (sizeT E e fun sz => ob (fillV (fun j => some (Nat.mul j sz, sz)) pl zl) fun l => out (.agg l) h nx) = some (v, h', nx') := hf
    simp only [sizeT_eq, ob_eq, out_eq] at hf'
    obtain ⟨inf, hinf, r, hr, rfl, rfl, rfl⟩ := hf'
    obtain ⟨zs', hz', hvr⟩ := fill_vr hg (place' := fun i => some (i * inf.size, inf.size)) (fun j q h => h) _ _ _ _ _ hpl hr hv
    refine ⟨ρ, .agg zs', w, yv ?_, .agg hvr, Goes.refl R⟩
    simp only [execOp, Instr.build, Sem.run_bind, run_zeroValue hi hz, run_underlying hd, run_sizeOf hinf, Result.andThen_ok, he, hz', Sem.run_pure]
  · rename_i fs
    have hf' : (ob (placesL E fs.toList) fun pl' => ob (fillV (nth pl') pl zl) fun l => out (.agg l) h nx) = some (v, h', nx') := hf
    simp only [ob_eq, out_eq] at hf'
    obtain ⟨pl', hpl', r, hr, rfl, rfl, rfl⟩ := hf'
    obtain ⟨zs', hz', hvr⟩ := fill_vr hg (place' := fun i => pl'.toArray[i]?) (fun j q h => by rw [nth_eq] at h; simpa using h) _ _ _ _ _ hpl hr hv
    refine ⟨ρ, .agg zs', w, yv ?_, .agg hvr, Goes.refl R⟩
    have hm := mapM_places (P := E.P) (fs := fs) w (pl := pl') (fun E' hE' => by rw [placesL_env (E' := E) hE']; exact hpl')
    simp only [execOp, Instr.build, Sem.run_bind, run_zeroValue hi hz, run_underlying hd, hm, Result.andThen_ok, he, hz', Sem.run_pure]
theorem new_slice {ρ : Nat → Loc} {env : Nat → Value} {nx : Nat} (L : Loc) (n c : Nat) (hc : n ≤ c) (hon : L.on = true := by rfl) : VR (more ρ nx L) env (nx + 1) (.sl nx 0 n (some c)) (.slice (some ⟨L.b, 0, none⟩) n c) := by
  have := VR.slk (ρ := more ρ nx L) (env := env) (nx := nx + 1) (r := nx) (o := 0) ⟨Nat.lt_succ_self _, by rw [more_same]; exact hon⟩ hc
  rw [more_same] at this; exact this
theorem lawBuildSlice (t : TypeId) (n : Nat) (ps : Array (Nat × Operand)) : Law E (oBuildSlice t n ps) (.buildSlice t n ps) := by
  intro F g h h' nx nx' v ρ env a w d ty pos aft gd hf hg R
  simp only [oBuildSlice, desc_eq, onSliceD_eq, zeroT_eq, sizeT_eq, ob_eq, guardB_eq, andB_eq, beq_eq, blt_eq, ble_eq, len_eq, out_eq] at hf
  obtain ⟨dd, hd, e, rfl, i, z, zl, hi, hz, hl, inf, hinf, pl, hpl, ⟨hzl, h0, hle⟩, r, hr, h1, rfl, rfl, rfl⟩ := hf
  rw [hi] at hinf; cases hinf
  have hle' : n * i.size ≤ 65536 := hle
  have hv := zero_row (ofCells_vrs (ρ := ρ) (env := env) (nx := nx) hl) (by omega) n
  have he : (ps.map fun p => (p.1, a.eval p.2)).toList = ps.toList.map fun p => (p.1, a.eval p.2) := by simp
  rw [hzl] at hv
  obtain ⟨zs', hz', hvr⟩ := fill_vr hg (place' := fun j => some (j * i.size, i.size)) (fun j q h => h) _ _ _ _ _ hpl hr hv
  have hgo := new_row (ty := e) R hi hvr
  refine ⟨_, .slice (some ⟨w.heap.size, 0, none⟩) n n, _, yv ?_, new_slice ⟨w.heap.size, _, _, true⟩ n n (Nat.le_refl _), hgo⟩
  simp only [execOp, Instr.buildSlice, Sem.run_bind, run_underlying hd, run_sizeOf hi, Result.andThen_ok]
  rw [if_neg (by omega)]
  by_cases hn : n * i.size = 0
  · simp only [hn, if_true, Sem.run_bind, Sem.run_pure, Result.andThen_ok, he]
    rw [hn] at hz'
    have : ((Array.range 0).map fun j => (#[] : Array Value)[j % (#[] : Array Value).size]!) = ((Array.range 0).map fun j => z.cells[j % z.cells.size]!) := by simp
    rw [this, hz']
    simp [Go.newRow]
  · simp only [hn, if_false, Sem.run_bind, run_zeroValue hi hz, Sem.run_pure, Result.andThen_ok, he, hz']
    simp [Go.newRow]
theorem lawMakeSlice (t : TypeId) (l c : Operand) : Law E (oMakeSlice t l c) (.makeSlice t l c) := by
  intro F g h h' nx nx' v ρ env a w d ty pos aft gd hf hg R
  simp only [oMakeSlice, desc_eq, onSliceD_eq, ob_eq, onN_eq, zeroT_eq, guardB_eq, andB_eq, beq_eq, blt_eq, ble_eq, len_eq, out_eq] at hf
  obtain ⟨dd, hd, e, rfl, u, hu, u', hu', k, ln, rfl, k', cn, rfl, i, hi, i2, z, zl, hi2, hz, hl, ⟨hzl, h0, hlc, hb, hc, h1⟩, rfl, rfl, rfl⟩ := hf
  rw [hi] at hi2; cases hi2
  have hb' : cn * i.bytes ≤ 1048576 := hb
  have hx := val_vr hu hg
  have hy := val_vr hu' hg
  generalize hxe : a.eval l = xv at hx
  generalize hye : a.eval c = yv' at hy
  cases hx; cases hy
  have hv := zero_row (ofCells_vrs (ρ := ρ) (env := env) (nx := nx) hl) (by omega) cn
  rw [hzl] at hv
  have hgo := new_row (ty := e) R hi hv
  refine ⟨_, .slice (some ⟨w.heap.size, 0, none⟩) ln cn, _, yv ?_, new_slice ⟨w.heap.size, _, _, true⟩ ln cn hlc, hgo⟩
  have w1 : IntKind.i64.wrap (Int.ofNat ln) = ln := wrap_of _ _ (by show -(9223372036854775808 : Int) ≤ (ln : Int); omega) (by show (ln : Int) < 9223372036854775808; omega)
  have w2 : IntKind.i64.wrap (Int.ofNat cn) = cn := wrap_of _ _ (by show -(9223372036854775808 : Int) ≤ (cn : Int); omega) (by show (cn : Int) < 9223372036854775808; omega)
  have hbb : ¬ ((i.bytes : Int) * (cn : Int) > 2 ^ 48) := by
    have : (i.bytes : Int) * (cn : Int) = ((cn * i.bytes : Nat) : Int) := by rw [Nat.mul_comm]; simp
    rw [this]; omega
  have hroom : ∀ (w : World), (askRoom (cn * i.bytes)).run E.P w = .ok () w := by
    intro w; unfold askRoom; split <;> rfl
  simp only [execOp, Instr.makeSlice, Sem.run_bind, run_underlying hd, Result.andThen_ok, hxe, hye, asInt, asIntOf, Sem.run_pure, run_typeInfo hi, w1, w2]
  rw [if_neg (by simp [hbb]; omega)]
  simp only [Sem.run_bind, Int.toNat_natCast, hroom, Result.andThen_ok, run_sizeOf hi]
  by_cases hn : cn * i.size = 0
  · simp only [hn, if_true, Sem.run_bind, Sem.run_pure, Result.andThen_ok]
    have : ((Array.range 0).map fun j => (#[] : Array Value)[j % (#[] : Array Value).size]!) = ((Array.range 0).map fun j => z.cells[j % z.cells.size]!) := by simp
    rw [this]
    simp [Go.newRow]
  · simp only [hn, if_false, Sem.run_bind, run_zeroValue hi hz, Sem.run_pure, Result.andThen_ok]
    simp [Go.newRow]
/-- bounds -/
def OptR (ρ : Nat → Loc) (env : Nat → Value) (nx : Nat) (u : Option V) (x : Option Value) : Prop := (u = none ∧ x = none) ∨ ∃ v y, u = some v ∧ x = some y ∧ VR ρ env nx v y
theorem optR_of {ρ : Nat → Loc} {env : Nat → Value} {nx : Nat} {g : G} {a : Act} (hg : GR ρ env nx g a) {x : Option Operand} {u : Option V} (h : optV g x = some u) : OptR ρ env nx u (x.map a.eval) := by
  rcases optV_eq h with ⟨rfl, rfl⟩ | ⟨y, v, rfl, hv, rfl⟩
  · exact .inl ⟨rfl, rfl⟩
  · exact .inr ⟨v, _, rfl, rfl, val_vr hv hg⟩
theorem bound_run {P : Program} {ρ : Nat → Loc} {env : Nat → Value} {nx : Nat} {β : Type} {v : V} {x : Value} (hx : VR ρ env nx v x) {n : Nat} {f : Nat → Option β} {y : β} (h : (onI v fun _ i => upTo i n f) = some y) (code : BoundsCode) {n' : Nat} (hn : n ≤ n') (w : World) :
    ∃ m, m ≤ n ∧ f m = some y ∧ (Instr.sliceBound x n' code).run P w = .ok m w := by
  simp only [onI_eq, upTo_eq] at h
  obtain ⟨k, i, rfl, m, rfl, hm, hy⟩ := h
  cases hx
  refine ⟨m, hm, hy, ?_⟩
  simp only [Instr.sliceBound, asIntOf, Sem.run_bind, Sem.run_pure, Result.andThen_ok]
  rw [if_pos ⟨by omega, by omega⟩]; simp
theorem bounds_run {P : Program} {ρ : Nat → Loc} {env : Nat → Value} {nx : Nat} {β : Type} {n : Nat} {c : Option Nat} {c' : Nat} (hc : ∀ c0, c = some c0 → c' = c0) (hn : n ≤ c') {lo hi mx : Option V} {lo' hi' mx' : Option Value}
    (h1 : OptR ρ env nx lo lo') (h2 : OptR ρ env nx hi hi') (h3 : OptR ρ env nx mx mx') {f : Nat → Nat → Option Nat → Option β} {y : β} (h : bounds n c lo hi mx f = some y) (isS : Bool) (w : World) :
    ∃ l k m m', f l k m = some y ∧ (Instr.sliceBounds isS n c' lo' hi' mx').run P w = .ok (l, k, m') w ∧ (∀ m0, m = some m0 → m' = m0) ∧ (m = none → m' = c' ∧ k ≤ n ∧ c = none) ∧ l ≤ k ∧ k ≤ m' ∧ m' ≤ c' := by
  unfold bounds at h
  simp only [ob_eq] at h
  obtain ⟨m, hm, k, hk, l, hl, hf⟩ := h
  have hle0 : (@Option.rec Nat (fun _ => Nat) n (fun c => c) c) ≤ c' := by cases c with | none => exact hn | some c0 => rw [hc c0 rfl]; exact Nat.le_refl _
  rcases h3 with ⟨rfl, rfl⟩ | ⟨v3, x3, rfl, rfl, hx3⟩
  · have hm' : some c = some m := hm
    cases hm'
    rcases h2 with ⟨rfl, rfl⟩ | ⟨v2, x2, rfl, rfl, hx2⟩
    · have hk' : some n = some k := hk
      cases hk'
      rcases h1 with ⟨rfl, rfl⟩ | ⟨v1, x1, rfl, rfl, hx1⟩
      · have hl' : some 0 = some l := hl
        cases hl'
        exact ⟨0, _, _, c', hf, rfl, hc, fun e => ⟨rfl, Nat.le_refl _, e⟩, Nat.zero_le _, hn, Nat.le_refl _⟩
      · have hl' : (onI v1 fun _ i => upTo i n fun l => some l) = some l := hl
        obtain ⟨q, hq, e, hr⟩ := bound_run (P := P) hx1 hl' .sliceB (Nat.le_refl _) w
        cases e
        refine ⟨l, _, _, c', hf, ?_, hc, fun e => ⟨rfl, Nat.le_refl _, e⟩, hq, hn, Nat.le_refl _⟩
        simp [Instr.sliceBounds, Sem.run_bind, hr]
    · have hk' : (onI v2 fun _ i => upTo i (@Option.rec Nat (fun _ => Nat) n (fun c => c) c) fun k => some k) = some k := hk
      obtain ⟨q2, hq2, e, hr2⟩ := bound_run (P := P) hx2 hk' (if isS then .sliceAcap else .sliceAlen) hle0 w
      cases e
      rcases h1 with ⟨rfl, rfl⟩ | ⟨v1, x1, rfl, rfl, hx1⟩
      · have hl' : some 0 = some l := hl
        cases hl'
        refine ⟨0, k, _, c', hf, ?_, hc, fun e => ⟨rfl, by subst e; exact hq2, e⟩, Nat.zero_le _, Nat.le_trans hq2 hle0, Nat.le_refl _⟩
        simp [Instr.sliceBounds, Sem.run_bind, hr2]
      · have hl' : (onI v1 fun _ i => upTo i k fun l => some l) = some l := hl
        obtain ⟨q, hq, e, hr⟩ := bound_run (P := P) hx1 hl' .sliceB (Nat.le_refl _) w
        cases e
        refine ⟨l, k, _, c', hf, ?_, hc, fun e => ⟨rfl, by subst e; exact hq2, e⟩, hq, Nat.le_trans hq2 hle0, Nat.le_refl _⟩
        simp [Instr.sliceBounds, Sem.run_bind, hr, hr2]
  · have hm' : (onI v3 fun _ i => upTo i (@Option.rec Nat (fun _ => Nat) n (fun c => c) c) fun m => some (some m)) = some m := hm
    obtain ⟨q3, hq3, e, hr3⟩ := bound_run (P := P) hx3 hm' (if isS then .slice3Acap else .slice3Alen) hle0 w
    cases e
    rcases h2 with ⟨rfl, rfl⟩ | ⟨v2, x2, rfl, rfl, hx2⟩
    · cases hk
    · have hk' : (onI v2 fun _ i => upTo i q3 fun k => some k) = some k := hk
      obtain ⟨q2, hq2, e, hr2⟩ := bound_run (P := P) hx2 hk' .slice3B (Nat.le_refl _) w
      cases e
      rcases h1 with ⟨rfl, rfl⟩ | ⟨v1, x1, rfl, rfl, hx1⟩
      · have hl' : some 0 = some l := hl
        cases hl'
        refine ⟨0, k, _, q3, hf, ?_, fun m0 e => by cases e; rfl, fun e => (by cases e), Nat.zero_le _, hq2, Nat.le_trans hq3 hle0⟩
        simp [Instr.sliceBounds, Sem.run_bind, hr2, hr3]
      · have hl' : (onI v1 fun _ i => upTo i k fun l => some l) = some l := hl
        obtain ⟨q, hq, e, hr⟩ := bound_run (P := P) hx1 hl' .slice3C (Nat.le_refl _) w
        cases e
        refine ⟨l, k, _, q3, hf, ?_, fun m0 e => by cases e; rfl, fun e => (by cases e), hq, hq2, Nat.le_trans hq3 hle0⟩
        simp [Instr.sliceBounds, Sem.run_bind, hr, hr2, hr3]
theorem lawSlice (t : TypeId) (x : Operand) (lo hi mx : Option Operand) : Law E (oSlice t x lo hi mx) (.slice t x lo hi mx) := by
  intro F g h h' nx nx' v ρ env a w d ty pos aft gd hf hg R
  simp only [oSlice, ob_eq] at hf
  obtain ⟨u, hu, lo', hlo, hi', hhi, mx', hmx, hf⟩ := hf
  have h1 := optR_of hg hlo
  have h2 := optR_of hg hhi
  have h3 := optR_of hg hmx
  have hx := val_vr hu hg
  generalize hxe : a.eval x = xv at hx
  unfold evSlice at hf
  rw [desc_eq] at hf
  obtain ⟨dd, hd, hf⟩ := hf
  cases dd <;> first | (cases hf; done) | skip
  · rename_i e
    have hf' : (onSl u (sizeT E e fun _ => bounds 0 (some 0) lo' hi' mx' fun _ _ _ => out .sn h nx) fun r o n c => sizeT E e fun sz => bounds n c lo' hi' mx' fun l k m => @Option.rec Nat (fun _ => Out) (cutU e r o sz n l k h nx) (fun m => cut r o sz l k m h nx) m) = some (v, h', nx') := hf
    rw [onSl_eq] at hf'
    rcases hf' with ⟨rfl, hf'⟩ | ⟨r, o, n, c, rfl, hf'⟩
    · cases hx
      rw [sizeT_eq] at hf'
      obtain ⟨inf, hinf, hf'⟩ := hf'
      obtain ⟨l, k, m, m', hy, hrun, _, _, hlk, hkm, hm0⟩ := bounds_run (P := E.P) (fun c0 e => by cases e; rfl) (Nat.le_refl 0) h1 h2 h3 hf' true w
      cases hy
      obtain rfl : m' = 0 := by omega
      obtain rfl : k = 0 := by omega
      obtain rfl : l = 0 := by omega
      refine ⟨ρ, .slice none 0 0, w, yv ?_, .sn, Goes.refl R⟩
      simp only [execOp, Instr.sliceAt, Sem.run_bind, run_underlying hd, Result.andThen_ok, Instr.slice, hxe, hrun, run_sizeOf hinf]
      simp
    · rw [sizeT_eq] at hf'
      obtain ⟨inf, hinf, hf'⟩ := hf'
      have fin : ∀ (c' : Nat), (∀ c0, c = some c0 → c' = c0) → n ≤ c' → (c = none → o + c' * (ρ r).sz = (ρ r).T) → On ρ nx r → xv = .slice (some ⟨(ρ r).b, o, none⟩) n c' → ∃ ρ' x_1 w', Yield ((execOp a.eval ⟨d, .slice t x lo hi mx, ty, pos, aft, gd⟩).run E.P w) x_1 w' ∧ VR ρ' env nx' v x_1 ∧ Goes E.P ρ env nx h w ρ' nx' h' w' := by
        intro c' hc' hn hT hlt e
        subst e
        obtain ⟨l, k, m, m', hy, hrun, hm1, hm2, hlk, hkm, hm0⟩ := bounds_run (P := E.P) hc' hn h1 h2 h3 hf' true w
        have hrun' : (execOp a.eval ⟨d, .slice t x lo hi mx, ty, pos, aft, gd⟩).run E.P w = .ok (.value (.slice (if m' = l then some ⟨(ρ r).b, o, none⟩ else some ⟨(ρ r).b, o + l * inf.size, none⟩) (k - l) (m' - l))) w := by
          simp only [execOp, Instr.sliceAt, Sem.run_bind, run_underlying hd, Result.andThen_ok, Instr.slice, hxe, hrun, run_sizeOf hinf, Sem.run_pure, Option.map_some, addr_add]
        refine ⟨ρ, _, w, yv hrun', ?_, ?_⟩
        · cases m with
          | some m0 =>
            have hy' : cut r o inf.size l k m0 h nx = some (v, h', nx') := hy
            unfold cut at hy'
            rw [out_eq] at hy'
            obtain ⟨rfl, rfl, rfl⟩ := hy'
            rw [hm1 m0 rfl]
            by_cases e : m0 = l
            · rw [if_pos e, beq_eq.2 e]; exact .slk hlt (by show k - l ≤ m0 - l; rw [hm1 m0 rfl] at hkm; omega)
            · rw [if_neg e, beq_ne e]; exact .slk hlt (by show k - l ≤ m0 - l; rw [hm1 m0 rfl] at hkm; omega)
          | none =>
            obtain ⟨hmc, hkn, hcn⟩ := hm2 rfl
            have hy' : cutU e r o inf.size n l k h nx = some (v, h', nx') := hy
            unfold cutU at hy'
            by_cases e0 : l = 0
            · subst e0
              have hy2 : out (.sl r o k none) h nx = some (v, h', nx') := hy'
              rw [out_eq] at hy2
              obtain ⟨rfl, rfl, rfl⟩ := hy2
              simp only [Nat.zero_mul, Nat.add_zero, Nat.sub_zero, ite_self]
              rw [hmc]
              exact .slu hlt (by omega) (hT hcn)
            · rw [beq_ne e0] at hy'
              have hy2 : (onCells h r fun t _ => guardB (andB (Nat.beq t e) (Nat.blt l n)) (out (.sl r (Nat.add o (Nat.mul l inf.size)) (Nat.sub k l) none) h nx)) = some (v, h', nx') := hy'
              simp only [onCells_eq, guardB_eq, andB_eq, beq_eq, blt_eq, out_eq] at hy2
              obtain ⟨t', cs, hr, ⟨rfl, hln⟩, rfl, rfl, rfl⟩ := hy2
              rw [if_neg (by omega)]
              obtain ⟨cur, fz, i0, _, _, _, k4, k5, _, _⟩ := (R.obj r _ hr).2
              rw [hinf] at k4; cases k4
              refine .slu hlt (by show k - l ≤ m' - l; omega) ?_
              have := hT hcn
              rw [← this, hmc, k5]
              show o + l * (ρ r).sz + (c' - l) * (ρ r).sz = _
              rw [Nat.add_assoc, ← Nat.add_mul]; congr 2; omega
        · cases m with
          | some m0 =>
            have hy' : cut r o inf.size l k m0 h nx = some (v, h', nx') := hy
            unfold cut at hy'
            rw [out_eq] at hy'
            obtain ⟨_, rfl, rfl⟩ := hy'
            exact Goes.refl R
          | none =>
            have hy' : cutU e r o inf.size n l k h nx = some (v, h', nx') := hy
            unfold cutU at hy'
            by_cases e0 : l = 0
            · subst e0
              have hy2 : out (.sl r o k none) h nx = some (v, h', nx') := hy'
              rw [out_eq] at hy2
              obtain ⟨_, rfl, rfl⟩ := hy2
              exact Goes.refl R
            · rw [beq_ne e0] at hy'
              have hy2 : (onCells h r fun t _ => guardB (andB (Nat.beq t e) (Nat.blt l n)) (out (.sl r (Nat.add o (Nat.mul l inf.size)) (Nat.sub k l) none) h nx)) = some (v, h', nx') := hy'
              simp only [onCells_eq, guardB_eq, andB_eq, beq_eq, blt_eq, out_eq] at hy2
              obtain ⟨t', cs, hr, ⟨rfl, hln⟩, _, rfl, rfl⟩ := hy2
              exact Goes.refl R
      cases hx with
      | slk hlt hc => exact fin _ (fun c0 e => by cases e; rfl) hc (fun e => by cases e) hlt rfl
      | slu hlt hc ht => exact fin _ (fun c0 e => by cases e) hc (fun _ => ht) hlt rfl
  · rename_i n e
    have hf' : (onP u fun r o => sizeT E e fun sz => bounds n (some n) lo' hi' mx' fun l k m => ob m fun m => cut r o sz l k m h nx) = some (v, h', nx') := hf
    simp only [onP_eq, sizeT_eq] at hf'
    obtain ⟨r, o, rfl, inf, hinf, hf'⟩ := hf'
    cases hx with
    | p hlt =>
      obtain ⟨l, k, m, m', hy, hrun, hm1, hm2, hlk, hkm, hm0⟩ := bounds_run (P := E.P) (fun c0 e => by cases e; rfl) (Nat.le_refl n) h1 h2 h3 hf' false w
      rw [ob_eq] at hy
      obtain ⟨m0, rfl, hy⟩ := hy
      obtain rfl := hm1 m0 rfl
      unfold cut at hy
      rw [out_eq] at hy
      obtain ⟨rfl, rfl, rfl⟩ := hy
      refine ⟨ρ, .slice (some (if m' = l then ⟨(ρ r).b, o, none⟩ else ⟨(ρ r).b, o + l * inf.size, none⟩)) (k - l) (m' - l), w, yv ?_, ?_, Goes.refl R⟩
      · simp only [execOp, Instr.sliceAt, Sem.run_bind, run_underlying hd, Result.andThen_ok, hxe, Instr.sureAddr, Sem.run_pure, hrun, run_sizeOf hinf, addr_add]
      · by_cases e : m' = l
        · rw [if_pos e, beq_eq.2 e]; exact .slk hlt (by show k - l ≤ m' - l; omega)
        · rw [if_neg e, beq_ne e]; exact .slk hlt (by show k - l ≤ m' - l; omega)
end laws
end Go.Proofs.YtemkiobojboceaaGreat.Ev
