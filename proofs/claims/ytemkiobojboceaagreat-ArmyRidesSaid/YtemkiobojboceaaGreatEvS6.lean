/- What the small machine's operations come to, the program's come to: one by one. No conditions: over any program. -/
import Derived.Test.YtemkiobojboceaaGreatEvS5
namespace Go.Proofs.YtemkiobojboceaaGreat.Ev
open Go Go.RowKit
set_option linter.unusedSimpArgs false
set_option linter.unusedVariables false

theorem yv {r : Result Next} {x : Value} {w : World} (h : r = .ok (.value x) w) : Yield r x w := .inl h
theorem addr_add' (b o : Nat) (n : Nat) : (⟨b, o, none⟩ : Addr).add n = ⟨b, o + n, none⟩ := addr_add b o n
section laws
variable {E : Env}
theorem lawMove (x : Operand) : Law E (oMove x) (.move x) := by
  intro F g h h' nx nx' v ρ env a w d ty pos aft gd hf hg R
  simp only [oMove, ob_eq, out_eq] at hf
  obtain ⟨u, hu, rfl, rfl, rfl⟩ := hf
  exact ⟨ρ, _, w, yv rfl, val_vr hu hg, Goes.refl R⟩
theorem lawAssign (x : Operand) : Law E (oMove x) (.assign x) := by
  intro F g h h' nx nx' v ρ env a w d ty pos aft gd hf hg R
  simp only [oMove, ob_eq, out_eq] at hf
  obtain ⟨u, hu, rfl, rfl, rfl⟩ := hf
  exact ⟨ρ, _, w, yv rfl, val_vr hu hg, Goes.refl R⟩
theorem lawPick (c x y : Operand) : Law E (oPick c x y) (.pick c x y) := by
  intro F g h h' nx nx' v ρ env a w d ty pos aft gd hf hg R
  simp only [oPick, ob_eq, onB_eq, out_eq] at hf
  obtain ⟨u, hu, t, rfl, u', hu', rfl, rfl, rfl⟩ := hf
  have hc := val_vr hu hg
  generalize hce : a.eval c = cv at hc
  cases hc
  cases t
  · exact ⟨ρ, a.eval y, w, yv (by simp [execOp, hce, asBool]), val_vr hu' hg, Goes.refl R⟩
  · exact ⟨ρ, a.eval x, w, yv (by simp [execOp, hce, asBool]), val_vr hu' hg, Goes.refl R⟩
theorem zeroT_eq {β : Type} {t : TypeId} {f : List V → Option β} {y : β} : zeroT E t f = some y ↔ ∃ i z l, E.P.info? t = some i ∧ i.zero = some z ∧ mapO ofCell z.cells.toList = some l ∧ f l = some y := by
  unfold zeroT
  simp only [ob_eq]
  constructor
  · rintro ⟨i, hi, z, hz, l, hl, h⟩; exact ⟨i, z, l, hi, hz, hl, h⟩
  · rintro ⟨i, z, l, hi, hz, hl, h⟩; exact ⟨i, hi, z, hz, l, hl, h⟩
theorem lawAlloc (e : TypeId) : Law E (oAlloc e) (.alloc e) := by
  intro F g h h' nx nx' v ρ env a w d ty pos aft gd hf hg R
  simp only [oAlloc, zeroT_eq, guardB_eq, out_eq] at hf
  obtain ⟨i, z, l, hi, hz, hl, h1, rfl, rfl, rfl⟩ := hf
  have hv := ofCells_vrs (ρ := ρ) (env := env) (nx := nx) hl
  have hgo := new_row (ty := e) R hi hv
  refine ⟨_, .pointer (some ⟨w.heap.size, 0, none⟩), _, yv ?_, ?_, hgo⟩
  · simp [execOp, Instr.alloc, run_zeroValue hi hz, newVar, Go.newRow]
  · have := VR.p (ρ := more ρ nx ⟨w.heap.size, i.size, z.cells.size, true⟩) (env := env) (nx := nx + 1) (r := nx) (o := 0) ⟨Nat.lt_succ_self _, by rw [more_same]⟩
    rw [more_same] at this; exact this
theorem lawBox (e : TypeId) (x : Operand) : Law E (oBox e x) (.box e x) := by
  intro F g h h' nx nx' v ρ env a w d ty pos aft gd hf hg R
  simp only [oBox, ob_eq, guardB_eq, out_eq] at hf
  obtain ⟨i, hinf, u, hu, h1, rfl, rfl, rfl⟩ := hf
  have hv := (val_vr hu hg).cells
  have hgo := new_row (ty := e) R hinf hv
  refine ⟨_, .pointer (some ⟨w.heap.size, 0, none⟩), _, yv ?_, ?_, hgo⟩
  · simp [execOp, Instr.box, newVar, Go.newRow]
  · have := VR.p (ρ := more ρ nx ⟨w.heap.size, i.size, (a.eval x).cells.size, true⟩) (env := env) (nx := nx + 1) (r := nx) (o := 0) ⟨Nat.lt_succ_self _, by rw [more_same]⟩
    rw [more_same] at this; exact this
theorem lawLoad (t : TypeId) (x : Operand) : Law E (oLoad t x) (.load t x) := by
  intro F g h h' nx nx' v ρ env a w d ty pos aft gd hf hg R
  simp only [oLoad, ob_eq, onP_eq, onCells_eq, out_eq] at hf
  obtain ⟨u, hu, r, o, rfl, ty', cs, hr, v', hp, rfl, rfl, rfl⟩ := hf
  have hx := val_vr hu hg
  generalize hxe : a.eval x = xv at hx
  cases hx with
  | p hlt =>
    obtain ⟨y, hy, hvy⟩ := load_vr hp (R.obj r _ hr).2
    refine ⟨ρ, y, w, yv ?_, hvy, Goes.refl R⟩
    simp only [execOp, Instr.loadAt, hxe, Instr.sureAddr, Sem.run_bind, Sem.run_pure, Result.andThen_ok, hy]
theorem lawStore (t : TypeId) (x y : Operand) : Law E (oStore t x y) (.store t x y) := by
  intro F g h h' nx nx' v ρ env a w d ty pos aft gd hf hg R
  simp only [oStore, ob_eq, onP_eq, onCells_eq, sizeT_eq, guardB_eq, andB_eq, beq_eq, len_eq, out_eq] at hf
  obtain ⟨u, hu, u', hu', r, o, rfl, ty', cs, hr, i, hi, ⟨hlen, h1⟩, cs', hp, rfl, rfl, rfl⟩ := hf
  have hx := val_vr hu hg
  have hy := (val_vr hu' hg).cells
  generalize hxe : a.eval x = xv at hx
  cases hx with
  | p hlt =>
    obtain ⟨w', hrun, hgo⟩ := store_goes R hr hp hy (hy.allOne h1)
    refine ⟨ρ, undef, w', .inr ⟨?_, rfl⟩, .tup .nil, hgo⟩
    have hsz : (a.eval y).cells.size = i.size := by rw [← hlen, hy.length]; simp
    simp only [execOp, Instr.storeAt, hxe, Instr.sureAddr, Sem.run_bind, Sem.run_pure, Result.andThen_ok, storeVar, run_sizeOf hi, hsz, ne_eq, not_true_eq_false, if_false, hrun]
theorem lawNilCheck (x : Operand) : Law E (oNilCheck x) (.nilCheck x) := by
  intro F g h h' nx nx' v ρ env a w d ty pos aft gd hf hg R
  unfold oNilCheck at hf
  rw [ob_eq] at hf
  obtain ⟨u, hu, hf⟩ := hf
  have hx := val_vr hu hg
  have hx' := hx
  generalize hxe : a.eval x = xv at hx
  cases hx <;> first | (cases hf; done) | skip
  · cases hf; rw [hxe] at hx'; exact ⟨ρ, _, w, yv (by simp [execOp, hxe]), hx', Goes.refl R⟩
  · cases hf; rw [hxe] at hx'; exact ⟨ρ, _, w, yv (by simp [execOp, hxe]), hx', Goes.refl R⟩
  · cases hf; rw [hxe] at hx'; exact ⟨ρ, _, w, yv (by simp [execOp, hxe]), hx', Goes.refl R⟩
theorem lawBin (hE : EnvOk E) (op : BinOp) (t : TypeId) (x y : Operand) (t' : TypeId) : Law E (oBin op t x y t') (.binOp op t x y t') := by
  intro F g h h' nx nx' v ρ env a w d ty pos aft gd hf hg R
  simp only [oBin, ob_eq, out_eq] at hf
  obtain ⟨u, hu, u', hu', r, hr, rfl, rfl, rfl⟩ := hf
  obtain ⟨z, hz, hvz⟩ := bin_run hE hr (val_vr hu hg) (val_vr hu' hg) x y w
  refine ⟨ρ, z, w, yv ?_, hvz, Goes.refl R⟩
  show Sem.run E.P ((do eqGuard op t x y (a.eval x) (a.eval y); binOp op t (a.eval x) (a.eval y) : Sem Value) >>= fun v => pure (Next.value v)) w = _
  rw [Sem.run_bind, hz]; rfl
theorem lawUn (op : UnOp) (t : TypeId) (x : Operand) : Law E (oUn op t x) (.unOp op t x) := by
  intro F g h h' nx nx' v ρ env a w d ty pos aft gd hf hg R
  simp only [oUn, ob_eq, out_eq] at hf
  obtain ⟨u, hu, r, hr, rfl, rfl, rfl⟩ := hf
  have hx := val_vr hu hg
  generalize hxe : a.eval x = xv at hx
  cases op with
  | neg =>
    have hr' : (onI u fun k n => iV k (Int.sub 0 n)) = some r := hr
    rw [onI_eq] at hr'
    obtain ⟨k, n, rfl, h'⟩ := hr'
    rw [iV_eq] at h'; subst h'
    cases hx
    exact ⟨ρ, .int k (k.wrap (0 - n)), w, yv (by simp [execOp, hxe, Op.unary, Op.intArith]), .i, Goes.refl R⟩
  | not =>
    have hr' : (onB u fun b => some (V.b (notB b))) = some r := hr
    rw [onB_eq] at hr'
    obtain ⟨b, rfl, h'⟩ := hr'
    cases h'
    cases hx
    exact ⟨ρ, .bool (!b), w, yv (by simp [execOp, hxe, Op.unary]), by rw [notB_eq]; exact .b, Goes.refl R⟩
  | xor => cases hr
  | plus => cases hr
theorem lawMakeInterface (t : TypeId) (x : Operand) : Law E (oMakeInterface t x) (.makeInterface t x) := by
  intro F g h h' nx nx' v ρ env a w d ty pos aft gd hf hg R
  simp only [oMakeInterface, desc_eq, guardB_eq, ob_eq, out_eq] at hf
  obtain ⟨dd, hd, hn, u, hu, rfl, rfl, rfl⟩ := hf
  refine ⟨ρ, .iface t (a.eval x), w, yv ?_, .ifc (val_vr hu hg), Goes.refl R⟩
  rw [notB_eq] at hn
  cases dd <;> first | (simp [isIfaceD] at hn; done) | simp [execOp, Instr.makeInterface, Sem.run_bind, run_underlying hd]
theorem lawMakeFunc (fn : Fn) (first caps : Array Operand) : Law E (oMakeFunc fn first caps) (.makeFunc fn first caps) := by
  intro F g h h' nx nx' v ρ env a w d ty pos aft gd hf hg R
  cases fn with
  | func f =>
    have hf' : @List.rec Operand (fun _ => Out) (ob (vals g caps.toList) fun l => out (.fn f l) h nx) (fun _ _ _ => none) first.toList = some (v, h', nx') := hf
    cases hfi : first.toList with
    | cons _ _ => rw [hfi] at hf'; cases hf'
    | nil =>
      rw [hfi] at hf'
      simp only [ob_eq, out_eq] at hf'
      obtain ⟨l, hl, rfl, rfl, rfl⟩ := hf'
      have he : first = #[] := by cases first; simp at hfi; subst hfi; rfl
      refine ⟨ρ, .func (.func f) #[] (caps.map a.eval), w, yv ?_, .fn ?_, Goes.refl R⟩
      · simp [execOp, Instr.makeFunc, he]
      · rw [Array.toList_map]; exact vals_vrs hg hl
  | method _ => cases hf
  | methodOf _ _ => cases hf
  | via _ _ _ _ => cases hf
  | yield _ => cases hf
theorem optV_eq {g : G} {x : Option Operand} {v : Option V} (h : optV g x = some v) : (x = none ∧ v = none) ∨ ∃ y u, x = some y ∧ val g y = some u ∧ v = some u := by
  cases x with
  | none => cases h; exact .inl ⟨rfl, rfl⟩
  | some y =>
    have h' : (ob (val g y) fun v => some (some v)) = some v := h
    rw [ob_eq] at h'
    obtain ⟨u, hu, e⟩ := h'; cases e
    exact .inr ⟨y, u, rfl, hu, rfl⟩
theorem lawMakeMap (t : TypeId) (r : Option Operand) : Law E (oMakeMap t r) (.makeMap t r) := by
  intro F g h h' nx nx' v ρ env a w d ty pos aft gd hf hg R
  simp only [oMakeMap, desc_eq, onMapD_eq, ob_eq] at hf
  obtain ⟨dd, hd, k, e, rfl, ov, hov, hf⟩ := hf
  have hgo := R.new (w' := w.alloc (.map #[] 0)) (o' := .map [] 0) (L := ⟨w.heap.size, 0, 0, true⟩) (keep_alloc w _ _) (Nat.le_refl _) rfl ⟨#[], heap_alloc_new w _, .nil⟩
  have hvr : VR (more ρ nx ⟨w.heap.size, 0, 0, true⟩) env (nx + 1) (.m nx) (.map (some w.heap.size)) := by
    have := VR.m (ρ := more ρ nx ⟨w.heap.size, 0, 0, true⟩) (env := env) (nx := nx + 1) (r := nx) ⟨Nat.lt_succ_self _, by rw [more_same]⟩
    rw [more_same] at this; exact this
  rcases optV_eq hov with ⟨rfl, rfl⟩ | ⟨y, u, rfl, hu, rfl⟩
  · cases hf
    refine ⟨_, _, _, yv ?_, hvr, hgo⟩
    simp [execOp, Instr.makeMap]
  · have hf' : (onI u fun _ _ => out (V.m nx) (h.put (some (.map [] 0)) nx) (Nat.add nx 1)) = some (v, h', nx') := hf
    rw [onI_eq] at hf'
    obtain ⟨kk, n, rfl, hf'⟩ := hf'
    cases hf'
    have hx := val_vr hu hg
    generalize hxe : a.eval y = xv at hx
    cases hx
    refine ⟨_, _, _, yv ?_, hvr, hgo⟩
    simp [execOp, Instr.makeMap, hxe, asInt, asIntOf, Sem.run_bind, run_underlying hd]
theorem lawFieldAddr (s : TypeId) (x : Operand) (j : Nat) : Law E (oFieldAddr s x j) (.fieldAddr s x j) := by
  intro F g h h' nx nx' v ρ env a w d ty pos aft gd hf hg R
  simp only [oFieldAddr, desc_eq, onStructD_eq, ob_eq, onP_eq, nth_eq, sizeT_eq, guardB_eq, notB_eq, out_eq] at hf
  obtain ⟨dd, hd, fs, rfl, u, hu, r, o, rfl, f, hfj, i, hi, hn, rfl, rfl, rfl⟩ := hf
  rw [Array.getElem?_toList] at hfj
  have hx := val_vr hu hg
  generalize hxe : a.eval x = xv at hx
  cases hx with
  | p hlt =>
    have hz : ¬ i.size = 0 := by intro e; rw [e] at hn; cases hn
    refine ⟨ρ, .pointer (some ⟨(ρ r).b, o + f.offset, none⟩), w, yv ?_, .p hlt, Goes.refl R⟩
    simp [execOp, Instr.fieldAt, hxe, Sem.run_bind, run_underlying hd, hfj, Instr.sureAddr, fieldPlace, run_sizeOf hi, hz, addr_add]
theorem lawField (s : TypeId) (x : Operand) (j : Nat) : Law E (oField s x j) (.field s x j) := by
  intro F g h h' nx nx' v ρ env a w d ty pos aft gd hf hg R
  simp only [oField, desc_eq, onStructD_eq, ob_eq, onAgg_eq, nth_eq, out_eq] at hf
  obtain ⟨dd, hd, fs, rfl, u, hu, l, rfl, f, hfj, v', hp, rfl, rfl, rfl⟩ := hf
  rw [Array.getElem?_toList] at hfj
  have hx := val_vr hu hg
  generalize hxe : a.eval x = xv at hx
  cases hx with
  | agg hl =>
    obtain ⟨y, hy, hvy⟩ := part_vr hp hl w
    refine ⟨ρ, y, w, yv ?_, hvy, Goes.refl R⟩
    simp [execOp, Instr.field, hxe, Sem.run_bind, run_underlying hd, hfj, asAgg, hy]
theorem lawIndexAddr (t : TypeId) (x y : Operand) : Law E (oIndexAddr t x y) (.indexAddr t x y) := by
  intro F g h h' nx nx' v ρ env a w d ty pos aft gd hf hg R
  simp only [oIndexAddr, desc_eq, ob_eq, onI_eq] at hf
  obtain ⟨dd, hd, u, hu, u', hu', k, i, rfl, hf⟩ := hf
  have hx := val_vr hu hg
  have hy := val_vr hu' hg
  generalize hxe : a.eval x = xv at hx
  generalize hye : a.eval y = yv' at hy
  cases hy
  cases dd <;> first | (cases hf; done) | skip
  · rename_i e
    have hf' : (onSl u none fun r o n _ => inB i n fun j => sizeT E e fun sz => out (.p r (Nat.add o (Nat.mul j sz))) h nx) = some (v, h', nx') := hf
    rw [onSl_eq] at hf'
    rcases hf' with ⟨_, hf'⟩ | ⟨r, o, n, c, rfl, hf'⟩
    · cases hf'
    · simp only [inB_eq, sizeT_eq, out_eq] at hf'
      obtain ⟨m, rfl, hm, inf, hi, rfl, rfl, rfl⟩ := hf'
      cases hx with
      | slk hlt hc =>
        refine ⟨ρ, .pointer (some ⟨(ρ r).b, o + m * inf.size, none⟩), w, yv ?_, .p hlt, Goes.refl R⟩
        simp [execOp, Instr.indexAt, asIntOf, hxe, hye, Sem.run_bind, run_underlying hd, run_sizeOf hi, hm, addr_add]
      | slu hlt hc ht =>
        refine ⟨ρ, .pointer (some ⟨(ρ r).b, o + m * inf.size, none⟩), w, yv ?_, .p hlt, Goes.refl R⟩
        simp [execOp, Instr.indexAt, asIntOf, hxe, hye, Sem.run_bind, run_underlying hd, run_sizeOf hi, hm, addr_add]
  · rename_i n e
    have hf' : (onP u fun r o => inB i n fun j => sizeT E e fun sz => out (.p r (Nat.add o (Nat.mul j sz))) h nx) = some (v, h', nx') := hf
    simp only [onP_eq, inB_eq, sizeT_eq, out_eq] at hf'
    obtain ⟨r, o, rfl, m, rfl, hm, inf, hi, rfl, rfl, rfl⟩ := hf'
    cases hx with
    | p hlt =>
      refine ⟨ρ, .pointer (some ⟨(ρ r).b, o + m * inf.size, none⟩), w, yv ?_, .p hlt, Goes.refl R⟩
      simp [execOp, Instr.indexAt, asIntOf, hxe, hye, Sem.run_bind, run_underlying hd, Instr.sureAddr, run_sizeOf hi, hm, addr_add]
theorem lawIndex (t : TypeId) (x y : Operand) : Law E (oIndex t x y) (.index t x y) := by
  intro F g h h' nx nx' v ρ env a w d ty pos aft gd hf hg R
  simp only [oIndex, desc_eq, ob_eq] at hf
  obtain ⟨dd, hd, u, hu, u', hu', hf⟩ := hf
  have hx := val_vr hu hg
  have hy := val_vr hu' hg
  generalize hxe : a.eval x = xv at hx
  generalize hye : a.eval y = yv' at hy
  cases dd <;> first | (cases hf; done) | skip
  · have hf' : (onStr u fun s => onN u' fun j => ob (nth s.data.toList j) fun c => out (.i .u8 (Int.ofNat c.toNat)) h nx) = some (v, h', nx') := hf
    simp only [onStr_eq, onN_eq, ob_eq, nth_eq, out_eq] at hf'
    obtain ⟨s, rfl, k, j, rfl, c, hc, rfl, rfl, rfl⟩ := hf'
    cases hx; cases hy
    refine ⟨ρ, .int .u8 c.toNat, w, yv ?_, .i, Goes.refl R⟩
    rw [Array.getElem?_toList] at hc
    have hc' : s[j]? = some c := hc
    simp [execOp, Instr.index, asIntOf, hxe, hye, Sem.run_bind, run_underlying hd, hc']
  · rename_i n e
    have hf' : (onAgg u fun l => onI u' fun _ i => inB i n fun j => sizeT E e fun sz => ob (partV E e l (Nat.mul j sz)) fun v => out v h nx) = some (v, h', nx') := hf
    simp only [onAgg_eq, onI_eq, inB_eq, sizeT_eq, ob_eq, out_eq] at hf'
    obtain ⟨l, rfl, k, i, rfl, m, rfl, hm, inf, hi, v', hp, rfl, rfl, rfl⟩ := hf'
    cases hx with
    | agg hl =>
      cases hy
      obtain ⟨z, hz, hvz⟩ := part_vr hp hl w
      refine ⟨ρ, z, w, yv ?_, hvz, Goes.refl R⟩
      have hz' : (part e _ (m * inf.size)).run E.P w = .ok z w := hz
      simp [execOp, Instr.index, asIntOf, hxe, hye, Sem.run_bind, run_underlying hd, run_sizeOf hi, hm, hz']
theorem lawExtract (x : Operand) (j : Nat) : Law E (oExtract x j) (.extract x j) := by
  intro F g h h' nx nx' v ρ env a w d ty pos aft gd hf hg R
  simp only [oExtract, ob_eq, onTup_eq, nth_eq, out_eq] at hf
  obtain ⟨u, hu, l, rfl, v', hv', rfl, rfl, rfl⟩ := hf
  have hx := val_vr hu hg
  generalize hxe : a.eval x = xv at hx
  cases hx with
  | tup hl =>
    obtain ⟨y, hy, hvy⟩ := hl.get j v' hv'
    rw [Array.getElem?_toList] at hy
    refine ⟨ρ, y, w, yv ?_, hvy, Goes.refl R⟩
    simp [execOp, Instr.extract, hxe, hy]
end laws
end Go.Proofs.YtemkiobojboceaaGreat.Ev
