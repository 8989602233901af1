/- What the small machine's operations come to, the program's come to: maps written, read and gone through. No conditions: over any program. -/
import Derived.Test.YtemkiobojboceaaGreatEvS8
namespace Go.Proofs.YtemkiobojboceaaGreat.Ev
open Go Go.RowKit
set_option linter.unusedSimpArgs false
set_option linter.unusedVariables false

theorem run_getObj_map {P : Program} {w : World} {b : Nat} {es : Array MapEntry} {c : Nat} (h : w.heap[b]? = some (.map es c)) : (getObj b).run P w = .ok (.map es c) w := by
  simp [getObj, Sem.run, h]
theorem run_getObj_iter {P : Program} {w : World} {b : Nat} {m : Option Nat} {s t : Nat} {l : Array Nat} (h : w.heap[b]? = some (.mapIter m s l t)) : (getObj b).run P w = .ok (.mapIter m s l t) w := by
  simp [getObj, Sem.run, h]
def World.setO (w : World) (b : Nat) (o : Obj) : World := { w with heap := w.heap.setIfInBounds b o }
theorem run_setObj_map {P : Program} {w : World} {b : Nat} {es : Array MapEntry} {c : Nat} (h : w.heap[b]? = some (.map es c)) (o : Obj) : (setObj b o).run P w = .ok () (World.setO w b o) := by
  simp [setObj, Sem.run, h, World.setO]
theorem run_setObj_iter {P : Program} {w : World} {b : Nat} {m : Option Nat} {s t : Nat} {l : Array Nat} (h : w.heap[b]? = some (.mapIter m s l t)) (o : Obj) : (setObj b o).run P w = .ok () (World.setO w b o) := by
  simp [setObj, Sem.run, h, World.setO]
theorem keep_setO (w : World) (b : Nat) (o : Obj) : Keep (fun x => x = b) w (World.setO w b o) :=
  ⟨rfl, rfl, rfl, by simp [World.setO], fun x _ hx => by simp only [World.setO]; rw [Array.getElem?_setIfInBounds_ne (fun e => hx e.symm)]⟩
theorem setO_same {w : World} {b : Nat} (hb : b < w.heap.size) (o : Obj) : (World.setO w b o).heap[b]? = some o := by simp [World.setO, hb]
section laws
variable {E : Env}
theorem mapObj {P : Program} {ρ : Nat → Loc} {env : Nat → Value} {nx : Nat} {h : H} {w : World} (R : Rel P ρ env nx h w) {r : Nat} {es : List Ent} {c : Nat} (hr : h.get r = some (.map es c)) : ∃ es' : Array MapEntry, w.heap[(ρ r).b]? = some (.map es' c) ∧ EntsR ρ env nx es es'.toList := (R.obj r _ hr).2
theorem put_map {P : Program} {ρ : Nat → Loc} {env : Nat → Value} {nx : Nat} {h : H} {w w0 : World} (R : Rel P ρ env nx h w) {r : Nat} {o : LObj} (hr : h.get r = some o) (hw : w0 = w ∨ w0 = w.drew) {es : List Ent} {es' : Array MapEntry} {c : Nat} (he : EntsR ρ env nx es es'.toList) :
    Goes P ρ env nx h w ρ nx (h.put (some (.map es c)) r) (World.setO w0 (ρ r).b (.map es' c)) := by
  have R0 : Goes P ρ env nx h w ρ nx h w0 := by rcases hw with rfl | rfl; exact Goes.refl R; exact Goes.drew R
  exact R0.trans (R0.rel.put hr (keep_setO _ _ _) ⟨es', setO_same (R0.rel.obj r o hr).2.lt _, he⟩)
theorem keyThatStays_run (P : Program) (old new : Value) (w : World) : ∃ key w0, (Instr.keyThatStays old new).run P w = .ok key w0 ∧ (key = old ∨ key = new) ∧ (w0 = w ∨ w0 = w.drew) := by
  unfold Instr.keyThatStays
  by_cases hb : Instr.sameBits 10000 old new = true
  · exact ⟨new, w, by rw [if_pos hb]; rfl, .inr rfl, .inl rfl⟩
  · rw [if_neg hb]
    by_cases hc : (Question.cut (.extern "map.whichKeyStays" 2) (w.tape w.drawn (.extern "map.whichKeyStays" 2))) = 0
    · exact ⟨new, w.drew, by simp [Sem.run_bind, choose, Sem.run, Question.forced, hc], .inr rfl, .inr rfl⟩
    · exact ⟨old, w.drew, by simp [Sem.run_bind, choose, Sem.run, Question.forced, hc], .inl rfl, .inr rfl⟩
theorem mapUpdate_run (hE : EnvOk E) {ρ : Nat → Loc} {env : Nat → Value} {nx nx' : Nat} {h h' : H} {w : World} (R : Rel E.P ρ env nx h w) {t kt e : TypeId} (hd : E.P.underlying t = some (.map kt e)) {r : Nat} (hlt : On ρ nx r) {k u v : V} {kx ux : Value} (hk : VR ρ env nx k kx) (hu : VR ρ env nx u ux)
    (hf : keyOk E kt k (onMap h r fun es c => ob (findV E kt k es 0) fun q => @Option.rec (Nat × V × Nat) (fun _ => Out) (out .undef (h.put (some (.map (snoc es (k, u, c)) (Nat.add c 1))) r) nx) (fun q => out .undef (h.put (some (.map (setAt u es q.1) c)) r) nx) q) = some (v, h', nx')) :
    ∃ w', (Instr.mapUpdate t (.map (some (ρ r).b)) kx ux).run E.P w = .ok () w' ∧ v = .undef ∧ nx' = nx ∧ Goes E.P ρ env nx h w ρ nx h' w' := by
  obtain ⟨hf, hkey⟩ := keyOk_spec hf
  rw [onMap_eq] at hf
  obtain ⟨es, c, hr, hf⟩ := hf
  rw [ob_eq] at hf
  obtain ⟨q, hq, hf⟩ := hf
  obtain ⟨es', ho, hes⟩ := mapObj R hr
  obtain ⟨q', hq1, hq2⟩ := findKey_run hE hkey hk w hq hes
  have hck := checkKey_run hE hkey hk false w
  rcases hq2 with ⟨rfl, rfl⟩ | ⟨j, v0, b, x, rfl, rfl, hx, hj⟩
  · have hf' : out .undef (h.put (some (.map (snoc es (k, u, c)) (Nat.add c 1))) r) nx = some (v, h', nx') := hf
    rw [out_eq] at hf'
    obtain ⟨rfl, rfl, rfl⟩ := hf'
    have hent : EntsR ρ env nx (es ++ [(k, u, c)]) (es'.push { key := kx, val := ux, born := c }).toList := by
      rw [Array.toList_push]
      exact EntsR.snoc (e := (k, u, c)) (x := { key := kx, val := ux, born := c }) ⟨hk, hu, rfl⟩ hes
    refine ⟨_, ?_, rfl, rfl, by rw [snoc_eq]; exact put_map (c := c + 1) R hr (.inl rfl) hent⟩
    simp only [Instr.mapUpdate, Sem.run_bind, run_underlying hd, Result.andThen_ok, run_getObj_map ho, hck, hq1, run_setObj_map ho]
  · simp only [Nat.zero_add] at hq1 hf
    have hf' : out .undef (h.put (some (.map (setAt u es j) c)) r) nx = some (v, h', nx') := hf
    rw [out_eq] at hf'
    obtain ⟨rfl, rfl, rfl⟩ := hf'
    obtain ⟨x0, hx0, hxr⟩ := hes.get j _ hj
    rw [Array.getElem?_toList] at hx0
    obtain ⟨key, w0, hkr, hkey', hw0⟩ := keyThatStays_run E.P (((es'[j]?).map (·.key)).getD kx) kx w
    have hkk : VR ρ env nx k key := by
      rcases hkey' with rfl | rfl
      · rw [hx0]; exact hxr.1
      · exact hk
    have ho0 : w0.heap[(ρ r).b]? = some (.map es' c) := by rcases hw0 with rfl | rfl <;> exact ho
    have hent : EntsR ρ env nx (setAt u es j) (es'.modify j fun e => { e with key, val := ux }).toList := by
      rw [Array.toList_modify]
      refine EntsR.set hu hes ?_
      intro e1 x1 h1 h2 h3
      rw [hj] at h1; cases h1
      exact ⟨hkk, hu, h3.2.2⟩
    refine ⟨_, ?_, rfl, rfl, put_map (c := c) R hr hw0 hent⟩
    simp only [Instr.mapUpdate, Sem.run_bind, run_underlying hd, Result.andThen_ok, run_getObj_map ho, hck, hq1, hkr, run_setObj_map ho0]
theorem lawMapUpdate (hE : EnvOk E) (t : TypeId) (m k x : Operand) : Law E (oMapUpdate t m k x) (.mapUpdate t m k x) := by
  intro F g h h' nx nx' v ρ env a w d ty pos aft gd hf hg R
  simp only [oMapUpdate, desc_eq, onMapD_eq, ob_eq, onM_eq] at hf
  obtain ⟨dd, hd, kt, e, rfl, um, hum, uk, huk, ux, hux, hf⟩ := hf
  rcases hf with ⟨_, hf⟩ | ⟨r, rfl, hf⟩
  · cases hf
  · have hm := val_vr hum hg
    generalize hme : a.eval m = mv at hm
    cases hm with
    | m hlt =>
      obtain ⟨w', hrun, rfl, rfl, hgo⟩ := mapUpdate_run hE R hd hlt (val_vr huk hg) (val_vr hux hg) hf
      exact ⟨ρ, undef, w', .inr ⟨by simp only [execOp, hme, Sem.run_bind, hrun, Result.andThen_ok, Sem.run_pure], rfl⟩, .tup .nil, hgo⟩
theorem lawInsert (hE : EnvOk E) (t : TypeId) (m k x : Operand) : Law E (oMapUpdate t m k x) (.insert t m k x) := by
  intro F g h h' nx nx' v ρ env a w d ty pos aft gd hf hg R
  simp only [oMapUpdate, desc_eq, onMapD_eq, ob_eq, onM_eq] at hf
  obtain ⟨dd, hd, kt, e, rfl, um, hum, uk, huk, ux, hux, hf⟩ := hf
  rcases hf with ⟨_, hf⟩ | ⟨r, rfl, hf⟩
  · cases hf
  · have hm := val_vr hum hg
    generalize hme : a.eval m = mv at hm
    cases hm with
    | m hlt =>
      obtain ⟨w', hrun, rfl, rfl, hgo⟩ := mapUpdate_run hE R hd hlt (val_vr huk hg) (val_vr hux hg) hf
      exact ⟨ρ, undef, w', .inr ⟨by simp only [execOp, hme, Sem.run_bind, hrun, Result.andThen_ok, Sem.run_pure], rfl⟩, .tup .nil, hgo⟩
theorem zeroV_run {β : Type} {e : TypeId} {f : V → Option β} {y : β} (h : zeroV E e f = some y) (ρ : Nat → Loc) (env : Nat → Value) (nx : Nat) (w : World) : ∃ z x, f z = some y ∧ (zeroValue e).run E.P w = .ok x w ∧ VR ρ env nx z x := by
  unfold zeroV at h
  simp only [ob_eq] at h
  obtain ⟨i, hi, z, hz, v, hv, h⟩ := h
  exact ⟨v, z, h, run_zeroValue hi hz w, ofValue_vr hv⟩
theorem lawLookup (hE : EnvOk E) (t : TypeId) (x y : Operand) (ok : Bool) : Law E (oLookup t x y ok) (.lookup t x y ok) := by
  intro F g h h' nx nx' v ρ env a w d ty pos aft gd hf hg R
  simp only [oLookup, desc_eq, onMapD_eq, ob_eq] at hf
  obtain ⟨dd, hd, kt, e, rfl, um, hum, uk, huk, hf⟩ := hf
  obtain ⟨hf, hkey⟩ := keyOk_spec hf
  rw [ob_eq] at hf
  obtain ⟨es, hes, hf⟩ := hf
  rw [ob_eq] at hf
  obtain ⟨q, hq, hf⟩ := hf
  have hm := val_vr hum hg
  have hk := val_vr huk hg
  generalize hme : a.eval x = mv at hm
  -- the entries
  have K : ∃ es' : Array MapEntry, EntsR ρ env nx es es'.toList ∧ ((mv = .map none ∧ es' = #[]) ∨ ∃ b c, mv = .map (some b) ∧ w.heap[b]? = some (.map es' c)) := by
    rw [onM_eq] at hes
    rcases hes with ⟨rfl, hes⟩ | ⟨r, rfl, hes⟩
    · cases hes; cases hm
      exact ⟨#[], .nil, .inl ⟨rfl, rfl⟩⟩
    · rw [onMap_eq] at hes
      obtain ⟨es0, c, hr, e0⟩ := hes
      cases e0
      cases hm with
      | m hlt =>
        obtain ⟨es', ho, hes'⟩ := mapObj R hr
        exact ⟨es', hes', .inr ⟨_, _, rfl, ho⟩⟩
  obtain ⟨es', hes', hsrc⟩ := K
  obtain ⟨q', hq1, hq2⟩ := findKey_run hE hkey hk w hq hes'
  have hck := checkKey_run hE hkey hk es'.isEmpty w
  have fin : ∀ (u : V) (val : Value) (b : Bool), VR ρ env nx u val → pairOk ok u b h nx = some (v, h', nx') → VR ρ env nx v (if ok then .tuple #[val, .bool b] else val) ∧ h' = h ∧ nx' = nx := by
    intro u val b hv hp
    cases ok with
    | true => cases hp; exact ⟨.tup (.cons hv (.cons .b .nil)), rfl, rfl⟩
    | false => cases hp; exact ⟨hv, rfl, rfl⟩
  rcases hq2 with ⟨rfl, rfl⟩ | ⟨j, v0, b, z, rfl, rfl, hz, hj⟩
  · have hf' : (zeroV E e fun z => pairOk ok z false h nx) = some (v, h', nx') := hf
    obtain ⟨z, zx, hp, hzr, hzv⟩ := zeroV_run hf' ρ env nx w
    obtain ⟨hvr, rfl, rfl⟩ := fin z zx false hzv hp
    refine ⟨ρ, if ok then .tuple #[zx, .bool false] else zx, w, yv ?_, hvr, Goes.refl R⟩
    rcases hsrc with ⟨rfl, rfl⟩ | ⟨b, c, rfl, ho⟩
    · simp only [execOp, Instr.lookup, hme, Sem.run_bind, run_underlying hd, Result.andThen_ok, Sem.run_pure, hck, hq1, hzr]
    · simp only [execOp, Instr.lookup, hme, Sem.run_bind, run_underlying hd, Result.andThen_ok, Sem.run_pure, run_getObj_map ho, hck, hq1, hzr]
  · have hf' : pairOk ok v0 true h nx = some (v, h', nx') := hf
    obtain ⟨hvr, rfl, rfl⟩ := fin v0 z true hz hf'
    refine ⟨ρ, if ok then .tuple #[z, .bool true] else z, w, yv ?_, hvr, Goes.refl R⟩
    rcases hsrc with ⟨rfl, rfl⟩ | ⟨b, c, rfl, ho⟩
    · simp only [execOp, Instr.lookup, hme, Sem.run_bind, run_underlying hd, Result.andThen_ok, Sem.run_pure, hck, hq1]
    · simp only [execOp, Instr.lookup, hme, Sem.run_bind, run_underlying hd, Result.andThen_ok, Sem.run_pure, run_getObj_map ho, hck, hq1]
theorem EntsR.mod {ρ : Nat → Loc} {env : Nat → Value} {nx : Nat} {f : MapEntry → MapEntry} {l : List Ent} : ∀ {xs : List MapEntry} {j : Nat}, EntsR ρ env nx l xs → (∀ e x, l[j]? = some e → xs[j]? = some x → EntR ρ env nx e x → EntR ρ env nx e (f x)) → EntsR ρ env nx l (xs.modify j f) := by
  induction l with
  | nil => intro xs j h _; cases h; rw [List.modify_nil]; exact .nil
  | cons e l ih =>
    intro xs j h hf
    cases h with
    | @cons _ x _ xs h t =>
      cases j with
      | zero => rw [List.modify_zero_cons]; exact .cons (hf e x rfl rfl h) t
      | succ j => rw [List.modify_succ_cons]; exact .cons h (ih t fun e' x' h1 h2 h3 => hf e' x' (by simpa using h1) (by simpa using h2) h3)
theorem lawMapEntry (hE : EnvOk E) (t : TypeId) (m k : Operand) : Law E (oMapEntry t m k) (.mapEntry t m k) := by
  intro F g h h' nx nx' v ρ env a w d ty pos aft gd hf hg R
  simp only [oMapEntry, desc_eq, onMapD_eq, ob_eq, onM_eq] at hf
  obtain ⟨dd, hd, kt, e, rfl, um, hum, uk, huk, hf⟩ := hf
  rcases hf with ⟨_, hf⟩ | ⟨r, rfl, hf⟩
  · cases hf
  · have hm := val_vr hum hg
    have hk := val_vr huk hg
    generalize hme : a.eval m = mv at hm
    generalize hke : a.eval k = kv at hk
    cases hm with
    | m hlt =>
      obtain ⟨hf, hkey⟩ := keyOk_spec hf
      rw [onMap_eq] at hf
      obtain ⟨es, c, hr, hf⟩ := hf
      rw [ob_eq] at hf
      obtain ⟨q, hq, hf⟩ := hf
      obtain ⟨es', ho, hes⟩ := mapObj R hr
      obtain ⟨q', hq1, hq2⟩ := findKey_run hE hkey hk w hq hes
      have hck := checkKey_run hE hkey hk false w
      rcases hq2 with ⟨rfl, rfl⟩ | ⟨j, v0, b, x, rfl, rfl, hx, hj⟩
      · have hf' : (zeroV E e fun z => out (.tup [z, .i .i64 (Int.ofNat c)]) (h.put (some (.map (snoc es (uk, z, c)) (Nat.add c 1))) r) nx) = some (v, h', nx') := hf
        obtain ⟨z, zx, hp, hzr, hzv⟩ := zeroV_run hf' ρ env nx w
        rw [out_eq] at hp
        obtain ⟨rfl, rfl, rfl⟩ := hp
        have hent : EntsR ρ env nx (es ++ [(uk, z, c)]) (es'.push { key := kv, val := zx, born := c }).toList := by
          rw [Array.toList_push]
          exact EntsR.snoc (e := (uk, z, c)) (x := { key := kv, val := zx, born := c }) ⟨hk, hzv, rfl⟩ hes
        refine ⟨ρ, .tuple #[zx, goInt c], _, yv ?_, .tup (.cons hzv (.cons .i .nil)), by rw [snoc_eq]; exact put_map (c := c + 1) R hr (.inl rfl) hent⟩
        simp only [execOp, Instr.mapEntry, hme, hke, Sem.run_bind, run_underlying hd, Result.andThen_ok, run_getObj_map ho, hck, hq1, hzr, run_setObj_map ho, Sem.run_pure]
      · simp only [Nat.zero_add] at hq1 hf
        have hf' : out (.tup [v0, .i .i64 (Int.ofNat b)]) (h.put (some (.map es c)) r) nx = some (v, h', nx') := hf
        rw [out_eq] at hf'
        obtain ⟨rfl, rfl, rfl⟩ := hf'
        obtain ⟨x0, hx0, hxr⟩ := hes.get j _ hj
        rw [Array.getElem?_toList] at hx0
        obtain ⟨key, w0, hkr, hkey', hw0⟩ := keyThatStays_run E.P (((es'[j]?).map (·.key)).getD kv) kv w
        have hkk : VR ρ env nx uk key := by
          rcases hkey' with rfl | rfl
          · rw [hx0]; exact hxr.1
          · exact hk
        have ho0 : w0.heap[(ρ r).b]? = some (.map es' c) := by rcases hw0 with rfl | rfl <;> exact ho
        have hent : EntsR ρ env nx es (es'.modify j fun e => { e with key }).toList := by
          rw [Array.toList_modify]
          refine EntsR.mod hes ?_
          intro e1 x1 h1 h2 h3
          rw [hj] at h1; cases h1
          exact ⟨hkk, h3.2.1, h3.2.2⟩
        have hb : ((es'[j]?).map (fun x => (x.born : Int))).getD 0 = (b : Int) := by rw [hx0]; show ((x0.born : Nat) : Int) = _; rw [hxr.2.2]
        refine ⟨ρ, .tuple #[x, goInt b], _, yv ?_, .tup (.cons hx (.cons .i .nil)), put_map (c := c) R hr hw0 hent⟩
        simp only [execOp, Instr.mapEntry, hme, hke, Sem.run_bind, run_underlying hd, Result.andThen_ok, run_getObj_map ho, hck, hq1, hkr, run_setObj_map ho0, Sem.run_pure, hb]
theorem findAt_spec {ρ : Nat → Loc} {env : Nat → Value} {nx : Nat} (b : Nat) : ∀ (es : List Ent) (es' : List MapEntry) (j0 j : Nat), findAt b es j0 = some j → EntsR ρ env nx es es' → ∃ i, j = j0 + i ∧ es'.findIdx? (fun e => (e.born : Int) == (b : Int)) = some i := by
  intro es
  induction es with
  | nil => intro es' j0 j h _; cases h
  | cons e es ih =>
    intro es' j0 j h hr
    cases hr with
    | @cons _ x _ xs hx t =>
      have e1 : findAt b (e :: es) j0 = @Bool.rec (fun _ => Option Nat) (findAt b es (Nat.add j0 1)) (some j0) (Nat.beq e.2.2 b) := rfl
      rw [e1] at h
      have hbn := hx.2.2
      by_cases hb : e.2.2 = b
      · rw [beq_eq.2 hb] at h
        cases h
        refine ⟨0, rfl, ?_⟩
        rw [List.findIdx?_cons]
        simp [hbn, hb]
      · rw [beq_ne hb] at h
        obtain ⟨i, hi, hfi⟩ := ih xs _ j h t
        refine ⟨i + 1, by rw [hi]; show j0 + 1 + i = _; omega, ?_⟩
        rw [List.findIdx?_cons]
        have : ((x.born : Int) == (b : Int)) = false := by rw [hbn, ← Bool.not_eq_true]; intro e'; exact hb (Int.ofNat.inj (by simpa using e'))
        simp [this, hfi]
theorem lawEntryStore (t : TypeId) (m s x : Operand) : Law E (oEntryStore t m s x) (.entryStore t m s x) := by
  intro F g h h' nx nx' v ρ env a w d ty pos aft gd hf hg R
  simp only [oEntryStore, ob_eq, onM_eq] at hf
  obtain ⟨um, hum, us, hus, ux, hux, hf⟩ := hf
  rcases hf with ⟨_, hf⟩ | ⟨r, rfl, hf⟩
  · cases hf
  · simp only [onN_eq, onMap_eq, ob_eq, out_eq] at hf
    obtain ⟨kk, b, rfl, es, c, hr, j, hj, rfl, rfl, rfl⟩ := hf
    have hm := val_vr hum hg
    have hs := val_vr hus hg
    have hx := val_vr hux hg
    generalize hme : a.eval m = mv at hm
    generalize hse : a.eval s = sv at hs
    cases hs
    cases hm with
    | m hlt =>
      obtain ⟨es', ho, hes⟩ := mapObj R hr
      obtain ⟨i, hi, hfi⟩ := findAt_spec b es es'.toList 0 j hj hes
      obtain rfl : j = i := by omega
      have hfi' : es'.findIdx? (fun e => (e.born : Int) == (Int.ofNat b)) = some j := by
        rw [← hfi]; cases es'; simp
      have hent : EntsR ρ env nx (setAt ux es j) (es'.modify j fun e => { e with val := a.eval x }).toList := by
        rw [Array.toList_modify]
        exact EntsR.set hx hes (fun e1 x1 h1 h2 h3 => ⟨h3.1, hx, h3.2.2⟩)
      refine ⟨ρ, undef, _, .inr ⟨?_, rfl⟩, .tup .nil, put_map (c := c) R hr (.inl rfl) hent⟩
      simp only [execOp, Instr.entryStore, hme, hse, Sem.run_bind, Result.andThen_ok, run_getObj_map ho, asInt, asIntOf, Sem.run_pure, hfi', run_setObj_map ho]
theorem new_iter {P : Program} {ρ : Nat → Loc} {env : Nat → Value} {nx : Nat} {h : H} {w : World} (R : Rel P ρ env nx h w) {m : Option Nat} (hm : ∀ r, m = some r → On ρ nx r) (s t : Nat) (l : List Nat) :
    Goes P ρ env nx h w (more ρ nx ⟨w.heap.size, 0, 0, true⟩) (nx + 1) (h.put (some (.iter m s l t)) nx) (w.alloc (.mapIter (m.map fun r => (ρ r).b) s l.toArray t)) ∧ VR (more ρ nx ⟨w.heap.size, 0, 0, true⟩) env (nx + 1) (.p nx 0) (.pointer (some ⟨w.heap.size, 0, none⟩)) := by
  refine ⟨R.new (keep_alloc w _ _) (Nat.le_refl _) rfl ⟨?_, fun r hr => (hm r hr).mono (agree_more _ _ _) (Nat.le_succ _)⟩, ?_⟩
  · rw [heap_alloc_new]
    congr 2
    cases m with
    | none => rfl
    | some r => simp [more, Nat.ne_of_lt (hm r rfl).1]
  · have := VR.p (ρ := more ρ nx ⟨w.heap.size, 0, 0, true⟩) (env := env) (nx := nx + 1) (r := nx) (o := 0) ⟨Nat.lt_succ_self _, by rw [more_same]⟩
    rw [more_same] at this; exact this
theorem lawRange (t : TypeId) (x : Operand) : Law E (oRange t x) (.range t x) := by
  intro F g h h' nx nx' v ρ env a w d ty pos aft gd hf hg R
  simp only [oRange, desc_eq, onMapD_eq, ob_eq, onM_eq] at hf
  obtain ⟨dd, hd, kt, e, rfl, um, hum, hf⟩ := hf
  have hm := val_vr hum hg
  generalize hme : a.eval x = mv at hm
  rcases hf with ⟨rfl, hf⟩ | ⟨r, rfl, hf⟩
  · rw [out_eq] at hf
    obtain ⟨rfl, rfl, rfl⟩ := hf
    cases hm
    obtain ⟨hgo, hvr⟩ := new_iter R (m := none) (fun r e => by cases e) 0 0 []
    refine ⟨_, _, _, yv ?_, hvr, hgo⟩
    simp [execOp, Instr.range, hme, Sem.run_bind, run_underlying hd]
  · rw [onMap_eq] at hf
    obtain ⟨es, c, hr, hf⟩ := hf
    rw [out_eq] at hf
    obtain ⟨rfl, rfl, rfl⟩ := hf
    cases hm with
    | m hlt =>
      obtain ⟨es', ho, hes⟩ := mapObj R hr
      obtain ⟨hgo, hvr⟩ := new_iter R (m := some r) (fun r' e => by cases e; exact hlt) c c []
      refine ⟨_, _, _, yv ?_, hvr, hgo⟩
      simp [execOp, Instr.range, hme, Sem.run_bind, run_underlying hd, run_getObj_map ho]
end laws
end Go.Proofs.YtemkiobojboceaaGreat.Ev
