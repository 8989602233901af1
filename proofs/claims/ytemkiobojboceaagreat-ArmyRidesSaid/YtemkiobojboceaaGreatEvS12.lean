/- What the small machine's operations come to, the program's come to: conversions and builtins. No conditions: over any program. -/
import Derived.Test.YtemkiobojboceaaGreatEvS11
namespace Go.Proofs.YtemkiobojboceaaGreat.Ev
open Go Go.RowKit
set_option linter.unusedSimpArgs false
set_option linter.unusedVariables false

section laws
variable {E : Env}
theorem lawConvert (s t : TypeId) (x : Operand) : Law E (oConvert s t x) (.convert s t x) := by
  intro F g h h' nx nx' v ρ env a w d ty pos aft gd hf hg R
  simp only [oConvert, desc_eq, ob_eq] at hf
  obtain ⟨ds, hds, dt, hdt, u, hu, hf⟩ := hf
  have hx := val_vr hu hg
  generalize hxe : a.eval x = xv at hx
  cases dt <;> first | (cases hf; done) | skip
  · rename_i k
    have hf' : (onI u fun _ n => out (.i k (wr k n)) h nx) = some (v, h', nx') := hf
    simp only [onI_eq, out_eq] at hf'
    obtain ⟨k', n, rfl, rfl, rfl, rfl⟩ := hf'
    cases hx
    refine ⟨ρ, .int k (k.wrap n), w, yv ?_, by rw [wr_eq]; exact .i, Goes.refl R⟩
    simp only [execOp, convert, hxe, Sem.run_bind, run_underlying hds, run_underlying hdt, Result.andThen_ok]
    cases ds <;> first | rfl | simp [Conv.intToInt]
  · rename_i e
    have hf' : convS s t u ds e E F g h nx = some (v, h', nx') := hf
    unfold convS at hf'
    simp only [onSliceD_eq, guardB_eq, beq_eq, desc_eq, onIntD_eq] at hf'
    obtain ⟨e', rfl, rfl, de, hde, k, rfl, hk, hf'⟩ := hf'
    have hk8 : k = .u8 := by cases k <;> simp [kNum] at hk <;> rfl
    subst hk8
    rw [hdt] at hds; cases hds
    rw [onSl_eq] at hf'
    rcases hf' with ⟨_, hf'⟩ | ⟨r, o, n, c, rfl, hf'⟩
    · cases hf'
    · simp only [onCells_eq, out_eq] at hf'
      obtain ⟨ty', cs, hr, rfl, rfl, rfl⟩ := hf'
      obtain ⟨cur, fz, i0, k1, k2, k3, k4, k5, k6, k7⟩ := (R.obj r _ hr).2
      have hsh : w.shape? (ρ r).b = some (ty', cur.size) := by simp [World.shape?, k1]
      have hfz : (w.freeze ⟨(ρ r).b, cur.size, none⟩ 1).heap[(ρ r).b]? = some (.cells cur ty' (if fz.1 == fz.2 then (cur.size, cur.size + 1) else (min fz.1 cur.size, max fz.2 (cur.size + 1)))) := by
        simp only [World.freeze, Nat.one_ne_zero, if_false, Array.getElem?_modify, if_true, k1]; rfl
      have hkeep : Keep (fun b => b = (ρ r).b) w (w.freeze ⟨(ρ r).b, cur.size, none⟩ 1) := by
        unfold World.freeze
        rw [if_neg (by decide)]
        exact ⟨rfl, rfl, rfl, by simp, fun b _ hb => by simp only [Array.getElem?_modify]; rw [if_neg (fun e => hb e.symm)]⟩
      have hput := R.put (o' := .cells ty' cs) hr hkeep ⟨cur, _, i0, hfz, k2, by
        right
        split
        · simp
        · rename_i hne
          rcases k3 with rfl | h3
          · simp at hne
          · simp; omega, k4, k5, k6, k7⟩
      have main : ∀ q, xv = .slice (some ⟨(ρ r).b, o, none⟩) n q → (execOp a.eval ⟨d, .convert s s x, ty, pos, aft, gd⟩).run E.P w = .ok (.value xv) (w.freeze ⟨(ρ r).b, cur.size, none⟩ 1) := by
        intro q e
        subst e
        have hmark : (markStringish ⟨(ρ r).b, o, none⟩).run E.P w = .ok () (w.freeze ⟨(ρ r).b, cur.size, none⟩ 1) := by
          simp [markStringish, shape, Sem.run, Sem.run_bind, hsh, Go.freeze]
        simp only [execOp, convert, hxe, Sem.run_bind, run_underlying hdt, Result.andThen_ok, beq_self_eq_true, run_underlying hde, hmark, Sem.run_pure]
      cases hx with
      | slk hlt hc => exact ⟨ρ, _, _, yv (main _ rfl), .slk hlt hc, hput⟩
      | slu hlt hc hT => exact ⟨ρ, _, _, yv (main _ rfl), .slu hlt hc hT, hput⟩
theorem bLen_law : BLaw E .len bLen := by
  intro ts ty consts l xs h h' nx nx' v ρ env w hf hv R
  unfold bLen at hf
  simp only [ob_eq, hd_eq, desc_eq] at hf
  obtain ⟨t, ⟨ts', hts⟩, x, ⟨l', rfl⟩, dd, hd, hf⟩ := hf
  have ht0 : ts[0]? = some t := by rw [← Array.getElem?_toList, hts]; rfl
  obtain ⟨xv, hx0, hx⟩ := hv.get 0 x rfl
  rw [Array.getElem?_toList] at hx0
  have base : ∀ (n : Int), (Builtin.len_ ts ty xs).run E.P w = .ok (goInt n) w → (builtin .len ts ty consts xs).run E.P w = .ok (.value (goInt n)) w := by
    intro n hn
    show ((do pure (.value (← Builtin.len_ ts ty xs)) : Sem Next)).run E.P w = _
    rw [Sem.run_bind, hn]; rfl
  have fin : ∀ n : Nat, nOut n h nx = some (v, h', nx') → (Builtin.len_ ts ty xs).run E.P w = .ok (goInt n) w → ∃ ρ' x w', (builtin .len ts ty consts xs).run E.P w = .ok (.value x) w' ∧ VR ρ' env nx' v x ∧ Goes E.P ρ env nx h w ρ' nx' h' w' := by
    intro n ho hn
    unfold nOut at ho
    rw [out_eq] at ho
    obtain ⟨rfl, rfl, rfl⟩ := ho
    exact ⟨ρ, _, w, base n hn, .i, Goes.refl R⟩
  cases dd <;> first | (cases hf; done) | skip
  · have hf' : (onStr x fun s => nOut s.size h nx) = some (v, h', nx') := hf
    rw [onStr_eq] at hf'
    obtain ⟨s, rfl, ho⟩ := hf'
    cases hx
    exact fin _ ho (by simp [Builtin.len_, ht0, hx0, Sem.run_bind, run_underlying hd])
  · rename_i e
    cases hx <;> first | (cases hf; done) | skip
    · exact fin _ hf (by simp [Builtin.len_, ht0, hx0, Sem.run_bind, run_underlying hd])
    · exact fin _ hf (by simp [Builtin.len_, ht0, hx0, Sem.run_bind, run_underlying hd])
    · exact fin 0 hf (by simp [Builtin.len_, ht0, hx0, Sem.run_bind, run_underlying hd])
    · rename_i j n c he h1 h2
      have hf2 : guardB (Nat.beq c 1) (nOut n h nx) = some (v, h', nx') := hf
      rw [guardB_eq, beq_eq] at hf2
      obtain ⟨hc, ho⟩ := hf2
      obtain ⟨a, k, hxe⟩ := h2 hc
      rw [hxe] at hx0
      exact fin _ ho (by simp [Builtin.len_, ht0, hx0, Sem.run_bind, run_underlying hd])
  · exact fin _ hf (by simp [Builtin.len_, ht0, hx0, Sem.run_bind, run_underlying hd])
  · have hf' : (onM x (nOut 0 h nx) fun r => onMap h r fun es _ => nOut (len es) h nx) = some (v, h', nx') := hf
    rw [onM_eq] at hf'
    rcases hf' with ⟨rfl, ho⟩ | ⟨r, rfl, ho⟩
    · cases hx
      exact fin 0 ho (by simp [Builtin.len_, ht0, hx0, Sem.run_bind, run_underlying hd])
    · rw [onMap_eq] at ho
      obtain ⟨es, c, hr, ho⟩ := ho
      cases hx with
      | m hlt =>
        obtain ⟨es', hb, hes⟩ := mapObj R hr
        rw [len_eq] at ho
        have hl := hes.length
        simp at hl
        exact fin _ ho (by simp [Builtin.len_, ht0, hx0, Sem.run_bind, run_underlying hd, run_getObj_map hb, hl])
theorem bCap_law : BLaw E .cap bCap := by
  intro ts ty consts l xs h h' nx nx' v ρ env w hf hv R
  unfold bCap at hf
  simp only [ob_eq, hd_eq, desc_eq, onSliceD_eq, onSl_eq] at hf
  obtain ⟨t, ⟨ts', hts⟩, x, ⟨l', rfl⟩, dd, hd, e, rfl, hf⟩ := hf
  have ht0 : ts[0]? = some t := by rw [← Array.getElem?_toList, hts]; rfl
  obtain ⟨xv, hx0, hx⟩ := hv.get 0 x rfl
  rw [Array.getElem?_toList] at hx0
  have fin : ∀ n : Nat, nOut n h nx = some (v, h', nx') → (Builtin.cap_ ts ty xs).run E.P w = .ok (goInt n) w → ∃ ρ' x w', (builtin .cap ts ty consts xs).run E.P w = .ok (.value x) w' ∧ VR ρ' env nx' v x ∧ Goes E.P ρ env nx h w ρ' nx' h' w' := by
    intro n ho hn
    unfold nOut at ho
    rw [out_eq] at ho
    obtain ⟨rfl, rfl, rfl⟩ := ho
    refine ⟨ρ, goInt n, w, ?_, .i, Goes.refl R⟩
    show ((do pure (.value (← Builtin.cap_ ts ty xs)) : Sem Next)).run E.P w = _
    rw [Sem.run_bind, hn]; rfl
  rcases hf with ⟨rfl, ho⟩ | ⟨r, o, n, c, rfl, ho⟩
  · cases hx
    exact fin 0 ho (by simp [Builtin.cap_, ht0, hx0, Sem.run_bind, run_underlying hd])
  · obtain ⟨c, rfl, ho⟩ := ho
    cases hx with
    | slk hlt hc => exact fin c ho (by simp [Builtin.cap_, ht0, hx0, Sem.run_bind, run_underlying hd])
theorem fold_run {P : Program} {ρ : Nat → Loc} {env : Nat → Value} {nx : Nat} {f : V → V → Option V} {f' : Value → Value → Sem Value} (hff : ∀ u v r x y w, f u v = some r → VR ρ env nx u x → VR ρ env nx v y → ∃ z, (f' x y).run P w = .ok z w ∧ VR ρ env nx r z) : ∀ (l : List V) (xs : List Value) (u r : V) (x : Value) (w : World), foldV f l u = some r → VR ρ env nx u x → VRs ρ env nx l xs →
    ∃ z, (xs.foldlM f' x).run P w = .ok z w ∧ VR ρ env nx r z := by
  intro l
  induction l with
  | nil => intro xs u r x w h hx hr; cases hr; cases h; exact ⟨x, rfl, hx⟩
  | cons y l ih =>
    intro xs u r x w h hx hr
    cases hr with
    | @cons _ yv _ xs hy ht =>
      have e1 : foldV f (y :: l) u = ob (f u y) (foldV f l) := rfl
      rw [e1, ob_eq] at h
      obtain ⟨z, hz, h⟩ := h
      obtain ⟨zv, hz1, hz2⟩ := hff _ _ _ _ _ w hz hx hy
      obtain ⟨q, hq1, hq2⟩ := ih xs z r zv w h hz2 ht
      exact ⟨q, by rw [List.foldlM_cons, Sem.run_bind, hz1]; exact hq1, hq2⟩
theorem bMin_law : BLaw E .min bMin := by
  intro ts ty consts l xs h h' nx nx' v ρ env w hf hv R
  unfold bMin at hf
  simp only [ob_eq, hd_eq, out_eq] at hf
  obtain ⟨x, ⟨l', rfl⟩, r, hr, rfl, rfl, rfl⟩ := hf
  rw [tl_cons] at hr
  generalize hxl : xs.toList = ll at hv
  cases hv with
  | @cons _ xv _ xs' hx ht =>
    obtain ⟨z, hz1, hz2⟩ := fold_run (P := E.P) (f := minV) (f' := Builtin.min2) (fun u v r x y w hm hx hy => by
      unfold minV at hm
      simp only [onI_eq, Option.some.injEq] at hm
      obtain ⟨k, a, rfl, k', b, rfl, rfl⟩ := hm
      cases hx; cases hy
      refine ⟨.int k (if b < a then b else a), rfl, ?_⟩
      rw [ltI_eq]
      by_cases hab : b < a <;> simp only [hab, decide_true, decide_false, if_true, if_false] <;> exact .i) l' xs' x r xv w hr hx ht
    refine ⟨ρ, z, w, ?_, hz2, Goes.refl R⟩
    show ((do pure (.value (← Builtin.min_ ts ty xs)) : Sem Next)).run E.P w = _
    rw [Sem.run_bind]
    unfold Builtin.min_
    rw [hxl]
    simp only [hz1, Result.andThen_ok, Sem.run_pure]
theorem bMax_law : BLaw E .max bMax := by
  intro ts ty consts l xs h h' nx nx' v ρ env w hf hv R
  unfold bMax at hf
  simp only [ob_eq, hd_eq, out_eq] at hf
  obtain ⟨x, ⟨l', rfl⟩, r, hr, rfl, rfl, rfl⟩ := hf
  rw [tl_cons] at hr
  generalize hxl : xs.toList = ll at hv
  cases hv with
  | @cons _ xv _ xs' hx ht =>
    obtain ⟨z, hz1, hz2⟩ := fold_run (P := E.P) (f := maxV) (f' := Builtin.max2) (fun u v r x y w hm hx hy => by
      unfold maxV at hm
      simp only [onI_eq, Option.some.injEq] at hm
      obtain ⟨k, a, rfl, k', b, rfl, rfl⟩ := hm
      cases hx; cases hy
      refine ⟨.int k (if b > a then b else a), rfl, ?_⟩
      rw [ltI_eq]
      by_cases hab : a < b <;> simp only [hab, decide_true, decide_false, if_true, if_false, gt_iff_lt] <;> exact .i) l' xs' x r xv w hr hx ht
    refine ⟨ρ, z, w, ?_, hz2, Goes.refl R⟩
    show ((do pure (.value (← Builtin.max_ ts ty xs)) : Sem Next)).run E.P w = _
    rw [Sem.run_bind]
    unfold Builtin.max_
    rw [hxl]
    simp only [hz1, Result.andThen_ok, Sem.run_pure]
theorem bAppend_law : BLaw E .append bAppend := by
  intro ts ty consts l xs h h' nx nx' v ρ env w hf hv R
  unfold bAppend at hf
  simp only [ob_eq, hd_eq, desc_eq, onSliceD_eq] at hf
  obtain ⟨t, ⟨ts', hts⟩, t', ⟨ts2, hts2⟩, s, ⟨l', rfl⟩, x, ⟨l2, hl2⟩, dd, hd, e, rfl, dd', hd', e', rfl, hf⟩ := hf
  rw [tl_cons] at hl2
  subst hl2
  rw [hts, tl_cons] at hts2
  subst hts2
  generalize hxl : xs.toList = ll at hv
  cases hv with
  | @cons _ sv _ xs' hs ht =>
    cases ht with
    | @cons _ xv _ xs' hx ht =>
      obtain ⟨ρ', y, w', hrun, hvr, hgo⟩ := app_run hf hd hd' R hs hx ty
      refine ⟨ρ', y, w', ?_, hvr, hgo⟩
      show ((do pure (.value (← Builtin.append_ ts ty xs)) : Sem Next)).run E.P w = _
      rw [Sem.run_bind]
      have e0 : ts[0]? = some t := by rw [← Array.getElem?_toList, hts]; rfl
      have e1 : ts[1]? = some t' := by rw [← Array.getElem?_toList, hts]; rfl
      have e2 : xs[0]? = some sv := by rw [← Array.getElem?_toList, hxl]; rfl
      have e3 : xs[1]? = some xv := by rw [← Array.getElem?_toList, hxl]; rfl
      have ea : Builtin.append_ ts ty xs = Builtin.append_ #[t, t'] ty #[sv, xv] := by
        unfold Builtin.append_
        rw [e0, e1, e2, e3]; rfl
      rw [ea, hrun]; rfl
theorem bCopy_law : BLaw E .copy bCopy := by
  intro ts ty consts l xs h h' nx nx' v ρ env w hf hv R
  unfold bCopy at hf
  simp only [ob_eq, hd_eq, desc_eq, onSliceD_eq] at hf
  obtain ⟨t, ⟨ts', hts⟩, dst, ⟨l', rfl⟩, src, ⟨l2, hl2⟩, dd, hd, e, rfl, hf⟩ := hf
  rw [tl_cons] at hl2
  subst hl2
  have e0 : ts[0]? = some t := by rw [← Array.getElem?_toList, hts]; rfl
  generalize hxl : xs.toList = ll at hv
  cases hv with
  | @cons _ dv _ xs' hdv ht =>
    cases ht with
    | @cons _ sv _ xs' hsv ht =>
      have e2 : xs[0]? = some dv := by rw [← Array.getElem?_toList, hxl]; rfl
      have e3 : xs[1]? = some sv := by rw [← Array.getElem?_toList, hxl]; rfl
      unfold evCopy at hf
      rw [sizeT_eq] at hf
      obtain ⟨inf, hi, hf⟩ := hf
      obtain ⟨dn, hf1, hdn, hdc⟩ := len_run (P := E.P) hf hdv
      clear hf
      obtain ⟨sn, hf2, hsn, _⟩ := len_run (P := E.P) hf1 hsv
      clear hf1
      obtain ⟨ls, lv, hf3, hnl, hls, hload⟩ := show_run hf2 R hsv
      clear hf2
      rw [guardB_eq] at hf3
      obtain ⟨h1, hf3⟩ := hf3
      rw [onSl_eq] at hf3
      rcases hf3 with ⟨rfl, hf3⟩ | ⟨r, o, n, c, rfl, hf3⟩
      · rw [out_eq] at hf3
        obtain ⟨rfl, rfl, rfl⟩ := hf3
        rcases hdc with ⟨_, rfl⟩ | ⟨_, _, _, e⟩
        · cases hdv
          refine ⟨ρ, .int .i64 0, w, ?_, .i, Goes.refl R⟩
          show ((do pure (.value (← Builtin.copy_ ts ty xs)) : Sem Next)).run E.P w = _
          have hl0 := hload w (.inl rfl)
          rw [Nat.min_zero] at hl0
          simp [Sem.run_bind, Builtin.copy_, e0, e2, e3, run_underlying hd, hsn, run_sizeOf hi, hl0, goInt]
        · cases e
      · simp only [onCells_eq, ob_eq, out_eq] at hf3
        obtain ⟨ty', cs, hr, cs', hp, rfl, rfl, rfl⟩ := hf3
        obtain ⟨w', hst, hgo⟩ := store_goes R hr hp hls (hls.allOne h1)
        have hl0 := hload w (.inl rfl)
        have main : ∀ q, dv = .slice (some ⟨(ρ r).b, o, none⟩) n q → n = dn → (builtin .copy ts ty consts xs).run E.P w = .ok (.value (.int .i64 (min sn dn : Nat))) w' := by
          intro q hq hn
          subst hq
          subst hn
          show ((do pure (.value (← Builtin.copy_ ts ty xs)) : Sem Next)).run E.P w = _
          simp [Sem.run_bind, Builtin.copy_, e0, e2, e3, run_underlying hd, hsn, run_sizeOf hi, hl0, hst, goInt]
        have hn : n = dn := by
          rcases hdc with ⟨e, _⟩ | ⟨_, _, _, e⟩
          · cases e
          · cases e; rfl
        cases hdv with
        | slk hlt hc => exact ⟨ρ, _, w', main _ rfl hn, .i, hgo⟩
        | slu hlt hc hT => exact ⟨ρ, _, w', main _ rfl hn, .i, hgo⟩
theorem bDelete_law (hE : EnvOk E) : BLaw E .delete bDelete := by
  intro ts ty consts l xs h h' nx nx' v ρ env w hf hv R
  unfold bDelete at hf
  simp only [ob_eq, hd_eq, desc_eq, onMapD_eq] at hf
  obtain ⟨t, ⟨ts', hts⟩, m, ⟨l', rfl⟩, k, ⟨l2, hl2⟩, dd, hd, kt, e, rfl, hf⟩ := hf
  rw [tl_cons] at hl2
  subst hl2
  have e0 : ts[0]? = some t := by rw [← Array.getElem?_toList, hts]; rfl
  generalize hxl : xs.toList = ll at hv
  cases hv with
  | @cons _ mv _ xs' hm ht =>
    cases ht with
    | @cons _ kv _ xs' hk ht =>
      have e2 : xs[0]? = some mv := by rw [← Array.getElem?_toList, hxl]; rfl
      have e3 : xs[1]? = some kv := by rw [← Array.getElem?_toList, hxl]; rfl
      obtain ⟨hf1, hkey⟩ := keyOk_spec hf
      clear hf
      rw [onM_eq] at hf1
      rcases hf1 with ⟨rfl, hf⟩ | ⟨r, rfl, hf⟩
      · rw [out_eq] at hf
        obtain ⟨rfl, rfl, rfl⟩ := hf
        cases hm
        refine ⟨ρ, .tuple #[], w, ?_, .tup .nil, Goes.refl R⟩
        show ((do pure (.value (← Builtin.delete_ ts ty xs)) : Sem Next)).run E.P w = _
        simp [Sem.run_bind, Builtin.delete_, e0, e2, e3, run_underlying hd, checkKey_run hE hkey hk]
      · rw [onMap_eq] at hf
        obtain ⟨es, c, hr, hf⟩ := hf
        rw [ob_eq] at hf
        obtain ⟨q, hq, hf⟩ := hf
        cases hm with
        | m hlt =>
          obtain ⟨es', ho, hes⟩ := mapObj R hr
          obtain ⟨q', hq1, hq2⟩ := findKey_run hE hkey hk w hq hes
          rcases hq2 with ⟨rfl, rfl⟩ | ⟨j, v0, b, x, rfl, rfl, hx, hj⟩
          · have hf' : out .undef (h.put (some (.map es c)) r) nx = some (v, h', nx') := hf
            rw [out_eq] at hf'
            obtain ⟨rfl, rfl, rfl⟩ := hf'
            refine ⟨ρ, .tuple #[], _, ?_, .tup .nil, put_map (c := c) R hr (.inl rfl) hes⟩
            show ((do pure (.value (← Builtin.delete_ ts ty xs)) : Sem Next)).run E.P w = _
            simp [Sem.run_bind, Builtin.delete_, e0, e2, e3, run_underlying hd, run_getObj_map ho, checkKey_run hE hkey hk, hq1, run_setObj_map ho]
          · simp only [Nat.zero_add] at hq1 hf
            have hf' : out .undef (h.put (some (.map (delAt es j) c)) r) nx = some (v, h', nx') := hf
            rw [out_eq] at hf'
            obtain ⟨rfl, rfl, rfl⟩ := hf'
            have hent : EntsR ρ env nx (delAt es j) (es'.eraseIdxIfInBounds j).toList := by
              have : (es'.eraseIdxIfInBounds j).toList = es'.toList.eraseIdx j := by simp
              rw [this]; exact hes.del j
            refine ⟨ρ, .tuple #[], _, ?_, .tup .nil, put_map (c := c) R hr (.inl rfl) hent⟩
            show ((do pure (.value (← Builtin.delete_ ts ty xs)) : Sem Next)).run E.P w = _
            simp [Sem.run_bind, Builtin.delete_, e0, e2, e3, run_underlying hd, run_getObj_map ho, checkKey_run hE hkey hk, hq1, run_setObj_map ho]
theorem bClear_law : BLaw E .clear bClear := by
  intro ts ty consts l xs h h' nx nx' v ρ env w hf hv R
  unfold bClear at hf
  simp only [ob_eq, hd_eq] at hf
  obtain ⟨t, ⟨ts', hts⟩, x, ⟨l', rfl⟩, hf⟩ := hf
  have e0 : ts[0]? = some t := by rw [← Array.getElem?_toList, hts]; rfl
  generalize hxl : xs.toList = ll at hv
  cases hv with
  | @cons _ xv _ xs' hx ht =>
    have e2 : xs[0]? = some xv := by rw [← Array.getElem?_toList, hxl]; rfl
    have base : ∀ w', (Builtin.clear_ ts ty xs).run E.P w = .ok (.tuple #[]) w' → (builtin .clear ts ty consts xs).run E.P w = .ok (.value (.tuple #[])) w' := by
      intro w' hw
      show ((do pure (.value (← Builtin.clear_ ts ty xs)) : Sem Next)).run E.P w = _
      rw [Sem.run_bind, hw]; rfl
    have rowcase : ∀ r o n q, xv = .slice (some ⟨(ρ r).b, o, none⟩) n q → (desc E t fun d => onSliceD d fun e => ob (E.P.info? e) fun inf => zeroT E e fun z => onCells h r fun ty cs => guardB (Nat.beq (len z) inf.size) (ob (putL (rep n z) cs o) fun cs' => out .undef (h.put (some (.cells ty cs')) r) nx)) = some (v, h', nx') →
        ∃ ρ' x w', (builtin .clear ts ty consts xs).run E.P w = .ok (.value x) w' ∧ VR ρ' env nx' v x ∧ Goes E.P ρ env nx h w ρ' nx' h' w' := by
      intro r o n q hq hf
      subst hq
      simp only [desc_eq, onSliceD_eq, ob_eq, zeroT_eq, onCells_eq, guardB_eq, beq_eq, len_eq, out_eq] at hf
      obtain ⟨dd, hd, e, rfl, inf, hi, i2, z, zl, hi2, hz, hl, ty', cs, hr, hzl, cs', hp, rfl, rfl, rfl⟩ := hf
      rw [hi] at hi2; cases hi2
      by_cases hn : n = 0
      · subst hn
        have hcs : cs' = cs := by
          have := (putL_eq _ _ _ _ hp).2
          have h0 : (rep 0 zl).length = 0 := by rw [rep_length]; simp
          have h1 : rep 0 zl = [] := by cases hr0 : rep 0 zl with | nil => rfl | cons _ _ => rw [hr0] at h0; simp at h0
          rw [h1] at this; simpa using this
        subst hcs
        exact ⟨ρ, _, w, base w (by simp [Builtin.clear_, e0, e2, Sem.run_bind, run_underlying hd]), .tup .nil, R.put hr (Keep.refl _ _) (R.obj r _ hr).2⟩
      · by_cases hz0 : 0 < zl.length
        · have hv := zero_row (ofCells_vrs (ρ := ρ) (env := env) (nx := nx) hl) hz0 n
          have hlz := (ofCells_vrs (ρ := ρ) (env := env) (nx := nx) hl).length
          have hlz' : z.cells.size = zl.length := by simpa using hlz.symm
          have h1 : ∀ x ∈ ((Array.range (n * zl.length)).map fun i => z.cells[i % z.cells.size]!).toList, x.oneCell' = true := by
            intro x hx
            obtain ⟨j, hj⟩ := List.mem_iff_getElem?.1 hx
            obtain ⟨u, hu⟩ : ∃ u, (rep n zl)[j]? = some u := ⟨_, List.getElem?_eq_getElem (by have := hv.length; have h2 := (List.getElem?_eq_some_iff.1 hj).1; omega)⟩
            obtain ⟨y, hy, hyu⟩ := hv.get j u hu
            rw [hj] at hy; cases hy
            refine hyu.one ?_
            rw [rep_get zl hz0] at hu
            split at hu
            · have hm : u ∈ zl := List.mem_of_getElem? hu
              -- every cell of a zero value is one
              have : ∀ (l : List Value) (vs : List V), mapO ofCell l = some vs → ∀ u ∈ vs, u.one = true := by
                intro l
                induction l with
                | nil => intro vs h u hu; cases h; cases hu
                | cons x l ih =>
                  intro vs h u hu
                  obtain ⟨y, r', h1, h2, rfl⟩ := mapO_cons.1 h
                  cases hu with
                  | head =>
                    cases x with
                    | pointer a => cases a with | none => cases h1; rfl | some _ => cases h1
                    | slice a n c => cases a with
                      | none =>
                        have h' : guardB (andB (Nat.beq n 0) (Nat.beq c 0)) (some V.sn) = some _ := h1
                        rw [guardB_eq] at h'; cases h'.2; rfl
                      | some _ => cases h1
                    | map a => cases a with | none => cases h1; rfl | some _ => cases h1
                    | _ => first | (cases h1; rfl) | cases h1
                  | tail _ hu => exact ih r' h2 u hu
              exact this _ _ hl u hm
            · cases hu
          obtain ⟨w', hst, hgo⟩ := store_goes R hr hp hv h1
          obtain ⟨n', rfl⟩ : ∃ n', n = n' + 1 := ⟨n - 1, by omega⟩
          refine ⟨ρ, _, w', base w' ?_, .tup .nil, hgo⟩
          have hzc : (Builtin.zeroCells z.cells (n' + 1)) = ((Array.range ((n' + 1) * zl.length)).map fun i => z.cells[i % z.cells.size]!) := by
            unfold Builtin.zeroCells; rw [hlz']
          simp at hst
          simp [Builtin.clear_, e0, e2, Sem.run_bind, run_underlying hd, run_zeroValue hi hz, hzc, hst]
        · have hz1 : zl = [] := by cases zl with | nil => rfl | cons _ _ => simp at hz0
          subst hz1
          have hcs : cs' = cs := by
            have := (putL_eq _ _ _ _ hp).2
            have h0 : (rep n ([] : List V)).length = 0 := by rw [rep_length]; simp
            have h1 : rep n ([] : List V) = [] := by cases hr0 : rep n ([] : List V) with | nil => rfl | cons _ _ => rw [hr0] at h0; simp at h0
            rw [h1] at this; simpa using this
          subst hcs
          have hzs : z.cells = #[] := by
            have := (ofCells_vrs (ρ := ρ) (env := env) (nx := nx) hl).length
            cases hc : z.cells with
            | mk l => rw [hc] at this; cases l with | nil => rfl | cons _ _ => simp at this
          obtain ⟨n', rfl⟩ : ∃ n', n = n' + 1 := ⟨n - 1, by omega⟩
          exact ⟨ρ, _, w, base w (by simp [Builtin.clear_, e0, e2, Sem.run_bind, run_underlying hd, run_zeroValue hi hz, hzs, Builtin.zeroCells, storeCells]), .tup .nil, R.put hr (Keep.refl _ _) (R.obj r _ hr).2⟩
    cases hx <;> first | (cases hf; done) | skip
    · exact rowcase _ _ _ _ rfl hf
    · exact rowcase _ _ _ _ rfl hf
    · have hf' : (desc E t fun d => onSliceD d fun _ => out .undef h nx) = some (v, h', nx') := hf
      simp only [desc_eq, onSliceD_eq, out_eq] at hf'
      obtain ⟨dd, hd, e, rfl, rfl, rfl, rfl⟩ := hf'
      exact ⟨ρ, _, w, base w (by simp [Builtin.clear_, e0, e2, Sem.run_bind, run_underlying hd]), .tup .nil, Goes.refl R⟩
    · rename_i r hlt
      have hf' : (desc E t fun d => onMapD d fun _ _ => onMap h r fun _ c => out .undef (h.put (some (.map [] c)) r) nx) = some (v, h', nx') := hf
      simp only [desc_eq, onMapD_eq, onMap_eq, out_eq] at hf'
      obtain ⟨dd, hd, kt, e, rfl, es, c, hr, rfl, rfl, rfl⟩ := hf'
      obtain ⟨es', ho, hes⟩ := mapObj R hr
      exact ⟨ρ, _, _, base _ (by simp [Builtin.clear_, e0, e2, Sem.run_bind, run_underlying hd, run_getObj_map ho, run_setObj_map ho]), .tup .nil, put_map (es := []) (es' := #[]) (c := c) R hr (.inl rfl) .nil⟩
    · have hf' : (desc E t fun d => onMapD d fun _ _ => out .undef h nx) = some (v, h', nx') := hf
      simp only [desc_eq, onMapD_eq, out_eq] at hf'
      obtain ⟨dd, hd, kt, e, rfl, rfl, rfl, rfl⟩ := hf'
      exact ⟨ρ, _, w, base w (by simp [Builtin.clear_, e0, e2, Sem.run_bind, run_underlying hd]), .tup .nil, Goes.refl R⟩
end laws
end Go.Proofs.YtemkiobojboceaaGreat.Ev
