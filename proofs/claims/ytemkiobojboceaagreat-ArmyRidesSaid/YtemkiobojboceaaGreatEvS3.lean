/- What the small machine's operations come to, the program's come to: words. No conditions: over any program. -/
import Derived.Test.YtemkiobojboceaaGreatEvS2
namespace Go.Proofs.YtemkiobojboceaaGreat.Ev
open Go Go.RowKit
set_option linter.unusedSimpArgs false
set_option linter.unusedVariables false

/-- an operation comes to a value, or to none -/
def Yield (r : Result Next) (x : Value) (w : World) : Prop := r = .ok (.value x) w ∨ (r = .ok .skip w ∧ x = undef)
def GR (ρ : Nat → Loc) (env : Nat → Value) (nx : Nat) (g : G) (a : Act) : Prop := ∀ t u, g t = some u → VR ρ env nx u (a.tmps.getD t undef)
/-- an operation's law -/
def Law (E : Env) (f : OpF) (op : Op) : Prop := ∀ {F : Fns} {g : G} {h h' : H} {nx nx' : Nat} {v : V} {ρ : Nat → Loc} {env : Nat → Value} {a : Act} {w : World} {d : Option Tmp} {ty : TypeId} {pos : String} {aft : Array Edge} {gd : Option (Nat × Bool)},
  f E F g h nx = some (v, h', nx') → GR ρ env nx g a → Rel E.P ρ env nx h w → ∃ ρ' x w', Yield ((execOp a.eval ⟨d, op, ty, pos, aft, gd⟩).run E.P w) x w' ∧ VR ρ' env nx' v x ∧ Goes E.P ρ env nx h w ρ' nx' h' w'

section
variable {ρ : Nat → Loc} {env : Nat → Value} {nx : Nat} {g : G} {a : Act}
theorem GR.mono {ρ' : Nat → Loc} {nx' : Nat} (hg : GR ρ env nx g a) (ha : Agree ρ ρ' nx) (hn : nx ≤ nx') : GR ρ' env nx' g a := fun t u h => (hg t u h).mono ha hn
theorem ofCell_vr {x : Value} {v : V} (h : ofCell x = some v) : VR ρ env nx v x := by
  cases x with
  | pointer a => cases a with
    | none => cases h; exact .pn
    | some a => cases h
  | slice a n c => cases a with
    | none =>
      have h' : guardB (andB (Nat.beq n 0) (Nat.beq c 0)) (some V.sn) = some v := h
      simp only [guardB_eq, andB_eq, beq_eq, Option.some.injEq] at h'
      obtain ⟨⟨rfl, rfl⟩, rfl⟩ := h'; exact .sn
    | some a => cases h
  | map r => cases r with
    | none => cases h; exact .mn
    | some a => cases h
  | bool b => cases h; exact .b
  | int k n => cases h; exact .i
  | string s => cases h; exact .s
  | nilFunc => cases h; exact .fnil
  | nilIface => cases h; exact .inil
  | float _ _ => cases h
  | complex _ _ _ => cases h
  | chan _ => cases h
  | func _ _ _ => cases h
  | iface _ _ => cases h
  | agg _ => cases h
  | tuple _ => cases h
theorem ofCells_vrs {l : List Value} : ∀ {vs : List V}, mapO ofCell l = some vs → VRs ρ env nx vs l := by
  induction l with
  | nil => intro vs h; cases h; exact .nil
  | cons x l ih =>
    intro vs h
    obtain ⟨y, r', h1, h2, rfl⟩ := mapO_cons.1 h
    exact .cons (ofCell_vr h1) (ih h2)
theorem ofValue_vr {x : Value} {v : V} (h : ofValue x = some v) : VR ρ env nx v x := by
  cases x with
  | agg cs =>
    have h' : (ob (mapO ofCell cs.toList) fun l => some (V.agg l)) = some v := h
    rw [ob_eq] at h'
    obtain ⟨l, hl, e⟩ := h'
    cases e; exact .agg (ofCells_vrs hl)
  | tuple cs =>
    have h' : @List.rec Value (fun _ => Option V) (some (.tup [])) (fun _ _ _ => none) cs.toList = some v := h
    cases hc : cs.toList with
    | nil => rw [hc] at h'; cases h'; refine .tup ?_; rw [hc]; exact .nil
    | cons _ _ => rw [hc] at h'; cases h'
  | pointer a => exact ofCell_vr h
  | slice a n c => exact ofCell_vr h
  | map r => exact ofCell_vr h
  | bool b => cases h; exact .b
  | int k n => cases h; exact .i
  | string s => cases h; exact .s
  | nilFunc => cases h; exact .fnil
  | nilIface => cases h; exact .inil
  | float _ _ => cases h
  | complex _ _ _ => cases h
  | chan _ => cases h
  | func _ _ _ => cases h
  | iface _ _ => cases h
theorem val_vr {x : Operand} {v : V} (h : val g x = some v) (hg : GR ρ env nx g a) : VR ρ env nx v (a.eval x) := by
  cases x with
  | tmp t => exact hg t v h
  | const c => exact ofValue_vr h
  | global _ => cases h
  | func f => cases h; exact .fn (xs := #[]) .nil
theorem vals_vrs {l : List Operand} (hg : GR ρ env nx g a) : ∀ {vs : List V}, vals g l = some vs → VRs ρ env nx vs (l.map a.eval) := by
  induction l with
  | nil => intro vs h; cases h; exact .nil
  | cons x l ih =>
    intro vs h
    obtain ⟨y, r', h1, h2, rfl⟩ := mapO_cons.1 h
    exact .cons (val_vr h1 hg) (ih h2)
end

section run
variable {P : Program} {w : World} {t : TypeId}
theorem run_isAgg {d : TypeDesc} (hu : P.underlying t = some d) (w : World) : (isAgg t).run P w = .ok (isAggD d) w := by
  unfold isAgg
  rw [Sem.run_bind, run_underlying hu w]
  cases d <;> rfl
theorem run_typeInfo {i : TypeInfo} (hi : P.info? t = some i) (w : World) : (typeInfo t).run P w = .ok i w := by simp [typeInfo, hi]
theorem run_sizeOf {i : TypeInfo} (hi : P.info? t = some i) (w : World) : (sizeOf t).run P w = .ok i.size w := by simp [sizeOf, typeInfo, hi]
theorem run_zeroValue {i : TypeInfo} {z : Value} (hi : P.info? t = some i) (hz : i.zero = some z) (w : World) : (zeroValue t).run P w = .ok z w := by simp [zeroValue, typeInfo, hi, hz]
theorem addr_add (b o j : Nat) : (⟨b, o, none⟩ : Addr).add j = ⟨b, o + j, none⟩ := by unfold Addr.add; split <;> simp_all
theorem cell_row {b o : Nat} {cur : Array Value} {ty : TypeId} {fz : Nat × Nat} (hb : w.heap[b]? = some (.cells cur ty fz)) : w.cell? ⟨b, o, none⟩ = cur[o]? := by simp [World.cell?, hb]
/-- a part of a list of cells, read from values -/
theorem part_vr {E : Env} {ρ : Nat → Loc} {env : Nat → Value} {nx : Nat} {l : List V} {o : Nat} {v : V} (h : partV E t l o = some v) {xs : Array Value} (hx : VRs ρ env nx l xs.toList) (w : World) :
    ∃ x, (part t xs o).run E.P w = .ok x w ∧ VR ρ env nx v x := by
  unfold partV at h
  rw [desc_eq] at h
  obtain ⟨d, hd, h⟩ := h
  have ha := run_isAgg hd w
  cases hb : isAggD d with
  | false =>
    rw [hb] at h ha
    have h' : nth l o = some v := h
    rw [nth_eq] at h'
    obtain ⟨x, h1, h2⟩ := hx.get o v h'
    rw [Array.getElem?_toList] at h1
    refine ⟨x, ?_, h2⟩
    simp [part, Sem.run_bind, ha, h1]
  | true =>
    rw [hb] at h ha
    have h' : (sizeT E t fun n => ob (subL l o n) fun r => some (V.agg r)) = some v := h
    rw [sizeT_eq] at h'
    obtain ⟨i, hi, h'⟩ := h'
    rw [ob_eq] at h'
    obtain ⟨r, hr, e⟩ := h'
    cases e
    obtain ⟨h1, rfl⟩ := subL_eq.1 hr
    refine ⟨.agg (xs.extract o (o + i.size)), ?_, .agg ?_⟩
    · simp [part, Sem.run_bind, ha, run_sizeOf hi]
    · have e : (xs.extract o (o + i.size)).toList = (xs.toList.drop o).take i.size := by
        rw [Array.toList_extract, List.extract_eq_take_drop]; congr 1; omega
      rw [e]; exact (hx.drop o).take _
/-- .. from memory -/
theorem load_vr {E : Env} {ρ : Nat → Loc} {env : Nat → Value} {nx : Nat} {ty : TypeId} {cs : List V} {L : Loc} {o : Nat} {v : V} (h : partV E t cs o = some v) (hr : RowR E.P ρ env nx ty cs L w) :
    ∃ x, (loadVar t ⟨L.b, o, none⟩).run E.P w = .ok x w ∧ VR ρ env nx v x := by
  obtain ⟨cur, fz, i0, h1, h2, h3, _, _, h4, h5⟩ := hr
  unfold partV at h
  rw [desc_eq] at h
  obtain ⟨d, hd, h⟩ := h
  have ha := run_isAgg hd w
  cases hb : isAggD d with
  | false =>
    rw [hb] at h ha
    have h' : nth cs o = some v := h
    rw [nth_eq] at h'
    obtain ⟨x, hx1, hx2⟩ := h5 o v h'
    refine ⟨x, ?_, hx2⟩
    simp [loadVar, Sem.run_bind, ha, cell_row h1, hx1]
  | true =>
    rw [hb] at h ha
    have h' : (sizeT E t fun n => ob (subL cs o n) fun r => some (V.agg r)) = some v := h
    rw [sizeT_eq] at h'
    obtain ⟨i, hi, h'⟩ := h'
    rw [ob_eq] at h'
    obtain ⟨r, hr, e⟩ := h'
    cases e
    obtain ⟨hle, rfl⟩ := subL_eq.1 hr
    have hlen : ((cur.toList.drop o).take i.size).length = i.size := by
      rw [List.length_take, List.length_drop, Array.length_toList]; omega
    have hload := run_loadCells_list (P := E.P) w ⟨L.b, o, none⟩ ((cur.toList.drop o).take i.size) (fun j u hu => by
      rw [addr_add, cell_row h1]
      rw [List.getElem?_take] at hu
      split at hu
      · rw [List.getElem?_drop, Array.getElem?_toList] at hu; exact hu
      · cases hu)
    rw [hlen] at hload
    refine ⟨.agg ((cur.toList.drop o).take i.size).toArray, ?_, .agg ?_⟩
    · simp [loadVar, Sem.run_bind, ha, run_sizeOf hi, hload]
    · refine VRs.of_get ?_ ?_
      · simp only [List.length_take, List.length_drop, Array.length_toList]; omega
      · intro j u hu
        rw [List.getElem?_take] at hu
        split at hu
        · rename_i hj
          rw [List.getElem?_drop] at hu
          obtain ⟨x, hx1, hx2⟩ := h5 _ u hu
          refine ⟨x, ?_, hx2⟩
          simp only [List.getElem?_take, if_pos hj, List.getElem?_drop, Array.getElem?_toList, hx1]
        · cases hu
/-- cells are written into a row -/
theorem store_goes {P : Program} {ρ : Nat → Loc} {env : Nat → Value} {nx : Nat} {h : H} {r o : Nat} {ty : TypeId} {cs cs' vs : List V} {xs : List Value} (R : Rel P ρ env nx h w) (hr : h.get r = some (.cells ty cs)) (hp : putL vs cs o = some cs')
    (hv : VRs ρ env nx vs xs) (h1 : ∀ x ∈ xs, x.oneCell' = true) : ∃ w', (storeCells ⟨(ρ r).b, o, none⟩ xs).run P w = .ok () w' ∧ Goes P ρ env nx h w ρ nx (h.put (some (.cells ty cs')) r) w' := by
  obtain ⟨hlen, rfl⟩ := putL_eq vs cs o cs' hp
  obtain ⟨cur, fz, i0, k1, k2, k3, k4, k5, k6, k7⟩ := (R.obj r _ hr).2
  have hl := hv.length
  obtain ⟨w', cur', hrun, hk, hb', hs, hg⟩ := run_storeCells_row P (ρ r).b o ty fz xs 0 cur w k1 k3 (by omega) h1
  refine ⟨w', hrun, R.put hr hk ?_⟩
  refine ⟨cur', fz, i0, hb', by omega, by rw [hs]; exact k3, k4, k5, by simp only [List.length_append, List.length_take, List.length_drop]; omega, ?_⟩
  intro j v hj
  rw [hg j]
  by_cases hin : o + 0 ≤ j ∧ j < o + 0 + xs.length
  · rw [if_pos hin]
    have : vs[j - o]? = some v := by
      rw [List.append_assoc, List.getElem?_append_right (by simp; omega), List.getElem?_append_left (by simp; omega)] at hj
      rw [← hj]; congr 1; simp; omega
    obtain ⟨x, hx, hvx⟩ := hv.get _ _ this
    exact ⟨x, by simpa using hx, hvx⟩
  · rw [if_neg hin]
    refine k7 j v ?_
    rw [← hj]
    by_cases hlt : j < o
    · rw [List.append_assoc, List.getElem?_append_left (by simp; omega), List.getElem?_take_of_lt hlt]
    · rw [List.getElem?_append_right (by simp; omega), List.getElem?_drop]
      congr 1; simp; omega
/-- a row is made -/
theorem new_row {P : Program} {ρ : Nat → Loc} {env : Nat → Value} {nx : Nat} {h : H} {ty : TypeId} {i : TypeInfo} {cs : List V} {xs : Array Value} (R : Rel P ρ env nx h w) (hi : P.info? ty = some i) (hv : VRs ρ env nx cs xs.toList) :
    Goes P ρ env nx h w (more ρ nx ⟨w.heap.size, i.size, xs.size, true⟩) (nx + 1) (h.put (some (.cells ty cs)) nx) (w.alloc (.cells xs ty)) := by
  have ha := agree_more ρ nx ⟨w.heap.size, i.size, xs.size, true⟩
  refine R.new (keep_alloc w _ _) (Nat.le_refl _) rfl ?_
  refine ⟨xs, (0, 0), i, heap_alloc_new w _, rfl, Or.inl rfl, hi, rfl, ?_, ?_⟩
  · have := hv.length; simp at this; omega
  · intro j v hj
    obtain ⟨x, hx, hvx⟩ := hv.get j v hj
    exact ⟨x, by simpa using hx, hvx.mono ha (Nat.le_succ _)⟩
end run
end Go.Proofs.YtemkiobojboceaaGreat.Ev
