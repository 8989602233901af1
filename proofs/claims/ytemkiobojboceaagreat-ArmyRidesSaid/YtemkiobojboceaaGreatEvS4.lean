/- What the small machine's operations come to, the program's come to: what touches no memory, loads and stores. No conditions: over any program. -/
import Derived.Test.YtemkiobojboceaaGreatEvS3
import Derived.Laws.StructEq
namespace Go.Proofs.YtemkiobojboceaaGreat.Ev
open Go Go.RowKit
set_option linter.unusedSimpArgs false
set_option linter.unusedVariables false

def flatFields (P : Program) : List Field → Nat → Prop
  | [], _ => True
  | f :: l, j => f.name ≠ "_" ∧ f.offset = j ∧ (∃ k, P.underlying f.type = some (.int k)) ∧ flatFields P l (j + 1)
structure FlatOk (P : Program) (t : TypeId) (n : Nat) : Prop where
  desc : P.underlying t = some (.struct (P.fieldsOf t))
  fields : flatFields P (P.fieldsOf t).toList 0
  size : (P.fieldsOf t).toList.length = n
  held : P.stoodInHeld t = false
  guard : P.eqGuardType P.depth t = false
structure EnvOk (E : Env) : Prop where
  mixed : E.P.follows .mixedOrders = true
  flat : ∀ t, 0 < E.flat t → FlatOk E.P t (E.flat t)
  names : ∀ (f : FuncId) (fn : Func), E.P.funcs[f]? = some fn → fn.name ≠ "runtime.NumGoroutine"
  add64 : ∀ f, E.add64 f = true → ∃ fn, E.P.funcs[f]? = some fn ∧ fn.body = none ∧ ∀ (x y c : Nat) (w : World), c ≤ 1 → (callFunc f #[.int .u64 x, .int .u64 y, .int .u64 c]).run E.P w = .ok (.value (.tuple #[.int .u64 (((x + y + c) % 18446744073709551616 : Nat) : Int), .int .u64 (((x + y + c) / 18446744073709551616 : Nat) : Int)])) w

section eq
variable {P : Program} {ρ : Nat → Loc} {env : Nat → Value} {nx : Nat}
theorem allInts_eq {l : List V} (h : allInts l = true) : ∀ v ∈ l, ∃ k n, v = .i k n := by
  intro v hv
  have := allB_eq.1 h v hv
  cases v <;> first | exact ⟨_, _, rfl⟩ | cases this
theorem run_part_int {t : TypeId} {k : IntKind} (hu : P.underlying t = some (.int k)) {xs : Array Value} {j : Nat} {x : Value} (hx : xs.toList[j]? = some x) (w : World) : (part t xs j).run P w = .ok x w := by
  rw [Array.getElem?_toList] at hx
  simp [part, Sem.run_bind, run_isAgg hu, isAggD, hx]
theorem eqFields_ints {d : Nat} (hd : 0 < d) (w : World) (xs ys : Array Value) : ∀ (fs : List Field) (j : Nat) (l r : List V) (b : Bool), flatFields P fs j → l.length = fs.length → eqInts l r = some b →
    VRs ρ env nx l (xs.toList.drop j) → VRs ρ env nx r (ys.toList.drop j) → (Op.eqFields d xs ys fs).run P w = .ok b w := by
  intro fs
  induction fs with
  | nil =>
    intro j l r b _ hl he hx hy
    have : l = [] := by simpa using hl
    subst this
    cases r with
    | nil => cases he; rfl
    | cons _ _ => cases he
  | cons f fs ih =>
    intro j l r b hf hl he hx hy
    obtain ⟨hn, ho, ⟨kk, hk⟩, hrest⟩ := hf
    cases l with
    | nil => simp at hl
    | cons u l =>
      cases r with
      | nil => cases he
      | cons v r =>
        have e1 : eqInts (u :: l) (v :: r) = onI u fun k a => onI v fun k' b => guardB (kEq k k') (@Bool.rec (fun _ => Option Bool) (guardB (andB (allInts l) (allInts r)) (some false)) (eqInts l r) (eqI a b)) := rfl
        rw [e1] at he
        simp only [onI_eq, guardB_eq, kEq_eq] at he
        obtain ⟨k, m, rfl, k', n, rfl, rfl, he⟩ := he
        have hx0 : xs.toList[j]? = some (.int k m) := by
          cases hdr : xs.toList.drop j with
          | nil => rw [hdr] at hx; cases hx
          | cons y ys' =>
            rw [hdr] at hx; cases hx with
            | cons h t => cases h; rw [← List.head?_drop, hdr]; rfl
        have hy0 : ys.toList[j]? = some (.int k n) := by
          cases hdr : ys.toList.drop j with
          | nil => rw [hdr] at hy; cases hy
          | cons y ys' =>
            rw [hdr] at hy; cases hy with
            | cons h t => cases h; rw [← List.head?_drop, hdr]; rfl
        have hx1 : VRs ρ env nx l (xs.toList.drop (j + 1)) := by
          rw [← List.tail_drop]; cases hdr : xs.toList.drop j with
          | nil => rw [hdr] at hx; cases hx
          | cons y ys' => rw [hdr] at hx; cases hx with | cons h t => exact t
        have hy1 : VRs ρ env nx r (ys.toList.drop (j + 1)) := by
          rw [← List.tail_drop]; cases hdr : ys.toList.drop j with
          | nil => rw [hdr] at hy; cases hy
          | cons y ys' => rw [hdr] at hy; cases hy with | cons h t => exact t
        obtain ⟨d', rfl⟩ : ∃ d', d = d' + 1 := ⟨d - 1, by omega⟩
        simp only [Op.eqFields, hn, ne_eq, not_false_eq_true, if_true, Sem.run_bind, ho, run_part_int hk hx0, run_part_int hk hy0, Result.andThen_ok, run_equalIn_int w d' f.type k kk m n hk]
        rw [eqI_eq] at he
        by_cases hmn : m = n
        · subst hmn
          simp only [decide_true] at he
          simp only [beq_self_eq_true, Bool.not_true, Bool.false_eq_true, if_false]
          exact ih (j + 1) l r b hrest (by simpa using hl) he hx1 hy1
        · simp only [hmn, decide_false, guardB_eq] at he
          obtain ⟨_, he⟩ := he
          cases he
          have : (m == n) = false := by simpa using hmn
          simp [this]
/-- comparisons with nil -/
inductive NilEq : TypeDesc → Value → Value → Bool → Prop where
  | ptr_r {e : TypeId} {a : Addr} : NilEq (.pointer e) (.pointer (some a)) (.pointer none) false
  | ptr_l {e : TypeId} {a : Addr} : NilEq (.pointer e) (.pointer none) (.pointer (some a)) false
  | ptr_n {e : TypeId} : NilEq (.pointer e) (.pointer none) (.pointer none) true
  | sl_r {e : TypeId} {a : Addr} {n c : Nat} : NilEq (.slice e) (.slice (some a) n c) (.slice none 0 0) false
  | sl_l {e : TypeId} {a : Addr} {n c : Nat} : NilEq (.slice e) (.slice none 0 0) (.slice (some a) n c) false
  | sl_n {e : TypeId} : NilEq (.slice e) (.slice none 0 0) (.slice none 0 0) true
  | m_r {k e : TypeId} {a : Nat} : NilEq (.map k e) (.map (some a)) (.map none) false
  | m_l {k e : TypeId} {a : Nat} : NilEq (.map k e) (.map none) (.map (some a)) false
  | m_n {k e : TypeId} : NilEq (.map k e) (.map none) (.map none) true
  | f_r {a b : Array TypeId} {c : Bool} {f : Fn} {x y : Array Value} : NilEq (.func a b c) (.func f x y) .nilFunc false
  | f_l {a b : Array TypeId} {c : Bool} {f : Fn} {x y : Array Value} : NilEq (.func a b c) .nilFunc (.func f x y) false
  | f_n {a b : Array TypeId} {c : Bool} : NilEq (.func a b c) .nilFunc .nilFunc true
theorem eq_nil (d : Nat) (w : World) {t : TypeId} {dd : TypeDesc} {x y : Value} {b : Bool} (hd : P.underlying t = some dd) (h : NilEq dd x y b) : (Op.equalIn (d + 1) t x y).run P w = .ok b w := by
  cases h <;> (simp only [Op.equalIn, Sem.run_bind, run_underlying hd, Result.andThen_ok, Sem.run_pure]; try rfl)
/-- are two values the same -/
theorem eqV_run {E : Env} (hE : EnvOk E) {t : TypeId} {u v : V} {b : Bool} (he : eqV E t u v = some b) {x y : Value} (hx : VR ρ env nx u x) (hy : VR ρ env nx v y) (w : World) : (Op.equal t x y).run E.P w = .ok b w := by
  cases hx with
  | b =>
    have he' : (onB v fun b => desc E t fun d => onBoolD d (some (_ == b))) = some b := he
    rw [onB_eq] at he'
    obtain ⟨c, rfl, h⟩ := he'
    rw [desc_eq] at h
    obtain ⟨d, hd, h⟩ := h
    rw [onBoolD_eq] at h
    obtain ⟨rfl, h⟩ := h
    cases h; cases hy
    exact run_equalIn_bool' w 9999 t _ _ hd
  | i =>
    have he' : (onI v fun k' b => guardB (kEq _ k') (desc E t fun d => onIntD d fun _ => some (eqI _ b))) = some b := he
    simp only [onI_eq, guardB_eq, kEq_eq, desc_eq, onIntD_eq] at he'
    obtain ⟨k', n, rfl, rfl, d, hd, kk, rfl, h⟩ := he'
    cases h; cases hy
    rw [eqI_eq]
    rename_i k m
    have := run_equalIn_int (P := E.P) w 9999 t k kk m n hd
    rw [show (Op.equal t (.int k m) (.int k n)).run E.P w = _ from this]
    congr 1
  | s => cases he
  | @p r o hr =>
    cases hy <;> try (cases he; done)
    have he' : (desc E t fun d => onPtrD d (some false)) = some b := he
    rw [desc_eq] at he'
    obtain ⟨d, hd, h⟩ := he'
    rw [onPtrD_eq] at h
    obtain ⟨⟨e, rfl⟩, h⟩ := h
    cases h
    exact eq_nil 9999 w hd (by first | exact .ptr_r | exact .ptr_l | exact .ptr_n | exact .sl_r | exact .sl_l | exact .sl_n | exact .m_r | exact .m_l | exact .m_n | exact .f_r | exact .f_l | exact .f_n)
  | pn =>
    cases hy <;> try (cases he; done)
    · have he' : (desc E t fun d => onPtrD d (some false)) = some b := he
      rw [desc_eq] at he'
      obtain ⟨d, hd, h⟩ := he'
      rw [onPtrD_eq] at h
      obtain ⟨⟨e, rfl⟩, h⟩ := h
      cases h
      exact eq_nil 9999 w hd (by first | exact .ptr_r | exact .ptr_l | exact .ptr_n | exact .sl_r | exact .sl_l | exact .sl_n | exact .m_r | exact .m_l | exact .m_n | exact .f_r | exact .f_l | exact .f_n)
    · have he' : (desc E t fun d => onPtrD d (some true)) = some b := he
      rw [desc_eq] at he'
      obtain ⟨d, hd, h⟩ := he'
      rw [onPtrD_eq] at h
      obtain ⟨⟨e, rfl⟩, h⟩ := h
      cases h
      exact eq_nil 9999 w hd (by first | exact .ptr_r | exact .ptr_l | exact .ptr_n | exact .sl_r | exact .sl_l | exact .sl_n | exact .m_r | exact .m_l | exact .m_n | exact .f_r | exact .f_l | exact .f_n)
  | slk hr hc =>
    cases hy <;> try (cases he; done)
    have he' : (desc E t fun d => onSliceD d fun _ => some false) = some b := he
    rw [desc_eq] at he'
    obtain ⟨d, hd, h⟩ := he'
    rw [onSliceD_eq] at h
    obtain ⟨e, rfl, h⟩ := h
    cases h
    exact eq_nil 9999 w hd (by first | exact .ptr_r | exact .ptr_l | exact .ptr_n | exact .sl_r | exact .sl_l | exact .sl_n | exact .m_r | exact .m_l | exact .m_n | exact .f_r | exact .f_l | exact .f_n)
  | slu hr hc ht =>
    cases hy <;> try (cases he; done)
    have he' : (desc E t fun d => onSliceD d fun _ => some false) = some b := he
    rw [desc_eq] at he'
    obtain ⟨d, hd, h⟩ := he'
    rw [onSliceD_eq] at h
    obtain ⟨e, rfl, h⟩ := h
    cases h
    exact eq_nil 9999 w hd (by first | exact .ptr_r | exact .ptr_l | exact .ptr_n | exact .sl_r | exact .sl_l | exact .sl_n | exact .m_r | exact .m_l | exact .m_n | exact .f_r | exact .f_l | exact .f_n)
  | sn =>
    cases hy <;> try (cases he; done)
    · have he' : (desc E t fun d => onSliceD d fun _ => some false) = some b := he
      rw [desc_eq] at he'
      obtain ⟨d, hd, h⟩ := he'
      rw [onSliceD_eq] at h
      obtain ⟨e, rfl, h⟩ := h
      cases h
      exact eq_nil 9999 w hd (by first | exact .ptr_r | exact .ptr_l | exact .ptr_n | exact .sl_r | exact .sl_l | exact .sl_n | exact .m_r | exact .m_l | exact .m_n | exact .f_r | exact .f_l | exact .f_n)
    · have he' : (desc E t fun d => onSliceD d fun _ => some false) = some b := he
      rw [desc_eq] at he'
      obtain ⟨d, hd, h⟩ := he'
      rw [onSliceD_eq] at h
      obtain ⟨e, rfl, h⟩ := h
      cases h
      exact eq_nil 9999 w hd (by first | exact .ptr_r | exact .ptr_l | exact .ptr_n | exact .sl_r | exact .sl_l | exact .sl_n | exact .m_r | exact .m_l | exact .m_n | exact .f_r | exact .f_l | exact .f_n)
    · have he' : (desc E t fun d => onSliceD d fun _ => some true) = some b := he
      rw [desc_eq] at he'
      obtain ⟨d, hd, h⟩ := he'
      rw [onSliceD_eq] at h
      obtain ⟨e, rfl, h⟩ := h
      cases h
      exact eq_nil 9999 w hd (by first | exact .ptr_r | exact .ptr_l | exact .ptr_n | exact .sl_r | exact .sl_l | exact .sl_n | exact .m_r | exact .m_l | exact .m_n | exact .f_r | exact .f_l | exact .f_n)
  | m hr =>
    cases hy <;> try (cases he; done)
    have he' : (desc E t fun d => onMapD d fun _ _ => some false) = some b := he
    rw [desc_eq] at he'
    obtain ⟨d, hd, h⟩ := he'
    rw [onMapD_eq] at h
    obtain ⟨e, e', rfl, h⟩ := h
    cases h
    exact eq_nil 9999 w hd (by first | exact .ptr_r | exact .ptr_l | exact .ptr_n | exact .sl_r | exact .sl_l | exact .sl_n | exact .m_r | exact .m_l | exact .m_n | exact .f_r | exact .f_l | exact .f_n)
  | mn =>
    cases hy <;> try (cases he; done)
    · have he' : (desc E t fun d => onMapD d fun _ _ => some false) = some b := he
      rw [desc_eq] at he'
      obtain ⟨d, hd, h⟩ := he'
      rw [onMapD_eq] at h
      obtain ⟨e, e', rfl, h⟩ := h
      cases h
      exact eq_nil 9999 w hd (by first | exact .ptr_r | exact .ptr_l | exact .ptr_n | exact .sl_r | exact .sl_l | exact .sl_n | exact .m_r | exact .m_l | exact .m_n | exact .f_r | exact .f_l | exact .f_n)
    · have he' : (desc E t fun d => onMapD d fun _ _ => some true) = some b := he
      rw [desc_eq] at he'
      obtain ⟨d, hd, h⟩ := he'
      rw [onMapD_eq] at h
      obtain ⟨e, e', rfl, h⟩ := h
      cases h
      exact eq_nil 9999 w hd (by first | exact .ptr_r | exact .ptr_l | exact .ptr_n | exact .sl_r | exact .sl_l | exact .sl_n | exact .m_r | exact .m_l | exact .m_n | exact .f_r | exact .f_l | exact .f_n)
  | fn hl =>
    cases hy <;> try (cases he; done)
    have he' : (desc E t fun d => onFuncD d (some false)) = some b := he
    rw [desc_eq] at he'
    obtain ⟨d, hd, h⟩ := he'
    rw [onFuncD_eq] at h
    obtain ⟨⟨_, _, _, rfl⟩, h⟩ := h
    cases h
    exact eq_nil 9999 w hd (by first | exact .ptr_r | exact .ptr_l | exact .ptr_n | exact .sl_r | exact .sl_l | exact .sl_n | exact .m_r | exact .m_l | exact .m_n | exact .f_r | exact .f_l | exact .f_n)
  | fnil =>
    cases hy <;> try (cases he; done)
    · have he' : (desc E t fun d => onFuncD d (some false)) = some b := he
      rw [desc_eq] at he'
      obtain ⟨d, hd, h⟩ := he'
      rw [onFuncD_eq] at h
      obtain ⟨⟨_, _, _, rfl⟩, h⟩ := h
      cases h
      exact eq_nil 9999 w hd (by first | exact .ptr_r | exact .ptr_l | exact .ptr_n | exact .sl_r | exact .sl_l | exact .sl_n | exact .m_r | exact .m_l | exact .m_n | exact .f_r | exact .f_l | exact .f_n)
    · have he' : (desc E t fun d => onFuncD d (some true)) = some b := he
      rw [desc_eq] at he'
      obtain ⟨d, hd, h⟩ := he'
      rw [onFuncD_eq] at h
      obtain ⟨⟨_, _, _, rfl⟩, h⟩ := h
      cases h
      exact eq_nil 9999 w hd (by first | exact .ptr_r | exact .ptr_l | exact .ptr_n | exact .sl_r | exact .sl_l | exact .sl_n | exact .m_r | exact .m_l | exact .m_n | exact .f_r | exact .f_l | exact .f_n)
  | ifc _ => cases he
  | inil => cases he
  | @agg l xs hl =>
    have he' : (onAgg v fun r => guardB (andB (Nat.blt 0 (E.flat t)) (Nat.beq (len l) (E.flat t))) (eqInts l r)) = some b := he
    simp only [onAgg_eq, guardB_eq, andB_eq, blt_eq, beq_eq, len_eq] at he'
    obtain ⟨r, rfl, ⟨h0, h1⟩, h2⟩ := he'
    cases hy with
    | @agg _ ys hr =>
      have hf := hE.flat t h0
      have := run_equalIn_struct (P := E.P) w 9999 t xs ys hf.desc hf.held
      rw [show (Op.equal t (.agg xs) (.agg ys)).run E.P w = _ from this]
      exact eqFields_ints (by omega) w xs ys _ 0 l r b hf.fields (by rw [hf.size, h1]) h2 (by simpa using hl) (by simpa using hr)
  | tup _ => cases he
  | far => cases he
end eq
end Go.Proofs.YtemkiobojboceaaGreat.Ev
