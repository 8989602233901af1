/- What the small machine's operations come to, the program's come to: conversions; append and copy. No conditions: over any program. -/
import Derived.Test.YtemkiobojboceaaGreatEvS10
namespace Go.Proofs.YtemkiobojboceaaGreat.Ev
open Go Go.RowKit
set_option linter.unusedSimpArgs false
set_option linter.unusedVariables false

theorem hd_eq {α : Type} {l : List α} {x : α} : hd l = some x ↔ ∃ r, l = x :: r := by
  cases l with
  | nil => exact ⟨fun h => (by cases h), fun ⟨r, h⟩ => (by cases h)⟩
  | cons y l => exact ⟨fun h => (by cases h; exact ⟨l, rfl⟩), fun ⟨r, h⟩ => (by cases h; rfl)⟩
theorem tl_cons {α : Type} (x : α) (l : List α) : tl (x :: l) = l := rfl
def BLaw (E : Env) (b : Builtin) (f : Blt) : Prop := ∀ {ts : Array TypeId} {ty : TypeId} {consts : Array Bool} {l : List V} {xs : Array Value} {h h' : H} {nx nx' : Nat} {v : V} {ρ : Nat → Loc} {env : Nat → Value} {w : World},
  f E ts.toList l h nx = some (v, h', nx') → VRs ρ env nx l xs.toList → Rel E.P ρ env nx h w → ∃ ρ' x w', (builtin b ts ty consts xs).run E.P w = .ok (.value x) w' ∧ VR ρ' env nx' v x ∧ Goes E.P ρ env nx h w ρ' nx' h' w'

section rows
variable {P : Program} {ρ ρ' : Nat → Loc} {env : Nat → Value} {nx : Nat} {h : H} {w w' : World}
/-- a row goes on under another number -/
theorem Rel.move (R : Rel P ρ env nx h w) {r : Nat} {o o' : LObj} (hr : h.get r = some o) (hk : Keep (fun b => b = (ρ r).b) w w') (ho : ObjR P ρ env nx o' (ρ r) w') :
    Goes P ρ env nx h w (more ρ nx (ρ r)) (nx + 1) ((h.put none r).put (some o') nx) w' := by
  have ha := agree_more ρ nx (ρ r)
  have hlt := (R.obj r o hr).1
  have get : ∀ r' x, ((h.put none r).put (some o') nx).get r' = some x → (r' = nx ∧ x = o') ∨ (On ρ nx r' ∧ r' ≠ r ∧ h.get r' = some x) := by
    intro r' x hx
    rw [Tr.get_put] at hx
    split at hx
    · rename_i e; cases hx; exact .inl ⟨e, rfl⟩
    · rw [Tr.get_put] at hx
      split at hx
      · cases hx
      · rename_i e; exact .inr ⟨(R.obj r' x hx).1, e, hx⟩
  refine ⟨fun r' hr' => by simp [more, Nat.ne_of_lt hr'], Nat.le_succ _, hk.mono (fun b e => ⟨r, o, hr, e.symm⟩), ?_, ?_, ?_⟩
  · rintro b ⟨r', x, hx, rfl⟩
    rcases get r' x hx with ⟨rfl, rfl⟩ | ⟨hl, hne, hx⟩
    · rw [more_same]; exact .inl ⟨r, o, hr, rfl⟩
    · rw [ha r' hl]; exact .inl ⟨r', x, hx, rfl⟩
  · intro r' x hx
    rcases get r' x hx with ⟨rfl, rfl⟩ | ⟨hl, hne, hx⟩
    · refine ⟨⟨Nat.lt_succ_self _, by rw [more_same]; exact hlt.2⟩, ?_⟩
      rw [more_same]
      exact ho.mono ha (Nat.le_succ _) rfl
    · refine ⟨hl.mono ha (Nat.le_succ _), ?_⟩
      rw [ha r' hl]
      exact (R.obj r' x hx).2.mono ha (Nat.le_succ _) (hk.block _ (R.obj r' x hx).2.lt (fun q => hne (R.inj _ _ _ _ hx hr q)))
  · intro r1 r2 o1 o2 h1 h2 e
    rcases get r1 o1 h1 with ⟨rfl, rfl⟩ | ⟨hl1, hne1, h1'⟩ <;> rcases get r2 o2 h2 with ⟨e2, rfl⟩ | ⟨hl2, hne2, h2'⟩
    · exact e2.symm
    · rw [more_same, ha r2 hl2] at e; exact absurd (R.inj _ _ _ _ hr h2' e).symm hne2
    · subst e2; rw [more_same, ha r1 hl1] at e; exact absurd (R.inj _ _ _ _ h1' hr e) hne1
    · rw [ha r1 hl1, ha r2 hl2] at e; exact R.inj _ _ _ _ h1' h2' e
theorem Rel.del' (R : Rel P ρ env nx h w) (r : Nat) : Rel P ρ env nx (h.put none r) w := (R.del r).rel
/-- what a slice shows -/
theorem show_run {β : Type} {sz m : Nat} {x : V} {f : List V → Option β} {y : β} (hs : showS sz h x m f = some y) (R : Rel P ρ env nx h w) {xv : Value} (hx : VR ρ env nx x xv) : ∃ l ls, f l = some y ∧ l.length = m * sz ∧ VRs ρ env nx l ls ∧ ∀ w0, w0 = w ∨ w0 = w.drew → (Builtin.firstCells sz m xv).run P w0 = .ok ls.toArray w0 := by
  unfold showS at hs
  rw [onSl_eq] at hs
  rcases hs with ⟨rfl, hs⟩ | ⟨r, o, n, c, rfl, hs⟩
  · simp only [guardB_eq, beq_eq] at hs
    obtain ⟨rfl, hs⟩ := hs
    cases hx
    exact ⟨[], [], hs, by simp, .nil, fun w0 _ => rfl⟩
  · simp only [guardB_eq, ble_eq, onCells_eq, ob_eq, subL_eq] at hs
    obtain ⟨hmn, t, cs, hr, l, ⟨hle, rfl⟩, hs⟩ := hs
    have hle' : m * sz ≤ cs.length - o := hle
    obtain ⟨cur, fz, i0, k1, k2, k3, k4, k5, k6, k7⟩ := (R.obj r _ hr).2
    refine ⟨_, (cur.toList.drop o).take (m * sz), hs, by rw [List.length_take, List.length_drop]; exact Nat.min_eq_left hle', ?_, ?_⟩
    · refine VRs.of_get ?_ ?_
      · simp only [List.length_take, List.length_drop, Array.length_toList]
        show min (m * sz) _ = min (m * sz) _
        omega
      · intro j u hu
        rw [List.getElem?_take] at hu
        split at hu
        · rename_i hj
          rw [List.getElem?_drop] at hu
          obtain ⟨z, hz1, hz2⟩ := k7 _ u hu
          refine ⟨z, ?_, hz2⟩
          have hj' : j < m * sz := hj
          simp only [List.getElem?_take, if_pos hj', List.getElem?_drop, Array.getElem?_toList, hz1]
        · cases hu
    · intro w0 hw0
      have k1' : w0.heap[(ρ r).b]? = some (.cells cur t fz) := by rcases hw0 with rfl | rfl <;> exact k1
      have hload := run_loadCells_list (P := P) w0 ⟨(ρ r).b, o, none⟩ ((cur.toList.drop o).take (m * sz)) (fun j u hu => by
        rw [addr_add, cell_row k1']
        rw [List.getElem?_take] at hu
        split at hu
        · rw [List.getElem?_drop, Array.getElem?_toList] at hu; exact hu
        · cases hu)
      have hlen : ((cur.toList.drop o).take (m * sz)).length = m * sz := by rw [List.length_take, List.length_drop, Array.length_toList]; omega
      rw [hlen] at hload
      cases hx with
      | slk _ _ => exact hload
      | slu _ _ _ => exact hload
theorem len_run {β : Type} {x : V} {f : Nat → Option β} {y : β} (hs : lenS x f = some y) {xv : Value} (hx : VR ρ env nx x xv) : ∃ n, f n = some y ∧ (∀ w, (Builtin.lenOf xv).run P w = .ok n w) ∧ ((x = .sn ∧ n = 0) ∨ ∃ r o c, x = .sl r o n c) := by
  unfold lenS at hs
  rw [onSl_eq] at hs
  rcases hs with ⟨rfl, hs⟩ | ⟨r, o, n, c, rfl, hs⟩
  · cases hx; exact ⟨0, hs, fun w => rfl, .inl ⟨rfl, rfl⟩⟩
  · cases hx <;> exact ⟨n, hs, fun w => rfl, .inr ⟨r, o, _, rfl⟩⟩
theorem growBy_le (m : Nat) : ∀ (k c : Nat), Builtin.growBy m k c ≤ max c (m + (m + 768) / 4) := by
  intro k
  induction k with
  | zero => intro c; simp [Builtin.growBy]; omega
  | succ k ih =>
    intro c
    simp only [Builtin.growBy]
    split
    · omega
    · have := ih (c + (c + 768) / 4)
      omega
theorem nextcap_le (m c : Nat) (h : c < m) : Builtin.nextslicecap m c ≤ 2 * m + 768 := by
  unfold Builtin.nextslicecap
  split
  · omega
  · split
    · omega
    · have := growBy_le m 4 c; omega
theorem room_ok {m bytes c : Nat} (hb : 0 < bytes) (hm : 0 < m) (hc : c < m) (h : m * bytes ≤ 1048576) : ¬ Builtin.nextslicecap m c * bytes > 2 ^ 48 := by
  have h1 := nextcap_le m c hc
  have h2 : Builtin.nextslicecap m c * bytes ≤ (2 * m + 768) * bytes := Nat.mul_le_mul_right _ h1
  have h3 : (2 * m + 768) * bytes = 2 * (m * bytes) + 768 * bytes := by rw [Nat.add_mul, Nat.mul_assoc]
  have h4 : bytes ≤ m * bytes := Nat.le_mul_of_pos_left _ hm
  omega
end rows
section append
variable {E : Env} {ρ : Nat → Loc} {env : Nat → Value} {nx : Nat} {h : H} {w : World} {t t' e e' : TypeId} {inf : TypeInfo} {z : Value}
theorem not_int {e' : TypeId} (ht' : E.P.underlying t' = some (.slice e')) (w : World) : (do pure ((← underlying t') matches .int _) : Sem Bool).run E.P w = .ok false w := by
  rw [Sem.run_bind, run_underlying ht']; rfl
/-- there is room: the new cells are laid behind -/
theorem append_in (ht : E.P.underlying t = some (.slice e)) (ht' : E.P.underlying t' = some (.slice e')) (hi : E.P.info? e = some inf) {base : Option Addr} {k c n : Nat} {xv : Value} (ty : TypeId) {ls : List Value} (hn : ∀ w, (Builtin.lenOf xv).run E.P w = .ok n w)
    (hl : (Builtin.firstCells inf.size n xv).run E.P w = .ok ls.toArray w) (hc : k + n ≤ c) {w' : World} (hs : ∀ a, base = some a → (storeCells (a.add (k * inf.size)) ls).run E.P w = .ok () w') (h0 : base = none → w' = w) :
    (Builtin.append_ #[t, t'] ty #[.slice base k c, xv]).run E.P w = .ok (.slice base (k + n) c) w' := by
  have e1 : (#[t, t'] : Array TypeId)[0]? = some t := rfl
  have e2 : (#[t, t'] : Array TypeId)[1]? = some t' := rfl
  have e3 : (#[.slice base k c, xv] : Array Value)[0]? = some (.slice base k c) := rfl
  have e4 : (#[.slice base k c, xv] : Array Value)[1]? = some xv := rfl
  unfold Builtin.append_
  simp only [e1, e2, e3, e4, Sem.run_bind, run_underlying ht, run_underlying ht', Result.andThen_ok, run_sizeOf hi, Sem.run_pure, Bool.false_eq_true, if_false, hn, Bool.not_false, if_true, hc, hl]
  cases base with
  | none => rw [h0 rfl]; rfl
  | some a => simp only [Sem.run_bind, hs a rfl, Result.andThen_ok, Sem.run_pure]
/-- there is no room: a new row -/
theorem append_new (ht : E.P.underlying t = some (.slice e)) (ht' : E.P.underlying t' = some (.slice e')) (hi : E.P.info? e = some inf) (hz : inf.zero = some z) {base : Option Addr} {k c n : Nat} {xv : Value} (ty : TypeId) {os ls : List Value} (hn : ∀ w, (Builtin.lenOf xv).run E.P w = .ok n w)
    (ho : (Builtin.firstCells inf.size k (.slice base k c)).run E.P w.drew = .ok os.toArray w.drew) (hl : (Builtin.firstCells inf.size n xv).run E.P w.drew = .ok ls.toArray w.drew) (hc : ¬ k + n ≤ c) (hb : 0 < inf.bytes) (hle : (k + n) * inf.bytes ≤ 1048576) :
    ∃ c' rest, k + n ≤ c' ∧ rest.length = (c' - (k + n)) * z.cells.size ∧ (Builtin.append_ #[t, t'] ty #[.slice base k c, xv]).run E.P w = .ok (.slice (some ⟨w.heap.size, 0, none⟩) (k + n) c') (w.drew.alloc (.cells (os ++ ls ++ rest).toArray e)) := by
  have e1 : (#[t, t'] : Array TypeId)[0]? = some t := rfl
  have e2 : (#[t, t'] : Array TypeId)[1]? = some t' := rfl
  have e3 : (#[.slice base k c, xv] : Array Value)[0]? = some (.slice base k c) := rfl
  have e4 : (#[.slice base k c, xv] : Array Value)[1]? = some xv := rfl
  refine ⟨Question.cut (.appendCap (k + n) c e) (w.tape w.drawn (.appendCap (k + n) c e)), (Builtin.zeroCells z.cells (Question.cut (.appendCap (k + n) c e) (w.tape w.drawn (.appendCap (k + n) c e)) - (k + n))).toList, ?_, ?_, ?_⟩
  · simp [Question.cut]
  · simp [Builtin.zeroCells]
  · have hroom : ∀ (m : Nat) (w : World), (askRoom m).run E.P w = .ok () w := by intro m w; unfold askRoom; split <;> rfl
    have hch : (choose (.appendCap (k + n) c e)).run E.P w = .ok (Question.cut (.appendCap (k + n) c e) (w.tape w.drawn (.appendCap (k + n) c e))) w.drew := by
      simp [choose, Sem.run, Question.forced]
    have hno := room_ok (c := c) hb (m := k + n) (by omega) (by omega) hle
    unfold Builtin.append_
    simp only [e1, e2, e3, e4, Sem.run_bind, run_underlying ht, run_underlying ht', Result.andThen_ok, run_sizeOf hi, Sem.run_pure, Bool.false_eq_true, if_false, hn, hc, run_typeInfo hi]
    rw [if_neg (by rintro ⟨_, h | h⟩ <;> first | exact h | omega)]
    simp only [Sem.run_bind, Sem.run_pure, Result.andThen_ok, run_typeInfo hi]
    rw [if_neg hno]
    simp only [Sem.run_bind, Sem.run_pure, Result.andThen_ok, run_typeInfo hi, hch, hroom, ho, Bool.not_false, if_true, hl, run_zeroValue hi hz]
    simp only [Go.newRow, Sem.run_bind, Sem.run_pure, Result.andThen_ok]
    have ea : os.toArray ++ ls.toArray ++ Builtin.zeroCells z.cells (Question.cut (.appendCap (k + n) c e) (w.tape w.drawn (.appendCap (k + n) c e)) - (k + n)) = (os ++ ls ++ (Builtin.zeroCells z.cells (Question.cut (.appendCap (k + n) c e) (w.tape w.drawn (.appendCap (k + n) c e)) - (k + n))).toList).toArray := by apply Array.ext'; simp
    rw [ea]; rfl
theorem slice_new {L : Loc} {n c : Nat} (hc : n ≤ c) (hT : c * L.sz = L.T) (hon : L.on = true := by rfl) : VR (more ρ nx L) env (nx + 1) (.sl nx 0 n none) (.slice (some ⟨L.b, 0, none⟩) n c) := by
  have := VR.slu (ρ := more ρ nx L) (env := env) (nx := nx + 1) (r := nx) (o := 0) (n := n) (c := c) ⟨Nat.lt_succ_self _, by rw [more_same]; exact hon⟩ hc (by rw [more_same]; omega)
  rw [more_same] at this; exact this
/-- a new row, longer than what is known of it -/
theorem new_row_more (R : Rel E.P ρ env nx h w) (hi : E.P.info? e = some inf) {cs : List V} {xs ys : List Value} (hv : VRs ρ env nx cs xs) :
    Goes E.P ρ env nx h w (more ρ nx ⟨w.heap.size, inf.size, (xs ++ ys).length, true⟩) (nx + 1) (h.put (some (.cells e cs)) nx) (w.drew.alloc (.cells (xs ++ ys).toArray e)) := by
  have ha := agree_more ρ nx ⟨w.heap.size, inf.size, (xs ++ ys).length, true⟩
  refine R.new (w' := w.drew.alloc (.cells (xs ++ ys).toArray e)) ⟨rfl, rfl, rfl, (keep_alloc w.drew (.cells (xs ++ ys).toArray e) (fun _ => False)).size, (keep_alloc w.drew (.cells (xs ++ ys).toArray e) (fun _ => False)).block⟩ (Nat.le_refl _) rfl ?_
  refine ⟨(xs ++ ys).toArray, (0, 0), inf, heap_alloc_new w.drew _, by simp, Or.inl rfl, hi, rfl, ?_, ?_⟩
  · have := hv.length; simp; omega
  · intro j v hj
    obtain ⟨x, hx, hvx⟩ := hv.get j v hj
    refine ⟨x, ?_, hvx.mono ha (Nat.le_succ _)⟩
    have hjl : j < xs.length := (List.getElem?_eq_some_iff.1 hx).1
    simp only [List.getElem?_toArray, List.getElem?_append_left hjl, hx]
theorem app_run {s x : V} {h' : H} {nx' : Nat} {v : V} (hf : evApp E e s x h nx = some (v, h', nx')) (ht : E.P.underlying t = some (.slice e)) (ht' : E.P.underlying t' = some (.slice e')) (R : Rel E.P ρ env nx h w) {sv xv : Value} (hs : VR ρ env nx s sv) (hx : VR ρ env nx x xv) (ty : TypeId) :
    ∃ ρ' y w', (Builtin.append_ #[t, t'] ty #[sv, xv]).run E.P w = .ok y w' ∧ VR ρ' env nx' v y ∧ Goes E.P ρ env nx h w ρ' nx' h' w' := by
  unfold evApp at hf
  simp only [ob_eq] at hf
  obtain ⟨inf, hi, z, hz, hf⟩ := hf
  obtain ⟨n, hf1, hn, _⟩ := len_run (P := E.P) hf hx
  clear hf
  obtain ⟨news, ls, hf2, hnl, hnews, hload⟩ := show_run hf1 R hx
  clear hf1
  simp only [guardB_eq, andB_eq, blt_eq, beq_eq] at hf2
  obtain ⟨⟨hsz, hb, hzs, h1⟩, hf⟩ := hf2
  have hone := hnews.allOne h1
  rw [onSl_eq] at hf
  rcases hf with ⟨rfl, hf⟩ | ⟨r, o, k, c, rfl, hf⟩
  · -- nil
    cases hs
    unfold app0 at hf
    by_cases hn0 : n = 0
    · subst hn0
      have hf' : out .sn h nx = some (v, h', nx') := hf
      rw [out_eq] at hf'
      obtain ⟨rfl, rfl, rfl⟩ := hf'
      exact ⟨ρ, .slice none 0 0, w, append_in ht ht' hi ty hn (hload w (.inl rfl)) (Nat.le_refl _) (fun a e => by cases e) (fun _ => rfl), .sn, Goes.refl R⟩
    · rw [beq_ne hn0] at hf
      have hf' : guardB (Nat.ble (Nat.mul n inf.bytes) 1048576) (out (.sl nx 0 n none) (newRow h nx e news) (Nat.add nx 1)) = some (v, h', nx') := hf
      simp only [guardB_eq, ble_eq, out_eq] at hf'
      obtain ⟨hle, rfl, rfl, rfl⟩ := hf'
      have hle' : n * inf.bytes ≤ 1048576 := hle
      obtain ⟨c', rest, hc', hrl, hrun⟩ := append_new (w := w) (base := none) (k := 0) (c := 0) (os := []) ht ht' hi hz ty hn rfl (hload _ (.inr rfl)) (by omega) hb (by simpa using hle')
      simp only [Nat.zero_add, List.nil_append] at hrun hc' hrl
      refine ⟨_, _, _, hrun, slice_new (L := ⟨w.heap.size, inf.size, (ls ++ rest).length, true⟩) hc' ?_, new_row_more R hi hnews⟩
      have := hnews.length
      show c' * inf.size = (ls ++ rest).length
      rw [List.length_append, hrl, hzs, ← this, hnl, ← Nat.add_mul]; congr 1; omega
  · cases c with
    | some c =>
      have hf' : app1 e inf.size inf.bytes n news (.sl r o k (some c)) r o k c h nx = some (v, h', nx') := hf
      unfold app1 at hf'
      have hs' := hs
      cases hs with
      | slk hlt hkc =>
        by_cases hle : k + n ≤ c
        · have hb2 : Nat.ble (Nat.add k n) c = true := ble_eq.2 hle
          rw [hb2] at hf'
          have hf2 : (onCells h r fun t cs => ob (putL news cs (Nat.add o (Nat.mul k inf.size))) fun cs' => out (.sl r o (Nat.add k n) (some c)) (h.put (some (.cells t cs')) r) nx) = some (v, h', nx') := hf'
          simp only [onCells_eq, ob_eq, out_eq] at hf2
          obtain ⟨ty', cs, hr, cs', hp, rfl, rfl, rfl⟩ := hf2
          obtain ⟨w', hst, hgo⟩ := store_goes R hr hp hnews hone
          refine ⟨ρ, .slice (some ⟨(ρ r).b, o, none⟩) (k + n) c, w', append_in ht ht' hi ty hn (hload w (.inl rfl)) hle (fun a e => by cases e; rw [addr_add]; exact hst) (fun e => by cases e), .slk hlt hle, hgo⟩
        · have hb2 : Nat.ble (Nat.add k n) c = false := by rw [← Bool.not_eq_true, ble_eq]; exact hle
          rw [hb2] at hf'
          have hf2 : (showS inf.size h (.sl r o k (some c)) k fun old => guardB (Nat.ble (Nat.mul (Nat.add k n) inf.bytes) 1048576) (out (.sl nx 0 (Nat.add k n) none) (newRow h nx e (app old news)) (Nat.add nx 1))) = some (v, h', nx') := hf'
          obtain ⟨old, os, hf3, hol, hold, hload2⟩ := show_run hf2 R hs'
          clear hf2
          simp only [guardB_eq, ble_eq, out_eq] at hf3
          obtain ⟨hle2, rfl, rfl, rfl⟩ := hf3
          have hle2' : (k + n) * inf.bytes ≤ 1048576 := hle2
          obtain ⟨c', rest, hc', hrl, hrun⟩ := append_new (w := w) (os := os) ht ht' hi hz ty hn (hload2 _ (.inr rfl)) (hload _ (.inr rfl)) hle hb hle2'
          rw [app_eq]
          refine ⟨_, _, _, hrun, slice_new (L := ⟨w.heap.size, inf.size, (os ++ ls ++ rest).length, true⟩) hc' ?_, new_row_more R hi (hold.append hnews)⟩
          have h1 := hnews.length
          have h2 := hold.length
          show c' * inf.size = (os ++ ls ++ rest).length
          rw [List.length_append, List.length_append, hrl, hzs, ← h1, ← h2, hnl, hol, ← Nat.add_mul, ← Nat.add_mul]; congr 1; omega
    | none =>
      have hf' : app2 e inf.size inf.bytes n news (.sl r o k none) r o k h nx = some (v, h', nx') := hf
      unfold app2 at hf'
      have hs' := hs
      cases hs with
      | @slu _ _ _ c hlt hkc hT =>
        by_cases hn0 : n = 0
        · subst hn0
          have hf2 : out (.sl r o k none) h nx = some (v, h', nx') := hf'
          rw [out_eq] at hf2
          obtain ⟨rfl, rfl, rfl⟩ := hf2
          have hls : ls = [] := by have := hnews.length; rw [hnl] at this; cases ls with | nil => rfl | cons _ _ => simp at this
          subst hls
          exact ⟨ρ, _, w, append_in ht ht' hi ty hn (hload w (.inl rfl)) (by omega) (fun a e => rfl) (fun e => by cases e), hs', Goes.refl R⟩
        · rw [beq_ne hn0] at hf'
          have hf2 : (onCells h r fun t cs => guardB (andB (Nat.beq o 0) (andB (Nat.beq (Nat.mul k inf.size) (len cs)) (andB (Nat.beq t e) (Nat.ble (Nat.mul (Nat.add k n) inf.bytes) 1048576)))) (out (.sl nx 0 (Nat.add k n) none) (newRow (h.put none r) nx e (app cs news)) (Nat.add nx 1))) = some (v, h', nx') := hf'
          simp only [onCells_eq, guardB_eq, andB_eq, beq_eq, ble_eq, len_eq, out_eq] at hf2
          obtain ⟨ty', cs, hr, ⟨rfl, hks, rfl, hle2⟩, rfl, rfl, rfl⟩ := hf2
          have hks' : k * inf.size = cs.length := hks
          have hle2' : (k + n) * inf.bytes ≤ 1048576 := hle2
          obtain ⟨cur, fz, i0, k1, k2, k3, k4, k5, k6, k7⟩ := (R.obj r _ hr).2
          rw [hi] at k4; cases k4
          simp only [Nat.zero_add] at hT
          rw [app_eq]
          by_cases hle : k + n ≤ c
          · -- in place
            have hfit : 0 + k * inf.size + 0 + ls.length ≤ cur.size := by
              have h1 := hnews.length
              rw [k2, ← hT, ← k5, ← h1, hnl]
              have : k * inf.size + n * inf.size ≤ c * inf.size := by rw [← Nat.add_mul]; exact Nat.mul_le_mul_right _ hle
              omega
            obtain ⟨w', cur', hst, hk, hb', hs1, hg1⟩ := run_storeCells_row E.P (ρ r).b (k * inf.size) ty' fz ls 0 cur w k1 k3 (by omega) hone
            have hobj : ObjR E.P ρ env nx (.cells ty' (cs ++ news)) (ρ r) w' := by
              refine ⟨cur', fz, inf, hb', by omega, by rw [hs1]; exact k3, hi, k5, ?_, ?_⟩
              · have h1 := hnews.length; simp only [List.length_append]; omega
              · intro j u hj
                rw [hg1 j]
                have h1 := hnews.length
                by_cases hjl : j < cs.length
                · rw [if_neg (by omega)]
                  rw [List.getElem?_append_left hjl] at hj
                  exact k7 j u hj
                · rw [List.getElem?_append_right (by omega)] at hj
                  have hjn : j - cs.length < news.length := (List.getElem?_eq_some_iff.1 hj).1
                  rw [if_pos (by omega)]
                  obtain ⟨y, hy, hvy⟩ := hnews.get _ _ hj
                  exact ⟨y, by rw [← hy]; congr 1; omega, hvy⟩
            refine ⟨_, .slice (some ⟨(ρ r).b, 0, none⟩) (k + n) c, w', append_in ht ht' hi ty hn (hload w (.inl rfl)) hle (fun a e => by cases e; rw [addr_add, Nat.zero_add]; exact hst) (fun e => by cases e), slice_new (L := ρ r) hle hT hlt.2, R.move hr hk hobj⟩
          · -- a new row
            have hso : showS inf.size h (.sl r 0 k none) k (fun l => some l) = some cs := by
              have : showS inf.size h (.sl r 0 k none) k (fun l => some l) = guardB (Nat.ble k k) (onCells h r fun _ cs => ob (subL cs 0 (Nat.mul k inf.size)) fun l => some l) := rfl
              rw [this]
              simp only [guardB_eq, ble_eq, onCells_eq, ob_eq]
              refine ⟨Nat.le_refl _, ty', cs, hr, cs, ?_, rfl⟩
              rw [subL_eq]
              exact ⟨by show k * inf.size ≤ _; omega, by show cs = (cs.drop 0).take (k * inf.size); rw [hks', List.drop_zero, List.take_length]⟩
            obtain ⟨old, os, e0, hol, hold, hload2⟩ := show_run hso R hs'
            cases e0
            obtain ⟨c', rest, hc', hrl, hrun⟩ := append_new (w := w) (os := os) ht ht' hi hz ty hn (hload2 _ (.inr rfl)) (hload _ (.inr rfl)) hle hb hle2'
            have hdel := R.del r
            refine ⟨_, _, _, hrun, slice_new (L := ⟨w.heap.size, inf.size, (os ++ ls ++ rest).length, true⟩) hc' ?_, hdel.trans (new_row_more hdel.rel hi (hold.append hnews))⟩
            have h1 := hnews.length
            have h2 := hold.length
            show c' * inf.size = (os ++ ls ++ rest).length
            rw [List.length_append, List.length_append, hrl, hzs, ← h1, ← h2, hnl, hol, ← Nat.add_mul, ← Nat.add_mul]; congr 1; omega
end append
end Go.Proofs.YtemkiobojboceaaGreat.Ev
