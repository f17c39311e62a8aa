/- The operations that change nothing: what the evaluator says is what the machine does, in every world that has the same blocks. -/
import Derived.Test.YtdgnmbhnilidlaaAbsB
set_option linter.unusedVariables false
set_option linter.unusedSimpArgs false
set_option linter.unusedSectionVars false
namespace Go.Proofs.Ytdgnmbhnilidlaa.Ab
open Go Go.RowKit

section
variable {P : Program}

theorem TE.find_sound : ∀ {Δ : List (TE P)} {T : TypeId} {e : TE P}, TE.find Δ T = some e → e.T = T
  | [], _, _, h => by simp [TE.find] at h
  | e0 :: l, T, e, h => by
    simp only [TE.find] at h
    cases hb : Nat.beq e0.T T with
    | true => rw [hb] at h; simp only [cond_true, Option.some.injEq] at h; subst h; exact Nat.eq_of_beq_eq_true hb
    | false => rw [hb] at h; simp only [cond_false] at h; exact find_sound h

theorem TE.under (e : TE P) : ∃ d, P.underlying e.T = some d ∧ shOf P d = e.sh := by
  obtain ⟨d, hd, hs⟩ := Option.map_eq_some_iff.1 e.h1
  exact ⟨d, hd, hs⟩

theorem TE.info (e : TE P) : ∃ i, P.info? e.T = some i ∧ i.zero = some e.zero ∧ i.size = e.size ∧ i.bytes = e.bytes := by
  obtain ⟨i, hi, hz⟩ := Option.map_eq_some_iff.1 e.h2
  simp only [Prod.mk.injEq] at hz
  exact ⟨i, hi, hz⟩

theorem shOf_agg (d : TypeDesc) : (shOf P d).agg = (match d with | .struct _ | .array _ _ => true | _ => false) := by
  cases d <;> rfl

theorem TE.sizeOf_run (e : TE P) (w : World) : (sizeOf e.T).run P w = .ok e.size w := by
  obtain ⟨i, hi, _, hs, _⟩ := e.info
  simp [sizeOf, typeInfo, hi, hs]

theorem TE.cellsOf (e : TE P) : P.cellsOf e.T = e.size := by
  obtain ⟨i, hi, _, hs, _⟩ := e.info
  simp [Program.cellsOf, hi, hs]

theorem TE.isAgg_run (e : TE P) (w : World) : (isAgg e.T).run P w = .ok e.agg w := by
  obtain ⟨d, hd, hs⟩ := e.under
  have h := shOf_agg (P := P) d
  rw [hs] at h
  unfold isAgg TE.agg
  rw [Sem.run_bind, run_underlying hd w, h]
  cases d <;> simp [Result.andThen]

theorem shOf_sl {d : TypeDesc} {E : TypeId} (h : shOf P d = .sl E) : d = .slice E := by
  cases d <;> simp_all [shOf]
theorem shOf_str {d : TypeDesc} (h : shOf P d = .str) : d = .string := by
  cases d <;> simp_all [shOf]
theorem shOf_int {d : TypeDesc} {k : IntKind} (h : shOf P d = .int k) : d = .int k := by
  cases d <;> simp_all [shOf]

theorem elem_of_under {T E : TypeId} (h : P.underlying T = some (.slice E)) : P.elem T = E := by simp [Program.elem, h]

/-- Carried out in any world with the same blocks, it yields v and leaves the world alone. -/
def RunsV (P : Program) (o : Oper) (a : Act) (w : World) (v : Value) : Prop :=
  ∀ w' : World, (∀ b, b < w.heap.size → w'.heap[b]? = w.heap[b]?) → (execOp a.eval o).run P w' = .ok (.value v) w'

variable {w0 : World} {S0 : Nat → Prop} {st : St} {rho : Nat → Value} {a : Act} {w : World} {S : Nat → Prop} {hp : List Blk}

/-! ### What is known of one cell -/
theorem cv_int {k : IntKind} {n : Int} {v : Value} (h : CVR w S hp rho (.val (.int k) n) v) : v = .int k n := by
  have h2 := h.2; simp only [CV0, Rep] at h2; simpa using h2
theorem cv_bool {b : Bool} {v : Value} (h : CVR w S hp rho (.val .bool b) v) : v = .bool b := by
  have h2 := h.2; simp only [CV0, Rep] at h2; simpa using h2
theorem cv_str {s : ByteArray} {v : Value} (h : CVR w S hp rho (.val .str s) v) : v = .string s ∧ s.size ≤ big := by
  have h2 := h.2; simp only [CV0, Rep] at h2; exact ⟨by simpa using h2.1, h2.2⟩
theorem mk_int (k : IntKind) (n : Int) : CVR w S hp rho (.val (.int k) n) (.int k n) := ⟨rfl, by simp only [CV0, Rep]⟩
theorem mk_bool (b : Bool) : CVR w S hp rho (.val .bool b) (.bool b) := ⟨rfl, by simp only [CV0, Rep]⟩
theorem mk_str (s : ByteArray) (h : s.size ≤ big) : CVR w S hp rho (.val .str s) (.string s) := ⟨rfl, by simp only [CV0, Rep]; exact ⟨trivial, h⟩⟩

theorem constC_sound (v : Value) (hv : v.oneCell' = true) : CVR w S hp rho (constC v) v := by
  refine ⟨hv, ?_⟩
  unfold constC
  split
  · simp only [CV0, Rep]
  · simp only [CV0, Rep]
  · rename_i s
    cases hb : Nat.ble s.size 4611686018427387904 with
    | true => simp only [cond_true, CV0, Rep]; exact ⟨trivial, Nat.le_of_ble_eq_true hb⟩
    | false => simp only [cond_false, CV0]
  · rfl
  · rfl
  · trivial

theorem constCs_sound : ∀ (vs : List Value), (∀ v ∈ vs, v.oneCell' = true) → All2 (CVR w S hp rho) (vs.map constC) vs
  | [], _ => trivial
  | v :: vs, h => ⟨constC_sound v (h v (by simp)), constCs_sound vs fun u hu => h u (by simp [hu])⟩

theorem constA_sound (v : Value) : AVR w S hp rho (constA v) v := by
  unfold constA
  split
  · rename_i cs
    cases hb : cs.toList.all Value.oneCell' with
    | true =>
      simp only [cond_true, AVR]
      exact ⟨cs.toList, by simp, constCs_sound _ fun u hu => List.all_eq_true.1 hb u hu⟩
    | false => simp only [cond_false, AVR]
  · trivial
  · rename_i h1 h2
    refine constC_sound v ?_
    cases v <;> first | rfl | exact absurd rfl (h1 _) | exact absurd rfl (h2 _)

theorem ev_sound (I : InvR w0 S0 st rho a w) (x : Operand) : AVR w (Sof w0.heap.size S0 st.hp rho w) st.hp rho (ev st x) (a.eval x) := by
  cases x with
  | tmp t =>
    simp only [ev, St.get, Act.eval]
    by_cases ht : t < st.fr.length
    · obtain ⟨u, hu, hr⟩ := I.fr t st.fr[t] (by simp [ht])
      have e1 : st.fr.getD t .junk = st.fr[t] := by simp [List.getD_eq_getElem?_getD, ht]
      have e2 : a.tmps.getD t undef = u := by simp [Array.getD_eq_getD_getElem?, hu]
      rw [e1, e2]; exact hr
    · have e1 : st.fr.getD t .junk = .junk := by simp [List.getD_eq_getElem?_getD, List.getElem?_eq_none (Nat.le_of_not_lt ht)]
      rw [e1]; trivial
  | const v =>
    simp only [ev, Act.eval]
    exact constA_sound v
  | global g => exact ⟨rfl, trivial⟩
  | func f => exact ⟨rfl, [], rfl, trivial⟩


/-! ### Rows of cells, typed data laid open -/
theorem expl_sound : ∀ {t : Ty} {x : t.den} {d : List Value}, Rep w S t x d → All2 (CVR w S hp rho) (expl t x) d
  | .int k, x, d, h => by have h' := h; simp only [Rep] at h; subst h; exact ⟨⟨rfl, h'⟩, trivial⟩
  | .bool, x, d, h => by have h' := h; simp only [Rep] at h; subst h; exact ⟨⟨rfl, h'⟩, trivial⟩
  | .str, x, d, h => by have h' := h; simp only [Rep] at h; obtain ⟨rfl, _⟩ := h; exact ⟨⟨rfl, h'⟩, trivial⟩
  | .pair t u, x, d, h => by
    simp only [Rep] at h
    obtain ⟨c1, c2, rfl, h1, h2⟩ := h
    exact (expl_sound h1).append (expl_sound h2)
  | .sl t, x, d, h => by have h' := h; simp only [Rep] at h; obtain ⟨A, c, rfl, _⟩ := h; exact ⟨⟨rfl, h'⟩, trivial⟩

theorem cellsAt_drop {A : Addr} (hs : A.spot = none) {us : List Value} (h : cellsAt w A us) (j : Nat) : cellsAt w (A.add j) (us.drop j) := by
  intro i u hu
  rw [Addr.add_add' A hs]
  exact h _ _ (by simpa using hu)

theorem loadAt_agg (e : TE P) (he : e.agg = true) (A : Addr) (us : List Value) (hl : us.length = e.size) (hc : cellsAt w A us) :
    (Instr.loadAt e.T (.pointer (some A))).run P w = .ok (.agg us.toArray) w := by
  have h1 := run_loadCells_list (P := P) w A us hc
  rw [hl] at h1
  simp only [Instr.loadAt, Instr.sureAddr, loadVar, Sem.run_bind, Sem.run_pure, Result.andThen_ok, e.isAgg_run w, he, if_true, e.sizeOf_run w, h1]

theorem loadAt_one (e : TE P) (he : e.agg = false) (A : Addr) (u : Value) (hc : w.cell? A = some u) :
    (Instr.loadAt e.T (.pointer (some A))).run P w = .ok u w := by
  simp only [Instr.loadAt, Instr.sureAddr, loadVar, Sem.run_bind, Sem.run_pure, Result.andThen_ok, e.isAgg_run w, he, Bool.false_eq_true, if_false, run_load, hc]

/-- A part of a row of cells, as a value; and what a load of it comes to. -/
theorem partOf_sound {e : TE P} {cs : List CV} {j : Nat} {av : AV} (h : partOf e cs j = some av) {us : List Value} (hr : All2 (CVR w S hp rho) cs us) :
    ∃ v, AVR w S hp rho av v ∧ (∀ w' A, A.spot = none → cellsAt w' A us → (Instr.loadAt e.T (.pointer (some (A.add j)))).run P w' = .ok v w') ∧
      (∀ w', (part e.T us.toArray j).run P w' = .ok v w') := by
  unfold partOf at h
  cases he : e.agg with
  | true =>
    rw [he] at h
    simp only [cond_true] at h
    cases hb : Nat.ble (j + e.size) cs.length with
    | false => rw [hb] at h; simp at h
    | true =>
      rw [hb] at h
      simp only [cond_true, Option.some.injEq] at h
      subst h
      have hle := Nat.le_of_ble_eq_true hb
      have hlen := hr.len
      have hl : ((us.drop j).take e.size).length = e.size := by simp; omega
      refine ⟨.agg ((us.drop j).take e.size).toArray, ⟨_, rfl, (hr.drop j).take e.size⟩, fun w' A hA hc => ?_, fun w' => ?_⟩
      · refine loadAt_agg e he _ _ hl ?_
        intro i u hu
        refine cellsAt_drop hA hc j i u ?_
        rw [List.getElem?_take] at hu
        split at hu
        · exact hu
        · simp at hu
      · unfold part
        simp only [Sem.run_bind, e.isAgg_run w', he, Result.andThen_ok, if_true, e.sizeOf_run w', Sem.run_pure]
        congr 2
        apply Array.ext'
        simp [List.extract_eq_take_drop, Nat.add_sub_cancel_left]
  | false =>
    rw [he] at h
    simp only [cond_false] at h
    cases hg : cs[j]? with
    | none => rw [hg] at h; simp at h
    | some c =>
      rw [hg] at h
      simp only [Option.some.injEq] at h
      subst h
      obtain ⟨u, hu, hcv⟩ := hr.get j c hg
      refine ⟨u, hcv, fun w' A hA hc => loadAt_one e he _ u (hc j u hu), fun w' => ?_⟩
      unfold part
      simp only [Sem.run_bind, e.isAgg_run w', he, Result.andThen_ok, Bool.false_eq_true, if_false]
      simp [hu]

end
end Go.Proofs.Ytdgnmbhnilidlaa.Ab
