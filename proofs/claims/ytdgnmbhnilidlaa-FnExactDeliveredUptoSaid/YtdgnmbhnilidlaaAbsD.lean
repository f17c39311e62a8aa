/- Each operation that changes nothing, and all of them together. -/
import Derived.Test.YtdgnmbhnilidlaaAbsC
set_option linter.unusedVariables false
set_option linter.unusedSimpArgs false
set_option linter.unusedSectionVars false
namespace Go.Proofs.Ytdgnmbhnilidlaa.Ab
open Go Go.RowKit

section
variable {P : Program} {R : Type}
variable {w0 : World} {S0 : Nat → Prop} {st : St} {rho : Nat → Value} {a : Act} {w : World}

theorem fieldOf_sound {e : TE P} {f off : Nat} {T : TypeId} (h : fieldOf e f = some (off, T)) :
    ∃ fields fld, P.underlying e.T = some (.struct fields) ∧ fields[f]? = some fld ∧ fld.offset = off ∧ fld.type = T ∧ ∃ n, n ≠ 0 ∧ ∀ w, (sizeOf T).run P w = .ok n w := by
  obtain ⟨d, hd, hs⟩ := e.under
  unfold fieldOf at h
  rw [← hs] at h
  cases d with
  | struct fields =>
    simp only [shOf] at h
    cases hg : (fields.toList.map fun f => (f.offset, f.type, P.cellsOf f.type))[f]? with
    | none => rw [hg] at h; simp at h
    | some q =>
      rw [hg] at h
      rw [List.getElem?_map] at hg
      obtain ⟨fld, hf, hq⟩ := Option.map_eq_some_iff.1 hg
      subst hq
      simp only at h
      cases hb : Nat.beq (P.cellsOf fld.type) 0 with
      | true => rw [hb] at h; simp at h
      | false =>
        rw [hb] at h
        simp only [cond_false, Option.some.injEq, Prod.mk.injEq] at h
        obtain ⟨rfl, rfl⟩ := h
        refine ⟨fields, fld, hd, by simpa using hf, rfl, rfl, P.cellsOf fld.type, fun e0 => by rw [e0] at hb; simp at hb, fun w => ?_⟩
        unfold Program.cellsOf at hb ⊢
        cases hi : P.info? fld.type with
        | none => rw [hi] at hb; simp at hb
        | some i => simp [sizeOf, typeInfo, hi]
  | _ => simp [shOf] at h

theorem fieldAt_run {e : TE P} {f off : Nat} {T : TypeId} (h : fieldOf e f = some (off, T)) (A : Addr) (w : World) :
    (Instr.fieldAt e.T (.pointer (some A)) f).run P w = .ok (.pointer (some (A.add off))) w := by
  obtain ⟨fields, fld, hu, hf, ho, hT, n, hn, hs⟩ := fieldOf_sound h
  subst ho hT
  simp [Instr.fieldAt, run_underlying hu, hf, Instr.sureAddr, fieldPlace, hs, hn]

theorem field_run {e : TE P} {f off : Nat} {T : TypeId} (h : fieldOf e f = some (off, T)) (us : Array Value) (w : World) :
    (Instr.field e.T (.agg us) f).run P w = (part T us off).run P w := by
  obtain ⟨fields, fld, hu, hf, ho, hT, n, hn, hs⟩ := fieldOf_sound h
  subst ho hT
  simp [Instr.field, run_underlying hu, hf, asAgg]

theorem cellsAt_row {b : Nat} {us : List Value} {T : TypeId} {fr : Nat × Nat} (h : w.heap[b]? = some (.cells us.toArray T fr)) : cellsAt w ⟨b, 0, none⟩ us := by
  intro j u hu
  rw [Addr.add_lit, Nat.zero_add, cell_of_row w b j _ T fr h]
  simpa using hu

/-- The cells of element i of a row of one's own, in every world with the same blocks. -/
theorem cellsAt_elem {B : Nat} {e : TypeId} {size n : Nat} {g cap : Nat} {us : List Value} (h : w.ownsRow B e size (.slice (some ⟨g, 0, none⟩) n cap) n us) (i : Nat) {w' : World}
    (hw : w'.heap[g]? = w.heap[g]?) : cellsAt w' ⟨g, i * size, none⟩ ((us.drop (i * size)).take size) := by
  intro j u hu
  rw [Addr.add_lit]
  have hu' : us[i * size + j]? = some u := by
    rw [List.getElem?_take] at hu
    split at hu
    · simpa using hu
    · simp at hu
  have hc := h.cells (g := g) rfl (i * size + j) u hu'
  rw [Addr.add_lit, Nat.zero_add] at hc
  rw [World.cell?_of_block (w := w) hw]
  exact hc

theorem own_form {B : Nat} {e : TypeId} {size n : Nat} {v : Value} {us : List Value} (h : w.ownsRow B e size v n us) (hn : 0 < n) : ∃ g cap, v = .slice (some ⟨g, 0, none⟩) n cap ∧ g < w.heap.size := by
  rcases h.2 with ⟨_, h0⟩ | ⟨g, cap, cur, hv, _, hh, _⟩
  · omega
  · exact ⟨g, cap, hv, (Array.getElem?_eq_some_iff.1 hh).1⟩

theorem own_shape {B : Nat} {e : TypeId} {size n : Nat} {v : Value} {us : List Value} (h : w.ownsRow B e size v n us) : ∃ A cap, v = .slice A n cap ∧ n ≤ cap := by
  rcases h.2 with ⟨hv, h0⟩ | ⟨g, cap, cur, hv, _, _, hc, _⟩
  · subst h0; exact ⟨none, 0, hv, Nat.le_refl _⟩
  · exact ⟨_, cap, hv, hc⟩

def PureOk (P : Program) (w0 : World) (S0 : Nat → Prop) (st : St) (rho : Nat → Value) (a : Act) (w : World) (o : Oper) (K : AV → Option R) (r : R) : Prop :=
  ∃ av v, K av = some r ∧ AVR w (Sof w0.heap.size S0 st.hp rho w) st.hp rho av v ∧ RunsV P o a w v

theorem getD_at {α : Type} (xs : List α) (i : Nat) (d : α) (h : i < xs.length) : xs.getD i d = xs[i] := by simp [List.getD_eq_getElem?_getD, h]

theorem pure_move {K : AV → Option R} {r : R} {o : Oper} (x : Operand) (ho : o.op = .move x ∨ o.op = .assign x) (I : InvR w0 S0 st rho a w) (h : K (ev st x) = some r) :
    PureOk P w0 S0 st rho a w o K r := by
  refine ⟨_, a.eval x, h, ev_sound I x, fun w' _ => ?_⟩
  rcases ho with ho | ho <;> simp [execOp, ho]

theorem pure_pick {K : AV → Option R} {r : R} {o : Oper} (c x y : Operand) (ho : o.op = .pick c x y) (I : InvR w0 S0 st rho a w)
    (h : opPick st c x y K = some r) : PureOk P w0 S0 st rho a w o K r := by
  unfold opPick at h
  split at h
  case h_2 => cases h
  rename_i p hc
  have hcv := ev_sound I c
  rw [hc] at hcv
  have hcb := cv_bool hcv
  have hx := ev_sound I x
  have hy := ev_sound I y
  have run : ∀ w', (execOp a.eval o).run P w' = .ok (.value (if p then a.eval x else a.eval y)) w' := fun w' => by
    simp only [execOp, ho, hcb, asBool, pure_bind]; simp
  have base : cond p (K (ev st x)) (K (ev st y)) = some r → PureOk P w0 S0 st rho a w o K r := fun h => by
    cases p with
    | true => exact ⟨_, a.eval x, h, hx, fun w' _ => by simpa using run w'⟩
    | false => exact ⟨_, a.eval y, h, hy, fun w' _ => by simpa using run w'⟩
  unfold pick2 at h
  split at h
  · rename_i t u1 u u2 e1 e2
    rw [e1] at hx
    rw [e2] at hy
    split at h
    · rename_i b' hb
      unfold Ty.cast at hb
      split at hb
      · rename_i htu
        subst htu
        simp only [Option.some.injEq] at hb
        subst hb
        refine ⟨_, _, h, ?_, fun w' _ => run w'⟩
        cases p with
        | true => exact hx
        | false => exact hy
      · cases hb
    · exact base h
  · exact base h

theorem load_run {o : Oper} {T : TypeId} {x : Operand} (ho : o.op = .load T x) {A : Addr} (hx : a.eval x = .pointer (some A)) {v : Value} {w' : World}
    (h : (Instr.loadAt T (.pointer (some A))).run P w' = .ok v w') : (execOp a.eval o).run P w' = .ok (.value v) w' := by
  simp [execOp, ho, hx, h]

theorem pure_load {Δ : List (TE P)} {K : AV → Option R} {r : R} {o : Oper} (T : TypeId) (x : Operand) (ho : o.op = .load T x) (I : InvR w0 S0 st rho a w)
    (h0 : opLoad Δ st T x K = some r) : PureOk P w0 S0 st rho a w o K r := by
  unfold opLoad at h0
  obtain ⟨e, he, h⟩ := Option.bind_eq_some_iff.1 h0
  clear h0
  have hT := TE.find_sound he
  subst hT
  have hx := ev_sound I x
  split at h
  · rename_i g j hev
    rw [hev] at hx
    split at h
    · rename_i cs hcs
      obtain ⟨av, hav, hk⟩ := Option.bind_eq_some_iff.1 h
      obtain ⟨b, hb, hv⟩ := hx.2.2 cs hcs
      obtain ⟨b', us, T', hb', hB, hh, hall⟩ := I.heap.blk _ _ hcs
      have : b = b' := by rw [hb] at hb'; injection hb' with h1; injection h1 with h1; injection h1
      subst this
      obtain ⟨v, hv1, hv2, _⟩ := partOf_sound (P := P) hav hall
      refine ⟨av, v, hk, hv1, fun w' hw' => load_run ho hv ?_⟩
      have hlt : b < w.heap.size := (Array.getElem?_eq_some_iff.1 hh).1
      have := hv2 w' ⟨b, 0, none⟩ rfl (cellsAt_row ((hw' b hlt).trans hh))
      rwa [Addr.add_lit, Nat.zero_add] at this
    · cases h
  · rename_i t y j hev
    rw [hev] at hx
    obtain ⟨av, hav, hk⟩ := Option.bind_eq_some_iff.1 h
    obtain ⟨A, d, hv, hsp, hS, hrep, hc⟩ := hx.2
    obtain ⟨v, hv1, hv2, _⟩ := partOf_sound (P := P) hav (expl_sound (hp := st.hp) (rho := rho) hrep)
    exact ⟨av, v, hk, hv1, fun w' hw' => load_run ho hv (hv2 w' A hsp (cellsAt_agree (S := fun b => b < w.heap.size) hw' hS.2.1 hc))⟩
  · rename_i g i j hev
    rw [hev] at hx
    split at h
    · rename_i e0 t xs hrow
      obtain ⟨av, hav, hk⟩ := Option.bind_eq_some_iff.1 h
      obtain ⟨b, n, c, hr, hv, hi⟩ := hx.2.2 _ _ _ hrow
      obtain ⟨us, hown, hl, hrep⟩ := I.heap.blk _ _ hrow
      rw [hr] at hown
      have hn : n = xs.length := by
        obtain ⟨A, cap, hs, _⟩ := own_shape hown
        injection hs
      subst hn
      rw [getD_at xs i _ hi] at hav
      obtain ⟨v, hv1, hv2, _⟩ := partOf_sound (P := P) hav (expl_sound (hp := st.hp) (rho := rho) (hrep i hi))
      refine ⟨av, v, hk, hv1, fun w' hw' => load_run ho hv ?_⟩
      obtain ⟨g', cap', hs, hlt⟩ := own_form hown (by omega)
      have hbg : b = g' := by injection hs with h1; injection h1 with h1; injection h1
      subst hbg
      have := hv2 w' ⟨b, i * t.size, none⟩ rfl (cellsAt_elem hown i (hw' b hlt))
      rwa [Addr.add_lit] at this
    · cases h
  · cases h

theorem binInt_sound {K : AV → Option R} {r : R} {op : BinOp} {k : IntKind} {x y : Int} (h : binInt op k x y K = some r) (T : TypeId) :
    ∃ av v, K av = some r ∧ (∀ S hp, CVR w S hp rho (match av with | .one c => c | _ => .junk) v) ∧ (∃ c, av = .one c) ∧ ∀ w', (binOp op T (.int k x) (.int k y)).run P w' = .ok v w' := by
  have cmp : ∀ c, cmpInt op x y = some c → K (.one (.val .bool c)) = some r → (∀ w', (binOp op T (.int k x) (.int k y)).run P w' = .ok (.bool c) w') →
      ∃ av v, K av = some r ∧ (∀ S hp, CVR w S hp rho (match av with | .one c => c | _ => .junk) v) ∧ (∃ c, av = .one c) ∧ ∀ w', (binOp op T (.int k x) (.int k y)).run P w' = .ok v w' :=
    fun c _ h2 h3 => ⟨_, .bool c, h2, fun S hp => mk_bool c, ⟨_, rfl⟩, h3⟩
  cases op <;> simp only [binInt, cmpInt, Option.bind_some, Option.bind_none] at h <;> try (cases h; done)
  case add => exact ⟨_, _, h, fun S hp => mk_int _ _, ⟨_, rfl⟩, fun w' => by simp [binOp, Op.intArith]⟩
  case sub => exact ⟨_, _, h, fun S hp => mk_int _ _, ⟨_, rfl⟩, fun w' => by simp [binOp, Op.intArith]⟩
  case mul => exact ⟨_, _, h, fun S hp => mk_int _ _, ⟨_, rfl⟩, fun w' => by simp [binOp, Op.intArith]⟩
  case quo =>
    cases hb : (y == 0) with
    | true => rw [hb] at h; simp at h
    | false =>
      rw [hb] at h
      have hy : y ≠ 0 := by simpa using hb
      exact ⟨_, _, h, fun S hp => mk_int _ _, ⟨_, rfl⟩, fun w' => by simp [binOp, Op.intDiv, hy]⟩
  case rem =>
    cases hb : (y == 0) with
    | true => rw [hb] at h; simp at h
    | false =>
      rw [hb] at h
      have hy : y ≠ 0 := by simpa using hb
      exact ⟨_, _, h, fun S hp => mk_int _ _, ⟨_, rfl⟩, fun w' => by simp [binOp, Op.intDiv, hy]⟩
  all_goals exact cmp _ rfl h fun w' => by simp [binOp, Op.intCmp]

end
end Go.Proofs.Ytdgnmbhnilidlaa.Ab
