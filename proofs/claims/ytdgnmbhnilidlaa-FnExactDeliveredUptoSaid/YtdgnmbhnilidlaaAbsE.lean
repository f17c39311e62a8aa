/- The rest of the operations that change nothing, and all of them together. -/
import Derived.Test.YtdgnmbhnilidlaaAbsD2
import Derived.Laws.Small
set_option linter.unusedVariables false
set_option linter.unusedSimpArgs false
set_option linter.unusedSectionVars false
namespace Go.Proofs.Ytdgnmbhnilidlaa.Ab
open Go Go.RowKit

section
variable {P : Program} {R : Type}
variable {w0 : World} {S0 : Nat → Prop} {st : St} {rho : Nat → Value} {a : Act} {w : World}

theorem shOf_bool {d : TypeDesc} (h : shOf P d = .bool) : d = .bool := by
  cases d <;> simp_all [shOf]

theorem pure_bin {Δ : List (TE P)} {K : AV → Option R} {r : R} {o : Oper} (op : BinOp) (T U : TypeId) (X Y : Operand) (ho : o.op = .binOp op T X Y U) (I : InvR w0 S0 st rho a w)
    (h : opBin Δ st op T X Y K = some r) : PureOk P w0 S0 st rho a w o K r := by
  have hx := ev_sound I X
  have hy := ev_sound I Y
  unfold opBin at h
  split at h
  · rename_i k x k' y e1 e2
    rw [e1] at hx; rw [e2] at hy
    split at h
    · rename_i hk
      subst hk
      obtain ⟨av, v, hK, hcv, ⟨c, hc⟩, hrun⟩ := binInt_sound (rho := rho) (P := P) (w := w) h T
      subst hc
      refine ⟨_, v, hK, hcv _ _, fun w' _ => ?_⟩
      simp [execOp, ho, cv_int hx, cv_int hy, eqGuard_at_int, hrun]
    · cases h
  · rename_i x y e1 e2
    rw [e1] at hx; rw [e2] at hy
    obtain ⟨e, he, h1⟩ := Option.bind_eq_some_iff.1 h
    have hT := TE.find_sound he
    split at h1
    · rename_i hsh
      obtain ⟨d, hd, hs⟩ := e.under
      rw [hsh] at hs
      rw [shOf_bool hs, hT] at hd
      cases op <;> simp only [binBool] at h1 <;> first | cases h1; done | skip
      · exact ⟨_, _, h1, mk_bool _, fun w' _ => by simp only [execOp, ho, cv_bool hx, cv_bool hy, eqGuard_at_bool, pure_bind]; simp [run_eql_bool w' T x y hd]⟩
      · exact ⟨_, _, h1, mk_bool _, fun w' _ => by simp only [execOp, ho, cv_bool hx, cv_bool hy, eqGuard_at_bool, pure_bind]; simp [run_neq_bool w' T x y hd]⟩
    · cases h1
  · rename_i x y e1 e2
    rw [e1] at hx; rw [e2] at hy
    have hX := (cv_str hx).1
    have hY := (cv_str hy).1
    cases op <;> simp only [binStr] at h <;> first | cases h; done | skip
    · cases hb : Nat.ble (x.size + y.size) 4611686018427387904 with
      | false => rw [hb] at h; simp at h
      | true =>
        rw [hb] at h
        have hle := Nat.le_of_ble_eq_true hb
        refine ⟨_, .string (x ++ y), h, mk_str _ (by simp only [ByteArray.size_append, big]; omega), fun w' _ => ?_⟩
        simp [execOp, ho, hX, hY, eqGuard_at_string, binOp, Op.stringOp]
        omega
    · exact ⟨_, _, h, mk_bool _, fun w' _ => by simp [execOp, ho, hX, hY, eqGuard_at_string, binOp, Op.stringOp]⟩
    · exact ⟨_, _, h, mk_bool _, fun w' _ => by simp [execOp, ho, hX, hY, eqGuard_at_string, binOp, Op.stringOp]⟩
  · rename_i xs ys e1 e2
    split at h
    · obtain ⟨e, he, h1⟩ := Option.bind_eq_some_iff.1 h
      cases ha : e.agg with
      | false => rw [ha] at h1; cases h1
      | true =>
        rw [ha] at h1
        obtain ⟨b, hb, hK⟩ := Option.bind_eq_some_iff.1 h1
        exact pure_eqAgg false T U X Y ho I e1 e2 he ha hb hK
    · obtain ⟨e, he, h1⟩ := Option.bind_eq_some_iff.1 h
      cases ha : e.agg with
      | false => rw [ha] at h1; cases h1
      | true =>
        rw [ha] at h1
        obtain ⟨b, hb, hK⟩ := Option.bind_eq_some_iff.1 h1
        exact pure_eqAgg true T U X Y ho I e1 e2 he ha hb hK
    · cases h
  · cases h

theorem pure_un {K : AV → Option R} {r : R} {o : Oper} (op : UnOp) (T : TypeId) (x : Operand) (ho : o.op = .unOp op T x) (I : InvR w0 S0 st rho a w) (h : opUn st op x K = some r) :
    PureOk P w0 S0 st rho a w o K r := by
  have hx := ev_sound I x
  unfold opUn at h
  split at h
  · rename_i b hb
    rw [hb] at hx
    have := cv_bool hx
    exact ⟨_, _, h, mk_bool _, fun w' _ => by simp [execOp, ho, this, Op.unary]⟩
  · rename_i k n hb
    rw [hb] at hx
    have := cv_int hx
    exact ⟨_, _, h, mk_int _ _, fun w' _ => by simp [execOp, ho, this, Op.unary, Op.intArith]⟩
  · cases h

theorem pure_fieldAddr {Δ : List (TE P)} {K : AV → Option R} {r : R} {o : Oper} (T : TypeId) (x : Operand) (f : Nat) (ho : o.op = .fieldAddr T x f) (I : InvR w0 S0 st rho a w)
    (h0 : opFieldAddr Δ st T x f K = some r) : PureOk P w0 S0 st rho a w o K r := by
  unfold opFieldAddr at h0
  obtain ⟨e, he, h1⟩ := Option.bind_eq_some_iff.1 h0
  obtain ⟨⟨off, F⟩, hf, h⟩ := Option.bind_eq_some_iff.1 h1
  clear h0 h1
  have hT := TE.find_sound he
  subst hT
  have hx := ev_sound I x
  have run : ∀ A, a.eval x = .pointer (some A) → ∀ w', (execOp a.eval o).run P w' = .ok (.value (.pointer (some (A.add off)))) w' := fun A hA w' => by
    simp [execOp, ho, hA, fieldAt_run hf A w']
  split at h
  · rename_i g j hev
    rw [hev] at hx
    split at h
    · rename_i cs hcs
      obtain ⟨b, hb, hv⟩ := hx.2.2 cs hcs
      refine ⟨_, .pointer (some ⟨b, j + off, none⟩), h, ⟨rfl, hx.2.1, fun cs' hcs' => ⟨b, hb, rfl⟩⟩, fun w' _ => ?_⟩
      have := run _ hv w'
      rwa [Addr.add_lit] at this
    · cases h
  · rename_i t y j hev
    rw [hev] at hx
    obtain ⟨A, d, hv, hsp, hS, hrep, hc⟩ := hx.2
    refine ⟨_, .pointer (some (A.add (j + off))), h, ⟨rfl, A, d, rfl, hsp, hS, hrep, hc⟩, fun w' _ => ?_⟩
    have := run _ hv w'
    rwa [Addr.add_add' A hsp] at this
  · rename_i g i j hev
    rw [hev] at hx
    split at h
    · rename_i e0 t xs hrow
      obtain ⟨b, n, c, e1, hv, hi⟩ := hx.2.2 _ _ _ hrow
      refine ⟨_, .pointer (some ⟨b, i * t.size + (j + off), none⟩), h, ⟨rfl, hx.2.1, fun e' t' xs' hr' => ?_⟩, fun w' _ => ?_⟩
      · rw [hrow] at hr'
        injection hr' with hr'
        injection hr' with h1 h2 h3
        subst h1; subst h2
        cases h3
        exact ⟨b, n, c, e1, rfl, hi⟩
      · have := run _ hv w'
        rwa [Addr.add_lit, Nat.add_assoc] at this
    · cases h
  · cases h

theorem pure_field {Δ : List (TE P)} {K : AV → Option R} {r : R} {o : Oper} (T : TypeId) (x : Operand) (f : Nat) (ho : o.op = .field T x f) (I : InvR w0 S0 st rho a w)
    (h0 : opField Δ st T x f K = some r) : PureOk P w0 S0 st rho a w o K r := by
  unfold opField at h0
  obtain ⟨s, hs, h1⟩ := Option.bind_eq_some_iff.1 h0
  obtain ⟨⟨off, F⟩, hf, h2⟩ := Option.bind_eq_some_iff.1 h1
  obtain ⟨e, he, h⟩ := Option.bind_eq_some_iff.1 h2
  clear h0 h1 h2
  have hT := TE.find_sound hs
  subst hT
  have hF := TE.find_sound he
  simp only at hF
  subst hF
  have hx := ev_sound I x
  split at h
  · rename_i cs hev
    rw [hev] at hx
    obtain ⟨us, hv, hall⟩ := hx
    obtain ⟨av, hav, hk⟩ := Option.bind_eq_some_iff.1 h
    obtain ⟨v, hv1, _, hv3⟩ := partOf_sound (P := P) hav hall
    exact ⟨av, v, hk, hv1, fun w' _ => by simp [execOp, ho, hv, field_run hf, hv3 w']⟩
  · cases h

theorem pure_indexAddr {Δ : List (TE P)} {K : AV → Option R} {r : R} {o : Oper} (T : TypeId) (x i : Operand) (ho : o.op = .indexAddr T x i) (I : InvR w0 S0 st rho a w)
    (h0 : opIndexAddr Δ st T x i K = some r) : PureOk P w0 S0 st rho a w o K r := by
  unfold opIndexAddr at h0
  obtain ⟨e, he, h⟩ := Option.bind_eq_some_iff.1 h0
  clear h0
  have hT := TE.find_sound he
  subst hT
  have hx := ev_sound I x
  have hi := ev_sound I i
  obtain ⟨d, hd, hs⟩ := e.under
  split at h
  · rename_i E k n hsh hei
    rw [hei] at hi
    have hiv := cv_int hi
    rw [hsh] at hs
    rw [shOf_sl hs] at hd
    obtain ⟨ee, hee, h'⟩ := Option.bind_eq_some_iff.1 h
    clear h
    have h := h'
    clear h'
    have hE := TE.find_sound hee
    subst hE
    have run : ∀ (A : Addr) (len cap : Nat), a.eval x = .slice (some A) len cap → 0 ≤ n → n < (len : Int) → ∀ w', (execOp a.eval o).run P w' = .ok (.value (.pointer (some (A.add (n.toNat * ee.size))))) w' :=
      fun A len cap hA h0 h1 w' => by
        simp [execOp, ho, hA, hiv, Instr.indexAt, asIntOf, run_underlying hd, h0, h1, ee.sizeOf_run w']
    split at h
    · rename_i t xs hev
      rw [hev] at hx
      cases hb : Nat.beq ee.size t.size with
      | false => rw [hb] at h; simp at h
      | true =>
        rw [hb] at h
        simp only [cond_true] at h
        cases hc : (decide (0 ≤ n) && decide (n < ((xs : List t.den).length : Int))) with
        | false => rw [hc] at h; simp at h
        | true =>
          rw [hc] at h
          simp only [cond_true] at h
          simp only [Bool.and_eq_true, decide_eq_true_eq] at hc
          have hc0 : (0 : Int) ≤ (id n : Int) := hc.1
          have hc1 : (id n : Int) < ((xs : List t.den).length : Int) := hc.2
          have hx2 := hx.2
          simp only [CV0, Rep] at hx2
          obtain ⟨A, c, hv, hle, hbig, hel⟩ := hx2
          have hlt : (id n : Int).toNat < (xs : List t.den).length := by omega
          obtain ⟨A', hA', hS, hsp, hrd⟩ := hel (by intro h0; rw [h0] at hlt; simp at hlt)
          obtain ⟨dd, hrep, hcells⟩ := hrd (id n : Int).toNat hlt
          subst hA'
          simp only [List.cons.injEq, and_true] at hv
          refine ⟨_, _, h, ⟨rfl, A'.add ((id n : Int).toNat * t.size), dd, ?_, ?_, ?_, ?_, hcells⟩, fun w' _ => run A' _ c hv hc.1 hc.2 w'⟩
          · rw [Nat.eq_of_beq_eq_true hb, Addr.add_zero']; rfl
          · exact Addr.add_spot _ hsp _
          · rw [Addr.add_block]; exact hS
          · have e1 : List.getD xs (Int.toNat n) t.zero = (xs : List t.den)[(id n : Int).toNat] := getD_at (α := t.den) xs (id n : Int).toNat t.zero hlt
            rw [e1]; exact hrep
    · rename_i g hev
      rw [hev] at hx
      split at h
      · rename_i e0 t xs hrow
        cases hb : Nat.beq ee.size t.size with
        | false => rw [hb] at h; simp at h
        | true =>
          rw [hb] at h
          simp only [cond_true] at h
          cases hc : (decide (0 ≤ n) && decide (n < (xs.length : Int))) with
          | false => rw [hc] at h; simp at h
          | true =>
            rw [hc] at h
            simp only [cond_true] at h
            simp only [Bool.and_eq_true, decide_eq_true_eq] at hc
            have hc0 : (0 : Int) ≤ (id n : Int) := hc.1
            have hc1 : (id n : Int) < (xs.length : Int) := hc.2
            have hv := hx.2.2 _ _ _ hrow
            obtain ⟨us, hown, hl, hrep⟩ := I.heap.blk _ _ hrow
            have hlt : (id n : Int).toNat < xs.length := by omega
            obtain ⟨g', cap', hsl, hgl⟩ := own_form hown (by omega)
            rw [hsl] at hv
            refine ⟨_, _, h, ⟨rfl, hx.2.1, fun e' t' xs' hr' => ?_⟩, fun w' _ => run _ _ cap' hv hc.1 hc.2 w'⟩
            rw [hrow] at hr'
            injection hr' with hr'
            injection hr' with h1 h2 h3
            subst h1; subst h2
            cases h3
            refine ⟨g', _, _, hsl, ?_, hlt⟩
            rw [Addr.add_lit, Nat.eq_of_beq_eq_true hb, Nat.zero_add, Nat.add_zero]
      · cases h
    · cases h
  · cases h


theorem bt_at (s : ByteArray) (n : Int) (h0 : 0 ≤ n) (h1 : n < (s.size : Int)) : s[n.toNat]? = some (s[n.toNat]'(by omega)) ∧ ((s[n.toNat]'(by omega)).toNat : Int) = bt s n := by
  have h : n.toNat < s.size := by omega
  exact ⟨by simp [h], by simp [bt, h]⟩

theorem pure_index {Δ : List (TE P)} {K : AV → Option R} {r : R} {o : Oper} (T : TypeId) (x i : Operand) (ho : o.op = .index T x i) (I : InvR w0 S0 st rho a w)
    (h0 : opIndex Δ st T x i K = some r) : PureOk P w0 S0 st rho a w o K r := by
  unfold opIndex at h0
  obtain ⟨e, he, h⟩ := Option.bind_eq_some_iff.1 h0
  clear h0
  have hT := TE.find_sound he
  subst hT
  have hx := ev_sound I x
  have hi := ev_sound I i
  obtain ⟨d, hd, hs⟩ := e.under
  split at h
  · rename_i s k n hsh hex hei
    rw [hei] at hi
    rw [hex] at hx
    have hiv := cv_int hi
    have hxv := (cv_str hx).1
    rw [hsh] at hs
    rw [shOf_str hs] at hd
    cases hc : (decide (0 ≤ n) && decide (n < (s.size : Int))) with
    | false => rw [hc] at h; simp at h
    | true =>
      rw [hc] at h
      simp only [cond_true] at h
      simp only [Bool.and_eq_true, decide_eq_true_eq] at hc
      obtain ⟨e1, e2⟩ := bt_at s n hc.1 hc.2
      refine ⟨_, .int .u8 (bt s n), h, mk_int _ _, fun w' _ => ?_⟩
      have h0 : (0 : Int) ≤ n := hc.1
      simp only [execOp, ho, hxv, hiv, Instr.index, asIntOf, Sem.run_bind, Sem.run_pure, Result.andThen_ok, run_underlying hd, pure_bind, if_pos h0, e1, e2, Sem.run_map]
  · cases h

theorem optInt_sound (I : InvR w0 S0 st rho a w) {x : Option Operand} {m : Option Int} (h : optInt st x = some m) :
    (x = none ∧ m = none) ∨ ∃ X n k, x = some X ∧ m = some n ∧ a.eval X = .int k n := by
  unfold optInt at h
  split at h
  · exact .inl ⟨rfl, by simpa using h.symm⟩
  · rename_i X
    split at h
    · rename_i k n hev
      have hx := ev_sound I X
      rw [hev] at hx
      exact .inr ⟨X, n, k, rfl, by simpa using h.symm, cv_int hx⟩
    · cases h


theorem bounds_run (isSlice : Bool) (len cap : Nat) (hcap : len ≤ cap) (L H : Option Value) (l h : Option Int)
    (hL : (L = none ∧ l = none) ∨ ∃ k n, L = some (.int k n) ∧ l = some n) (hH : (H = none ∧ h = none) ∨ ∃ k n, H = some (.int k n) ∧ h = some n)
    (h0 : 0 ≤ l.getD 0) (h1 : l.getD 0 ≤ h.getD (len : Int)) (h2 : h.getD (len : Int) ≤ (len : Int)) (w : World) :
    (Instr.sliceBounds isSlice len cap L H none).run P w = .ok ((l.getD 0).toNat, (h.getD (len : Int)).toNat, cap) w := by
  rcases hL with ⟨rfl, rfl⟩ | ⟨k, n, rfl, rfl⟩ <;> rcases hH with ⟨rfl, rfl⟩ | ⟨k', n', rfl, rfl⟩ <;> simp only [Option.getD_none, Option.getD_some] at h0 h1 h2 ⊢
  · simp [Instr.sliceBounds]
  · have : (0 : Int) ≤ n' ∧ n' ≤ (cap : Int) := by omega
    simp [Instr.sliceBounds, Instr.sliceBound, asIntOf, this]
  · have : (0 : Int) ≤ n ∧ n ≤ (len : Int) := by omega
    simp [Instr.sliceBounds, Instr.sliceBound, asIntOf, this]
  · have e1 : (0 : Int) ≤ n' ∧ n' ≤ (cap : Int) := by omega
    have e2 : (0 : Int) ≤ n ∧ n ≤ ((n'.toNat : Nat) : Int) := by omega
    simp only [Instr.sliceBounds, Instr.sliceBound, asIntOf, pure_bind, if_pos e1, if_pos e2, Sem.run_pure, Sem.run_bind, Result.andThen_ok]

theorem Rep_cut {S : Nat → Prop} {t : Ty} {xs : List t.den} {A : Option Addr} {c : Nat} {n : Nat} (h : Rep w S (.sl t) xs [.slice A n c]) (l m : Nat) (hl : l ≤ m) (hm : m ≤ xs.length) :
    Rep w S (.sl t) ((xs.take m).drop l) [.slice (if c = l then A else A.map (·.add (l * t.size))) (m - l) (c - l)] := by
  simp only [Rep] at h ⊢
  obtain ⟨A', c', e, hle, hbig, hel⟩ := h
  simp only [List.cons.injEq, Value.slice.injEq, and_true] at e
  obtain ⟨rfl, rfl, rfl⟩ := e
  have hlen : ((xs.take m).drop l).length = m - l := by simp; omega
  refine ⟨_, _, by rw [hlen], by omega, by omega, fun hne => ?_⟩
  have hpos : 0 < m - l := by
    rw [← hlen]
    exact List.length_pos_iff.2 hne
  obtain ⟨a, rfl, hS, hsp, hrd⟩ := hel (by intro h0; rw [h0] at hm; simp at hm; omega)
  rw [if_neg (by omega)]
  refine ⟨a.add (l * t.size), rfl, by rw [Addr.add_block]; exact hS, Addr.add_spot _ hsp _, fun i hi => ?_⟩
  rw [hlen] at hi
  obtain ⟨d, hd, hc⟩ := hrd (l + i) (by omega)
  refine ⟨d, ?_, ?_⟩
  · have e : ((xs.take m).drop l)[i] = xs[l + i]'(by omega) := by simp
    rw [e]; exact hd
  · rw [Addr.add_add' a hsp, ← Nat.add_mul]; exact hc

theorem pure_slice {Δ : List (TE P)} {K : AV → Option R} {r : R} {o : Oper} (T : TypeId) (x : Operand) (lo hi : Option Operand) (ho : o.op = .slice T x lo hi none) (I : InvR w0 S0 st rho a w)
    (h0 : opSlice Δ st T x lo hi K = some r) : PureOk P w0 S0 st rho a w o K r := by
  unfold opSlice at h0
  obtain ⟨e, he, h1⟩ := Option.bind_eq_some_iff.1 h0
  obtain ⟨l, hl, h2⟩ := Option.bind_eq_some_iff.1 h1
  obtain ⟨m, hm, h⟩ := Option.bind_eq_some_iff.1 h2
  clear h0 h1 h2
  have hT := TE.find_sound he
  subst hT
  have hx := ev_sound I x
  obtain ⟨d, hd, hs⟩ := e.under
  have hL : (lo.map a.eval = none ∧ l = none) ∨ ∃ k n, lo.map a.eval = some (.int k n) ∧ l = some n := by
    rcases optInt_sound I hl with ⟨rfl, rfl⟩ | ⟨X, n, k, rfl, rfl, hX⟩
    · exact .inl ⟨rfl, rfl⟩
    · exact .inr ⟨k, n, by simp [hX], rfl⟩
  have hM : (hi.map a.eval = none ∧ m = none) ∨ ∃ k n, hi.map a.eval = some (.int k n) ∧ m = some n := by
    rcases optInt_sound I hm with ⟨rfl, rfl⟩ | ⟨X, n, k, rfl, rfl, hX⟩
    · exact .inl ⟨rfl, rfl⟩
    · exact .inr ⟨k, n, by simp [hX], rfl⟩
  split at h
  · rename_i E t xs hsh hex
    rw [hex] at hx
    rw [hsh] at hs
    rw [shOf_sl hs] at hd
    obtain ⟨ee, hee, h'⟩ := Option.bind_eq_some_iff.1 h
    clear h
    have hE := TE.find_sound hee
    subst hE
    cases hb : Nat.beq ee.size t.size with
    | false => rw [hb] at h'; simp at h'
    | true =>
      rw [hb] at h'
      simp only [cond_true] at h'
      cases hc : (decide (0 ≤ l.getD 0) && (decide (l.getD 0 ≤ m.getD ((xs : List t.den).length : Int)) && decide (m.getD ((xs : List t.den).length : Int) ≤ ((xs : List t.den).length : Int)))) with
      | false => rw [hc] at h'; simp at h'
      | true =>
        rw [hc] at h'
        simp only [cond_true] at h'
        simp only [Bool.and_eq_true, decide_eq_true_eq] at hc
        obtain ⟨c0, c1, c2⟩ := hc
        have hx2 := hx.2
        simp only [CV0] at hx2
        have hx3 := hx2
        simp only [Rep] at hx3
        obtain ⟨A, c, hv, hle, hbig, _⟩ := hx3
        simp only [List.cons.injEq, and_true] at hv
        rw [hv] at hx2
        refine ⟨_, _, h', ⟨rfl, Rep_cut hx2 (l.getD 0).toNat (m.getD ((xs : List t.den).length : Int)).toNat (by omega) (by omega)⟩, fun w' _ => ?_⟩
        have hbd := bounds_run (P := P) true (xs : List t.den).length c hle _ _ l m hL hM c0 c1 c2 w'
        simp only [execOp, ho, hv, Instr.sliceAt, Instr.slice, Sem.run_bind, run_underlying hd, Result.andThen_ok, Option.map_none, hbd, ee.sizeOf_run w', Sem.run_pure, Nat.eq_of_beq_eq_true hb, Sem.run_map]
  · rename_i s hsh hex
    rw [hex] at hx
    rw [hsh] at hs
    rw [shOf_str hs] at hd
    have hv := (cv_str hx)
    cases hc : (decide (0 ≤ l.getD 0) && (decide (l.getD 0 ≤ m.getD (s.size : Int)) && decide (m.getD (s.size : Int) ≤ (s.size : Int)))) with
    | false => rw [hc] at h; simp at h
    | true =>
      rw [hc] at h
      simp only [cond_true] at h
      simp only [Bool.and_eq_true, decide_eq_true_eq] at hc
      obtain ⟨c0, c1, c2⟩ := hc
      have hbd := fun w' => bounds_run (P := P) false s.size s.size (Nat.le_refl _) _ _ l m hL hM c0 c1 c2 w'
      refine ⟨_, _, h, mk_str _ ?_, fun w' _ => ?_⟩
      · have := hv.2
        simp only [ByteArray.size_extract]
        omega
      · simp only [execOp, ho, hv.1, Instr.sliceAt, Instr.slice, Sem.run_bind, run_underlying hd, Result.andThen_ok, Option.map_none, hbd w', Sem.run_pure, Option.isSome_none, Bool.false_eq_true, if_false, Sem.run_map, pure_bind]
  · cases h

theorem pure_extract {K : AV → Option R} {r : R} {o : Oper} (x : Operand) (i : Nat) (ho : o.op = .extract x i) (I : InvR w0 S0 st rho a w)
    (h : opExtract st x i K = some r) : PureOk P w0 S0 st rho a w o K r := by
  have hx := ev_sound I x
  unfold opExtract at h
  split at h
  · rename_i vs hev
    rw [hev] at hx
    obtain ⟨us, hv, hall⟩ := hx
    have run : ∀ u, us[i]? = some u → ∀ w', (execOp a.eval o).run P w' = .ok (.value u) w' := fun u hu w' => by
      simp [execOp, ho, hv, Instr.extract, hu]
    split at h
    · rename_i cs hi
      obtain ⟨u, hu, l, hl, ha⟩ := hall.get i _ hi
      exact ⟨_, u, h, ⟨l, hl, ha⟩, fun w' _ => run u hu w'⟩
    · rename_i c hi
      obtain ⟨u, hu, hr⟩ := hall.get i _ hi
      exact ⟨_, u, h, hr.1, fun w' _ => run u hu w'⟩
    · cases h
  · cases h

theorem capsOf_sound (I : InvR w0 S0 st rho a w) : ∀ {l : List Operand} {cs : List Cap}, capsOf st l = some cs → All2 (CapR w (Sof w0.heap.size S0 st.hp rho w) st.hp rho) cs (l.map a.eval)
  | [], cs, h => by simp only [capsOf, Option.some.injEq] at h; subst h; trivial
  | x :: l, cs, h => by
    simp only [capsOf] at h
    obtain ⟨c, hc, h1⟩ := Option.bind_eq_some_iff.1 h
    obtain ⟨cs', hcs, h2⟩ := Option.bind_eq_some_iff.1 h1
    simp only [Option.some.injEq] at h2
    subst h2
    refine ⟨?_, capsOf_sound I hcs⟩
    have hx := ev_sound I x
    unfold capOf at hc
    split at hc
    · rename_i g j hev; rw [hev] at hx; simp only [Option.some.injEq] at hc; subst hc; exact hx
    · rename_i t v j hev; rw [hev] at hx; simp only [Option.some.injEq] at hc; subst hc; exact hx
    · rename_i t v hev; rw [hev] at hx; simp only [Option.some.injEq] at hc; subst hc; exact hx
    · cases hc

theorem pure_makeFunc {K : AV → Option R} {r : R} {o : Oper} (fn : Fn) (first captured : Array Operand) (ho : o.op = .makeFunc fn first captured) (I : InvR w0 S0 st rho a w)
    (h : opMakeFunc st fn first captured K = some r) : PureOk P w0 S0 st rho a w o K r := by
  unfold opMakeFunc at h
  split at h
  · rename_i f hf
    obtain ⟨cs, hcs, h1⟩ := Option.bind_eq_some_iff.1 h
    have hfirst : first = #[] := by simpa using hf
    subst hfirst
    refine ⟨_, .func (.func f) #[] (captured.toList.map a.eval).toArray, h1, ⟨rfl, _, rfl, capsOf_sound I hcs⟩, fun w' _ => ?_⟩
    have e : (captured.toList.map a.eval).toArray = captured.map a.eval := Array.ext' (by simp)
    rw [e]
    simp [execOp, ho, Instr.makeFunc]
  · cases h

theorem pure_convert {Δ : List (TE P)} {K : AV → Option R} {r : R} {o : Oper} (S T : TypeId) (x : Operand) (ho : o.op = .convert S T x) (I : InvR w0 S0 st rho a w)
    (h0 : opConvert Δ st S T x K = some r) : PureOk P w0 S0 st rho a w o K r := by
  unfold opConvert at h0
  obtain ⟨s, hs, h1⟩ := Option.bind_eq_some_iff.1 h0
  obtain ⟨e, he, h⟩ := Option.bind_eq_some_iff.1 h1
  clear h0 h1
  have hS := TE.find_sound hs
  subst hS
  have hT := TE.find_sound he
  subst hT
  obtain ⟨d, hd, hsh⟩ := e.under
  obtain ⟨ds, hds, _⟩ := s.under
  have hx := ev_sound I x
  split at h
  · rename_i k k' n h1 h2
    rw [h2] at hx
    rw [h1] at hsh
    rw [shOf_int hsh] at hd
    refine ⟨_, _, h, mk_int _ _, fun w' _ => ?_⟩
    simp [execOp, ho, cv_int hx, convert, run_underlying hd, run_underlying hds, Conv.intToInt]
  · rename_i s' h1 h2
    rw [h2] at hx
    rw [h1] at hsh
    rw [shOf_str hsh] at hd
    refine ⟨_, _, h, mk_str _ (cv_str hx).2, fun w' _ => ?_⟩
    simp [execOp, ho, (cv_str hx).1, convert, run_underlying hd, run_underlying hds]
  · cases h

theorem pure_nilCheck {K : AV → Option R} {r : R} {o : Oper} (x : Operand) (ho : o.op = .nilCheck x) (I : InvR w0 S0 st rho a w)
    (h : opNilCheck st x K = some r) : PureOk P w0 S0 st rho a w o K r := by
  have hx := ev_sound I x
  unfold opNilCheck at h
  split at h
  · rename_i g j hev
    rw [hev] at hx
    split at h
    · rename_i cs hcs
      obtain ⟨b, hb, hv⟩ := hx.2.2 cs hcs
      exact ⟨_, a.eval x, h, hx, fun w' _ => by simp [execOp, ho, hv]⟩
    · cases h
  · rename_i t v j hev
    rw [hev] at hx
    obtain ⟨A, d, hv, _⟩ := hx.2
    exact ⟨_, a.eval x, h, hx, fun w' _ => by simp [execOp, ho, hv]⟩
  · rename_i g i j hev
    rw [hev] at hx
    split at h
    · rename_i e t xs hrow
      obtain ⟨b, n, c, _, hv, _⟩ := hx.2.2 _ _ _ hrow
      exact ⟨_, a.eval x, h, hx, fun w' _ => by simp [execOp, ho, hv]⟩
    · cases h
  · cases h

theorem lenOf_sound (I : InvR w0 S0 st rho a w) {c : CV} {n : Int} (h : lenOf st.hp c = some n) {v : Value} (hv : CVR w (Sof w0.heap.size S0 st.hp rho w) st.hp rho c v) :
    ∃ A l k, v = .slice A l k ∧ n = (l : Int) := by
  unfold lenOf at h
  split at h
  · rename_i t xs
    have h2 := hv.2
    simp only [CV0, Rep] at h2
    obtain ⟨A, k, e, _⟩ := h2
    simp only [List.cons.injEq, and_true] at e
    exact ⟨A, _, k, e, by simpa using h.symm⟩
  · exact ⟨none, 0, 0, hv.2, by simpa using h.symm⟩
  · rename_i g
    split at h
    · rename_i e t xs hrow
      have h2 := hv.2.2 _ _ _ hrow
      obtain ⟨us, hown, _⟩ := I.heap.blk _ _ hrow
      obtain ⟨A, cap, hs, _⟩ := own_shape hown
      exact ⟨A, _, cap, h2.trans hs, by simpa using h.symm⟩
    · cases h
  · cases h

theorem pure_len {Δ : List (TE P)} {K : AV → Option R} {r : R} {o : Oper} (x : Operand) (T : TypeId) (args : Array Operand) (argTypes : Array TypeId)
    (ho : o.op = .call { callee := .builtin .len, args, argTypes }) (ha : args.toList = [x]) (hT : argTypes.toList = [T]) (I : InvR w0 S0 st rho a w)
    (h0 : opLen Δ st x T K = some r) : PureOk P w0 S0 st rho a w o K r := by
  have ha' : args = #[x] := by apply Array.ext'; simpa using ha
  have hT' : argTypes = #[T] := by apply Array.ext'; simpa using hT
  subst ha' hT'
  unfold opLen at h0
  obtain ⟨e, he, h⟩ := Option.bind_eq_some_iff.1 h0
  clear h0
  have hTe := TE.find_sound he
  subst hTe
  have hx := ev_sound I x
  obtain ⟨d, hd, hs⟩ := e.under
  split at h
  · rename_i E c hsh hev
    rw [hev] at hx
    rw [hsh] at hs
    rw [shOf_sl hs] at hd
    obtain ⟨n, hn, h1⟩ := Option.bind_eq_some_iff.1 h
    obtain ⟨A, l, k, hv, rfl⟩ := lenOf_sound I hn hx
    refine ⟨_, .int .i64 l, h1, mk_int _ _, fun w' _ => ?_⟩
    simp [execOp, ho, resolve, invoke, builtin, hv, Builtin.len_, run_underlying hd, goInt]
  · rename_i s hsh hev
    rw [hev] at hx
    rw [hsh] at hs
    rw [shOf_str hs] at hd
    refine ⟨_, .int .i64 s.size, h, mk_int _ _, fun w' _ => ?_⟩
    simp [execOp, ho, resolve, invoke, builtin, (cv_str hx).1, Builtin.len_, run_underlying hd, goInt]
  · cases h


theorem mmFold_sound (mx : Bool) (k : IntKind) (I : InvR w0 S0 st rho a w) : ∀ {l : List Operand} {m r : Int}, mmFold mx k st m l = some r →
    ∀ w', ((l.map a.eval).foldlM (if mx then Builtin.max2 else Builtin.min2) (.int k m)).run P w' = .ok (.int k r) w'
  | [], m, r, h, w' => by simp only [mmFold, Option.some.injEq] at h; subst h; simp
  | x :: l, m, r, h, w' => by
    have hx := ev_sound I x
    simp only [mmFold] at h
    split at h
    · rename_i k' n hev
      rw [hev] at hx
      have ih := mmFold_sound mx k I h w'
      cases mx with
      | true =>
        simp only [cond_true, if_true, Bool.cond_decide] at ih h ⊢
        simp only [List.map_cons, List.foldlM_cons, cv_int hx, Builtin.max2, pure_bind]
        exact ih
      | false =>
        simp only [cond_false, Bool.false_eq_true, if_false, Bool.cond_decide] at ih h ⊢
        simp only [List.map_cons, List.foldlM_cons, cv_int hx, Builtin.min2, pure_bind]
        exact ih
    · cases h

theorem pure_minmax {K : AV → Option R} {r : R} {o : Oper} (mx : Bool) (args : Array Operand) (argTypes : Array TypeId)
    (ho : o.op = .call { callee := .builtin (if mx then .max else .min), args, argTypes }) (I : InvR w0 S0 st rho a w)
    (h : opMinMax mx st args.toList K = some r) : PureOk P w0 S0 st rho a w o K r := by
  obtain ⟨l0⟩ := args
  unfold opMinMax at h
  split at h
  · rename_i x l hl
    simp only at hl
    subst hl
    have hx := ev_sound I x
    split at h
    · rename_i k n hev
      rw [hev] at hx
      obtain ⟨m, hm, h1⟩ := Option.bind_eq_some_iff.1 h
      refine ⟨_, .int k m, h1, mk_int _ _, fun w' _ => ?_⟩
      have := mmFold_sound (P := P) mx k I hm w'
      cases mx with
      | true =>
        simp only [if_true] at this ho
        simp [execOp, ho, resolve, invoke, builtin, cv_int hx, Builtin.max_, this]
      | false =>
        simp only [Bool.false_eq_true, if_false] at this ho
        simp [execOp, ho, resolve, invoke, builtin, cv_int hx, Builtin.min_, this]
    · cases h
  · cases h

theorem pure_sound {Δ : List (TE P)} {K : AV → Option R} {r : R} {o : Oper} (I : InvR w0 S0 st rho a w) (h : pureOp Δ st o.op K = some r) : PureOk P w0 S0 st rho a w o K r := by
  unfold pureOp at h
  split at h
  · rename_i x ho; exact pure_move x (.inl ho) I h
  · rename_i x ho; exact pure_move x (.inr ho) I h
  · rename_i c x y ho; exact pure_pick c x y ho I h
  · rename_i T x ho; exact pure_load T x ho I h
  · rename_i op T x y U ho; exact pure_bin op T U x y ho I h
  · rename_i op T x ho; exact pure_un op T x ho I h
  · rename_i T x f ho; exact pure_fieldAddr T x f ho I h
  · rename_i T x f ho; exact pure_field T x f ho I h
  · rename_i T x i ho; exact pure_indexAddr T x i ho I h
  · rename_i T x i ho; exact pure_index T x i ho I h
  · rename_i T x lo hi ho; exact pure_slice T x lo hi ho I h
  · rename_i x i ho; exact pure_extract x i ho I h
  · rename_i T parts ho; exact pure_build T parts ho I h
  · rename_i fn first captured ho; exact pure_makeFunc fn first captured ho I h
  · rename_i S T x ho; exact pure_convert S T x ho I h
  · rename_i x ho; exact pure_nilCheck x ho I h
  · rename_i c ho
    obtain ⟨callee, args, argTypes⟩ := c
    split at h
    · rename_i b hb
      simp only at hb
      subst hb
      unfold opBuiltin at h
      split at h
      · rename_i x T ha hT; exact pure_len x T args argTypes ho ha hT I h
      · exact pure_minmax true args argTypes ho I h
      · exact pure_minmax false args argTypes ho I h
      · cases h
    · cases h
  · cases h

end
end Go.Proofs.Ytdgnmbhnilidlaa.Ab
