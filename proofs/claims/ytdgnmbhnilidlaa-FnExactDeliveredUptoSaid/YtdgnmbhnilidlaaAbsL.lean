/- Regions and code. -/
import Derived.Test.YtdgnmbhnilidlaaAbsK
set_option linter.unusedVariables false
set_option linter.unusedSimpArgs false
set_option linter.unusedSectionVars false
namespace Go.Proofs.Ytdgnmbhnilidlaa.Ab
open Go Go.RowKit

section
variable {P : Program} {R : Type}
variable {w0 : World} {S0 : Nat → Prop} {st : St} {rho : Nat → Value} {a : Act} {w : World} {B : Nat} {hp : List Blk}

theorem get_some {d : Nat} {c : CV} (h : st.get d = .one c) : st.fr[d]? = some (.one c) := by
  unfold St.get at h
  rw [List.getD_eq_getElem?_getD] at h
  cases hq : st.fr[d]? with
  | none => rw [hq] at h; simp at h
  | some x => rw [hq] at h; simp at h; rw [h]

theorem get_tup {d : Nat} {cs : List (Bool × List CV)} (h : st.get d = .tup cs) : st.fr[d]? = some (.tup cs) := by
  unfold St.get at h
  rw [List.getD_eq_getElem?_getD] at h
  cases hq : st.fr[d]? with
  | none => rw [hq] at h; simp at h
  | some x => rw [hq] at h; simp at h; rw [h]

/-- An entry told otherwise. -/
theorem InvR.tell (I : InvR w0 S0 st rho a w) {d : Nat} {av : AV} (h : ∀ u, a.tmps[d]? = some u → AVR w (Sof w0.heap.size S0 st.hp rho w) st.hp rho av u) : InvR w0 S0 ⟨st.fr.set d av, st.hp⟩ rho a w where
  s0 := I.s0
  below := I.below
  heap := I.heap
  fr i v hv := by
    simp only [List.getElem?_set] at hv
    split at hv
    · rename_i e
      subst e
      split at hv
      · rename_i hlt
        simp only [Option.some.injEq] at hv
        subst hv
        have : d < a.tmps.size := by rw [I.len]; exact hlt
        exact ⟨a.tmps[d], by simp [this], h _ (by simp [this])⟩
      · cases hv
    · exact I.fr i v hv
  len := by simp [I.len]
  dfr := I.dfr

/-- What guards an operation. -/
theorem guarded_sound {ops : Array Oper} {o : Oper} {S N : St → Option R} {r : R} (I : InvR w0 S0 st rho a w) (h : guarded ops.toList st o S N = some r) :
    (Region.wanted o (yielded ops a.tmps) = true ∧ ∃ st1, S st1 = some r ∧ InvR w0 S0 st1 rho a w ∧ st1.hp = st.hp ∧ st1.fr.length = st.fr.length ∧ ∀ i : Nat, (∀ q, q ∈ ops.toList → q.dst ≠ some i) → st1.fr[i]? = st.fr[i]?) ∨
    (Region.wanted o (yielded ops a.tmps) = false ∧ ∃ st1, N st1 = some r ∧ InvR w0 S0 st1 rho a w ∧ st1.hp = st.hp ∧ st1.fr.length = st.fr.length ∧ ∀ i : Nat, (∀ q, q ∈ ops.toList → q.dst ≠ some i) → st1.fr[i]? = st.fr[i]?) := by
  unfold guarded at h
  split at h
  · rename_i hg
    exact .inl ⟨by simp [Region.wanted, hg], st, h, I, rfl, rfl, fun _ _ => rfl⟩
  · rename_i j want hg
    split at h
    · cases h
    · rename_i d hd
      split at h
      · rename_i b hget
        obtain ⟨u, hu, hr⟩ := I.fr d _ (get_some hget)
        have hub := cv_bool hr
        subst hub
        obtain ⟨q, hq, hqd⟩ := Option.bind_eq_some_iff.1 hd
        have hy : yielded ops a.tmps j = some b := by
          unfold yielded
          have e1 : ops[j]? = some q := by simpa using hq
          simp [e1, hqd, hu]
        have hw : Region.wanted o (yielded ops a.tmps) = (b == want) := by
          simp only [Region.wanted, hg, hy]
          cases b <;> cases want <;> rfl
        have I1 : ∀ b', b' = b → InvR w0 S0 ⟨st.fr.set d (.one (.val .bool b')), st.hp⟩ rho a w := fun b' e => I.tell fun u' hu' => by
          rw [hu] at hu'
          cases hu'
          subst e
          exact mk_bool _
        have fr1 : ∀ b' (i : Nat), (∀ q, q ∈ ops.toList → q.dst ≠ some i) → (st.fr.set d (.one (.val .bool b')))[i]? = st.fr[i]? := fun b' i hi => by
          rw [List.getElem?_set, if_neg]
          intro e
          subst e
          exact hi q (List.mem_of_getElem? hq) hqd
        rw [hw]
        cases b <;> cases want <;> simp only [cond_true, cond_false] at h
        · exact .inl ⟨rfl, _, h, I1 _ rfl, rfl, by simp, fr1 _⟩
        · exact .inr ⟨rfl, _, h, I1 _ rfl, rfl, by simp, fr1 _⟩
        · exact .inr ⟨rfl, _, h, I1 _ rfl, rfl, by simp, fr1 _⟩
        · exact .inl ⟨rfl, _, h, I1 _ rfl, rfl, by simp, fr1 _⟩
      · rename_i hget
        obtain ⟨u, hu, hr⟩ := I.fr d _ (get_tup hget)
        obtain ⟨us, hub, hus⟩ := hr
        match us, hus with
        | [], _ =>
          obtain ⟨q, hq, hqd⟩ := Option.bind_eq_some_iff.1 hd
          have hy : yielded ops a.tmps j = none := by
            unfold yielded
            have e1 : ops[j]? = some q := by simpa using hq
            simp [e1, hqd, hu, hub]
          have hw : Region.wanted o (yielded ops a.tmps) = false := by
            simp only [Region.wanted, hg, hy]
            cases want <;> rfl
          exact .inr ⟨hw, st, h, I, rfl, rfl, fun _ _ => rfl⟩
      · cases h

theorem InvR.put_undef (I : InvR w0 S0 st rho a w) (dst : Option Tmp) : InvR w0 S0 (st.put dst (.tup [])) rho (a.put dst undef) w := I.put dst ⟨[], rfl, trivial⟩

theorem runOps_sound {Δ : List (TE P)} {Γ : List (Entry P)} {k : Nat} {ops : Array Oper} {Q : Exit → Act → World → Prop} {K : St → Option R} {r : R} (hQ : ∀ st' a' w', K st' = some r → Inv w0 S0 st' a' w' → Q .normal a' w') :
    ∀ (l : List Oper) (st : St) (a : Act) (w : World), runOps Δ Γ k ops.toList l st K = some r → Inv w0 S0 st a w → wpList P ops Q l a w
  | [], st, a, w, h, I => hQ _ _ _ h I
  | o :: rest, st, a, w, h, ⟨rho, I⟩ => by
    simp only [runOps] at h
    unfold wpList
    rcases guarded_sound I h with ⟨hw, st1, h1, I1, _⟩ | ⟨hw, st1, h1, I1, _⟩
    · rw [if_pos hw]
      exact .inl (step_sound I1 h1 _ _ fun st' a' w' hK I' => runOps_sound hQ rest st' a' w' hK I')
    · rw [if_neg (by rw [hw]; simp)]
      exact runOps_sound hQ rest _ _ _ h1 ⟨rho, I1.put_undef o.dst⟩

/-! ### Regions whose outcome is one bool -/
theorem put_fr (st : St) (dst : Option Tmp) (av : AV) (i : Nat) (hi : dst ≠ some i) : (st.put dst av).fr[i]? = st.fr[i]? := by
  cases dst with
  | none => rfl
  | some d =>
    simp only [St.put, List.getElem?_set]
    rw [if_neg (fun e => hi (by rw [e]))]
theorem put_len (st : St) (dst : Option Tmp) (av : AV) : (st.put dst av).fr.length = st.fr.length := by
  cases dst <;> simp [St.put]
theorem put_hp (st : St) (dst : Option Tmp) (av : AV) : (st.put dst av).hp = st.hp := by
  cases dst <;> rfl

/-- The same blocks, the frame the same but for the region's own temporaries. -/
structure Like (ops : List Oper) (st st' : St) : Prop where
  hp : st'.hp = st.hp
  len : st'.fr.length = st.fr.length
  fr : ∀ i : Nat, (∀ q, q ∈ ops → q.dst ≠ some i) → st'.fr[i]? = st.fr[i]?

theorem Like.trans {ops : List Oper} {s1 s2 s3 : St} (h : Like ops s1 s2) (k : Like ops s2 s3) : Like ops s1 s3 :=
  ⟨k.hp.trans h.hp, k.len.trans h.len, fun i hi => (k.fr i hi).trans (h.fr i hi)⟩

theorem Like.put {ops : List Oper} {s1 s2 : St} (h : Like ops s1 s2) {o : Oper} (ho : o ∈ ops) (av : AV) : Like ops s1 (s2.put o.dst av) :=
  ⟨(put_hp _ _ _).trans h.hp, (put_len _ _ _).trans h.len, fun i hi => (put_fr _ _ _ _ (hi o ho)).trans (h.fr i hi)⟩

theorem quiet_sound {Δ : List (TE P)} {Γ : List (Entry P)} {k : Nat} {K : AV → Option R} {r : R} {o : Oper} (I : InvR w0 S0 st rho a w) (h : quietOp Δ Γ k st o.op K = some r)
    (next : Act → World → Prop) (Q : Exit → Act → World → Prop) (hn : ∀ av v w', K av = some r → InvR w0 S0 (st.put o.dst av) rho (a.put o.dst v) w' → next (a.put o.dst v) w') : o.wp P a w next Q := by
  have pure : pureOp Δ st o.op K = some r → o.wp P a w next Q := fun h => by
    obtain ⟨av, v, hK, hv, hrun⟩ := pure_sound I h
    unfold Oper.wp
    rw [hrun w (fun _ _ => rfl)]
    exact hn av v w hK (I.put o.dst hv)
  unfold quietOp at h
  split at h
  · rename_i c ho
    split at h
    · rename_i fv hc
      obtain ⟨callee, args, argTypes⟩ := c
      simp only at hc
      subst hc
      unfold opCallQ at h
      split at h
      · rename_i f caps hev
        obtain ⟨E, hE, h1⟩ := withEntry_sound h
        cases hq1 : (oneRes E.rs && (resFlat E.rs && !(resOwn E.rs))) with
        | false => rw [hq1] at h1; cases h1
        | true =>
          rw [hq1] at h1
          simp only [cond_true] at h1
          have hq := (Bool.and_eq_true _ _ ▸ hq1 : oneRes E.rs = true ∧ (resFlat E.rs && !(resOwn E.rs)) = true).2
          simp only [Bool.and_eq_true, Bool.not_eq_true'] at hq
          obtain ⟨x, hx, h2⟩ := Option.bind_eq_some_iff.1 h1
          obtain ⟨res, hr, h3⟩ := Option.bind_eq_some_iff.1 h2
          obtain ⟨vs, hrun, hcall⟩ := call_sound I ho hev E hE k hx hr
          unfold Oper.wp
          rw [hrun]
          refine hcall.mono fun e w' he => ?_
          obtain ⟨v, rfl, HB, rho1, H1, hv⟩ := he
          show next (a.put o.dst v) w'
          have hnil : (cellsRes E.rs res 0).2 = [] := by
            have aux : ∀ (l : List RK) (x : RKs l) (n : Nat), l.any RK.own = false → (cellsRK l x n).2 = [] := by
              intro l
              induction l with
              | nil => intros; rfl
              | cons c l ih =>
                intro x n hc
                simp only [List.any_cons, Bool.or_eq_false_iff] at hc
                cases c with
                | v t => exact ih x.2 n hc.2
                | o e t => exact absurd hc.1 (by simp [RK.own])
            have aux2 : ∀ (rs : List (Bool × List RK)) (x : Res rs) (n : Nat), resOwn rs = false → (cellsRes rs x n).2 = [] := by
              intro rs
              induction rs with
              | nil => intros; rfl
              | cons c rs ih =>
                intro x n hc
                simp only [resOwn, List.any_cons, Bool.or_eq_false_iff] at hc
                simp only [cellsRes, aux c.2 x.1 n hc.1]
                exact ih x.2 _ hc.2
            exact aux2 _ _ _ hq.2
          rw [hnil] at H1 hv
          have I2 := I.rows HB H1 (fun k hk => by cases hk)
          have hrho : ∀ g, liveAt st.hp g → glue rho st.hp.length rho1 g = rho g := fun g hg => glue_old (live_lt hg)
          have C : Chg (Sof w0.heap.size S0 st.hp rho w) st.hp rho w (Sof w0.heap.size S0 st.hp rho w') st.hp rho w' := Chg_world (fun b hb => HB.block b hb) HB.size
          have HB2 : Below w0.heap.size w0 w' := I2.below
          have I3 : InvR w0 S0 ⟨st.fr, st.hp⟩ rho a w' := I.step C HB2 ⟨fun h k hk => (by
            by_cases hl : k.live = true
            · exact BlkR_chg C rfl (fun b hb => HB.block b (own_lt_size I.heap ⟨k, hk, hl⟩ hb).2) (I.heap.blk h k hk)
            · cases k with
              | gone => exact trivial
              | box _ => exact absurd rfl hl
              | row _ _ _ => exact absurd rfl hl), I.heap.dist⟩
          refine hn _ v w' h3 (I3.put o.dst ?_)
          have := AVR_move (w := w') (S2 := Sof w0.heap.size S0 st.hp rho w') (hp1 := []) (hp2 := st.hp) (rho1 := rho1) (rho2 := rho) (n := 0) ⟨fun i hi => by simp at hi, fun i hi => by simp at hi, by simp⟩ E.rs res (.inr hq.1) hv
          exact this
      · cases h
    · exact pure h
  · exact pure h

/-! ### Regions that draw their order -/
theorem InvR.grown (I : InvR w0 S0 st rho a w) {w' : World} (h : Below w.heap.size w w') : InvR w0 S0 st rho a w' := by
  have C : Chg (Sof w0.heap.size S0 st.hp rho w) st.hp rho w (Sof w0.heap.size S0 st.hp rho w') st.hp rho w' := Chg_world (fun b hb => h.block b hb) h.size
  have HB : Below w0.heap.size w0 w' := I.below.trans ⟨h.os, h.tape, h.output, h.size, fun i hi => h.block i (Nat.lt_of_lt_of_le hi I.below.size)⟩
  exact I.step C HB ⟨fun h' k hk => (by
    by_cases hl : k.live = true
    · exact BlkR_chg C rfl (fun b hb => h.block b (own_lt_size I.heap ⟨k, hk, hl⟩ hb).2) (I.heap.blk h' k hk)
    · cases k with
      | gone => exact trivial
      | box _ => exact absurd rfl hl
      | row _ _ _ => exact absurd rfl hl), I.heap.dist⟩

theorem Rep_uniq {w1 w2 : World} {S1 S2 : Nat → Prop} : ∀ {t : Ty} {x : t.den} {us vs : List Value}, t.flat = true → Rep w1 S1 t x us → Rep w2 S2 t x vs → us = vs
  | .int _, _, _, _, _, h, k => by simp only [Rep] at h k; rw [h, k]
  | .bool, _, _, _, _, h, k => by simp only [Rep] at h k; rw [h, k]
  | .str, _, _, _, _, h, k => by simp only [Rep] at h k; rw [h.1, k.1]
  | .pair a b, _, _, _, hf, h, k => by
    simp only [Ty.flat, Bool.and_eq_true] at hf
    simp only [Rep] at h k
    obtain ⟨c1, c2, rfl, h1, h2⟩ := h
    obtain ⟨d1, d2, rfl, k1, k2⟩ := k
    rw [Rep_uniq hf.1 h1 k1, Rep_uniq hf.2 h2 k2]
  | .sl _, _, _, _, hf, _, _ => by simp [Ty.flat] at hf

theorem one_uniq {w1 w2 : World} {S1 S2 : Nat → Prop} {hp1 hp2 : List Blk} {rho1 rho2 : Nat → Value} : ∀ {rs : List (Bool × List RK)} {x : Res rs} {u v : Value}, oneRes rs = true → AVR w1 S1 hp1 rho1 (avOf (cellsRes rs x 0).1) u →
    AVR w2 S2 hp2 rho2 (avOf (cellsRes rs x 0).1) v → u = v := by
  intro rs x u v h hu hv
  unfold oneRes at h
  split at h
  · rename_i t
    simp only [Bool.and_eq_true] at h
    have hs := Nat.eq_of_beq_eq_true h.1
    simp only [cellsRes, cellsRK, List.append_nil, avOf] at hu hv
    have hl : ∀ y : t.den, ∃ c, expl t y = [c] := by
      intro y
      cases t with
      | pair a b => 
        have ha : ∀ t : Ty, 1 ≤ t.size := fun t => by induction t <;> simp [Ty.size] <;> omega
        have h1 := ha a
        have h2 := ha b
        simp only [Ty.size] at hs
        omega
      | int _ => exact ⟨_, rfl⟩
      | bool => exact ⟨_, rfl⟩
      | str => exact ⟨_, rfl⟩
      | sl _ => exact ⟨_, rfl⟩
    obtain ⟨c, hc⟩ := hl x.1.1
    rw [hc] at hu hv
    have h1 : All2 (CVR w1 S1 hp1 rho1) (expl t x.1.1) [u] := by rw [hc]; exact ⟨hu, trivial⟩
    have h2 : All2 (CVR w2 S2 hp2 rho2) (expl t x.1.1) [v] := by rw [hc]; exact ⟨hv, trivial⟩
    have := Rep_uniq h.2 (expl_CVR h1) (expl_CVR h2)
    simpa using this
  · rename_i t
    simp only [cellsRes, cellsRK, List.append_nil, avOf] at hu hv
    obtain ⟨us, rfl, h1⟩ := hu
    obtain ⟨vs, rfl, h2⟩ := hv
    rw [Rep_uniq h (expl_CVR h1) (expl_CVR h2)]
  · cases h

theorem flat_world {w1 w2 : World} {S : Nat → Prop} {hp : List Blk} {rho : Nat → Value} {rs : List (Bool × List RK)} {x : Res rs} {v : Value} (h : oneRes rs = true) (hv : AVR w1 S hp rho (avOf (cellsRes rs x 0).1) v) : AVR w2 S hp rho (avOf (cellsRes rs x 0).1) v := by
  unfold oneRes at h
  split at h
  · rename_i t
    simp only [Bool.and_eq_true] at h
    simp only [cellsRes, cellsRK, List.append_nil, avOf] at hv ⊢
    cases t with
    | pair a b =>
      have ha : ∀ t : Ty, 1 ≤ t.size := fun t => by induction t <;> simp [Ty.size] <;> omega
      have h1 := ha a
      have h2 := ha b
      have hs := Nat.eq_of_beq_eq_true h.1
      simp only [Ty.size] at hs
      omega
    | int _ => exact ⟨hv.1, Rep_flat (w := w1) (S := S) rfl hv.2⟩
    | bool => exact ⟨hv.1, Rep_flat (w := w1) (S := S) rfl hv.2⟩
    | str => exact ⟨hv.1, Rep_flat (w := w1) (S := S) rfl hv.2⟩
    | sl _ => simp [Ty.flat] at h
  · rename_i t
    simp only [cellsRes, cellsRK, List.append_nil, avOf] at hv ⊢
    obtain ⟨us, e, h1⟩ := hv
    exact ⟨us, e, expl_sound (Rep_flat h (expl_CVR h1))⟩
  · cases h

/-- An operation that leaves the blocks as they are yields one value, in whatever world that has them. -/
theorem quiet_in {Δ : List (TE P)} {Γ : List (Entry P)} {k : Nat} {K : AV → Option R} {r : R} {o : Oper} (I : InvR w0 S0 st rho a w) (h : quietOp Δ Γ k st o.op K = some r) :
    ∃ av v, K av = some r ∧ AVR w (Sof w0.heap.size S0 st.hp rho w) st.hp rho av v ∧ ∀ w', Below w.heap.size w w' → o.quietAt P a (Below w'.heap.size w') w' v := by
  have pure : pureOp Δ st o.op K = some r → ∃ av v, K av = some r ∧ AVR w (Sof w0.heap.size S0 st.hp rho w) st.hp rho av v ∧ ∀ w', Below w.heap.size w w' → o.quietAt P a (Below w'.heap.size w') w' v := fun h => by
    obtain ⟨av, v, hK, hv, hrun⟩ := pure_sound I h
    refine ⟨av, v, hK, hv, fun w' hw' => ?_⟩
    unfold Oper.quietAt
    rw [hrun w' (fun b hb => hw'.block b hb)]
    exact ⟨rfl, rfl⟩
  unfold quietOp at h
  split at h
  · rename_i c ho
    split at h
    · rename_i fv hc
      obtain ⟨callee, args, argTypes⟩ := c
      simp only at hc
      subst hc
      unfold opCallQ at h
      split at h
      · rename_i f caps hev
        obtain ⟨E, hE, h1⟩ := withEntry_sound h
        cases hq1 : (oneRes E.rs && (resFlat E.rs && !(resOwn E.rs))) with
        | false => rw [hq1] at h1; cases h1
        | true =>
          rw [hq1] at h1
          simp only [cond_true] at h1
          simp only [Bool.and_eq_true, Bool.not_eq_true'] at hq1
          obtain ⟨x, hx, h2⟩ := Option.bind_eq_some_iff.1 h1
          obtain ⟨res, hr, h3⟩ := Option.bind_eq_some_iff.1 h2
          obtain ⟨vs, hrun, hcall⟩ := call_sound I ho hev E hE k hx hr
          obtain ⟨e, w1, fr, ⟨v, _, _, rho1, _, hv⟩, _⟩ := hcall []
          refine ⟨_, v, h3, ?_, fun w' hw' => ?_⟩
          · have hnil : (cellsRes E.rs res 0).2 = [] := by
              have aux : ∀ (l : List RK) (x : RKs l) (n : Nat), l.any RK.own = false → (cellsRK l x n).2 = [] := by
                intro l
                induction l with
                | nil => intros; rfl
                | cons c l ih =>
                  intro x n hc
                  simp only [List.any_cons, Bool.or_eq_false_iff] at hc
                  cases c with
                  | v t => exact ih x.2 n hc.2
                  | o e t => exact absurd hc.1 (by simp [RK.own])
              have aux2 : ∀ (rs : List (Bool × List RK)) (x : Res rs) (n : Nat), resOwn rs = false → (cellsRes rs x n).2 = [] := by
                intro rs
                induction rs with
                | nil => intros; rfl
                | cons c rs ih =>
                  intro x n hc
                  simp only [resOwn, List.any_cons, Bool.or_eq_false_iff] at hc
                  simp only [cellsRes, aux c.2 x.1 n hc.1]
                  exact ih x.2 _ hc.2
              exact aux2 _ _ _ hq1.2.2
            rw [hnil] at hv
            have h5 := AVR_move (w := w1) (S2 := Sof w0.heap.size S0 st.hp rho w) (hp1 := []) (hp2 := st.hp) (rho1 := rho1) (rho2 := rho) (n := 0) ⟨fun i hi => by simp at hi, fun i hi => by simp at hi, by simp⟩ E.rs res (.inr hq1.2.1) hv
            exact flat_world hq1.1 h5
          · obtain ⟨vs', hrun', hcall'⟩ := call_sound (I.grown hw') ho hev E hE k hx hr
            unfold Oper.quietAt
            rw [hrun']
            refine ⟨rfl, hcall'.mono fun e w'' he => ?_⟩
            obtain ⟨v', rfl, HB, rho', _, hv'⟩ := he
            exact ⟨by rw [one_uniq hq1.1 hv' hv], HB⟩
      · cases h
    · exact pure h
  · exact pure h

/-! Orders -/
/-- What a world of which is known that the blocks of u stand as they stood. -/
abbrev Ext (u w : World) : Prop := Below u.heap.size u w
theorem Ext.refl' (u : World) : Ext u u := ⟨rfl, rfl, rfl, Nat.le_refl _, fun _ _ => rfl⟩
theorem Ext.trans' {u v w : World} (h : Ext u v) (k : Ext v w) : Ext u w :=
  h.trans ⟨k.os, k.tape, k.output, k.size, fun i hi => k.block i (Nat.lt_of_lt_of_le hi h.size)⟩

/-- An operation that goes on, and what stands behind it. -/
def goes (P : Program) (o : Oper) (a : Act) (w : World) (K : Act → World → Prop) : Prop :=
  match (execOp a.eval o).run P w with
  | .ok (.value v) w' => K (a.put o.dst v) w'
  | .ok .skip w' => K (a.put o.dst undef) w'
  | .ok (.enter f args) w' => Calls P f args w' fun e w'' => ∃ v, e = .returned v ∧ K (a.put o.dst v) w''
  | _ => False

theorem wp_of_goes {o : Oper} {K : Act → World → Prop} {Q : Exit → Act → World → Prop} (h : goes P o a w K) : o.wp P a w K Q := by
  unfold goes at h
  unfold Oper.wp
  generalize (execOp a.eval o).run P w = r at *
  cases r with
  | ok n w' =>
    cases n <;> simp only [Oper.upon] at h ⊢ <;> first | exact h | skip
    · exact h.mono fun e w'' ⟨v, he, hk⟩ => by subst he; exact hk
  | halt x w' => cases h

def goOp (P : Program) (ops : Array Oper) (i : Nat) (K : Act → World → Prop) (a : Act) (w : World) : Prop :=
  match ops[i]? with
  | none => False
  | some o => if Region.wanted o (yielded ops a.tmps) then goes P o a w K else K (a.put o.dst undef) w

theorem wpOp_of_goOp {ops : Array Oper} {i : Nat} {K : Act → World → Prop} {Q : Exit → Act → World → Prop} (h : goOp P ops i K a w) : wpOp P ops Q i K a w := by
  unfold goOp at h
  unfold wpOp
  split
  · rename_i ho; simp [ho] at h
  · rename_i o ho
    simp only [ho] at h
    split
    · rename_i hw; simp only [hw, if_true] at h; exact .inl (wp_of_goes h)
    · rename_i hw; simp only [hw] at h; exact h

/-- Whatever order is picked, from whatever world that has the blocks of u. -/
def AnyC (P : Program) (ops : Array Oper) (Q : Act → World → Prop) : Nat → World → Array Bool → Act → Prop
  | 0, u, listed, a => Region.ready .any ops listed = [] ∧ ∀ w, Ext u w → Q a w
  | f + 1, u, listed, a => (Region.ready .any ops listed = [] → ∀ w, Ext u w → Q a w) ∧
    ∀ i ∈ Region.ready .any ops listed, ∀ w, Ext u w → goOp P ops i (fun a' w' => ∃ u', Ext u u' ∧ Ext u' w' ∧ AnyC P ops Q f u' (listed.setIfInBounds i true) a') a w

theorem wpAny_of_AnyC {ops : Array Oper} {Q : Act → World → Prop} {Q' : Exit → Act → World → Prop} (hQ : ∀ a w, Q a w → Q' .normal a w) : ∀ (f : Nat) (u : World) (listed : Array Bool) (a : Act) (w : World), Ext u w →
    AnyC P ops Q f u listed a → wpAny P .any ops Q' f listed a w
  | 0, _, _, _, _, hw, h => ⟨h.1, hQ _ _ (h.2 _ hw)⟩
  | f + 1, _, _, _, w, hw, h => ⟨fun h0 => hQ _ _ (h.1 h0 _ hw), fun i hi => wpOp_mono (fun a' w' ⟨u', _, h2, h3⟩ => wpAny_of_AnyC hQ f u' _ a' w' h2 h3) (wpOp_of_goOp (h.2 i hi w hw))⟩

/-- Operation o yields v, in whatever world that has the blocks of u. -/
def YB (P : Program) (ops : Array Oper) (u : World) (o : Oper) (v : Value) (a : Act) : Prop :=
  (Region.wanted o (yielded ops a.tmps) = true ∧ ∀ w, Ext u w → o.quietAt P a (Ext w) w v) ∨
  (Region.wanted o (yielded ops a.tmps) = false ∧ v = undef)

theorem YB.ext {ops : Array Oper} {u u' : World} {o : Oper} {v : Value} (h : YB P ops u o v a) (k : Ext u u') : YB P ops u' o v a := by
  rcases h with ⟨h1, h2⟩ | h
  · exact .inl ⟨h1, fun w hw => h2 w (k.trans' hw)⟩
  · exact .inr h

theorem YB.of_same {ops : Array Oper} {u : World} {o : Oper} {v : Value} {a a' : Act} (hy : YB P ops u o v a) (he : execOp a'.eval o = execOp a.eval o)
    (hw : Region.wanted o (yielded ops a'.tmps) = Region.wanted o (yielded ops a.tmps)) : YB P ops u o v a' := by
  unfold YB Oper.quietAt at *
  rw [he, hw]
  exact hy

theorem YB.go {ops : Array Oper} {u : World} {i : Nat} {o : Oper} {v : Value} (hi : ops[i]? = some o) (hy : YB P ops u o v a) {w : World} (hw : Ext u w) {K : Act → World → Prop} (h : ∀ w', Ext w w' → K (a.put o.dst v) w') : goOp P ops i K a w := by
  unfold goOp
  simp only [hi]
  rcases hy with ⟨h1, h2⟩ | ⟨h1, h2⟩
  · rw [if_pos h1]
    have := h2 w hw
    unfold goes
    unfold Oper.quietAt at this
    generalize (execOp a.eval o).run P w = r at *
    cases r with
    | ok n w' =>
      cases n <;> simp only [Oper.quietUpon] at this ⊢
      · obtain ⟨e1, e2⟩ := this
        subst e1 e2
        exact h _ (Ext.refl' _)
      · obtain ⟨e1, e2⟩ := this
        subst e1 e2
        exact h _ (Ext.refl' _)
      · obtain ⟨e1, hc⟩ := this
        subst e1
        exact hc.mono fun e w'' ⟨he, hx⟩ => ⟨v, he, h _ hx⟩
    | halt x w' => simp [Oper.quietUpon] at this
  · rw [if_neg (by rw [h1]; simp), ← h2]
    exact h _ (Ext.refl' _)

theorem goOp_mono {ops : Array Oper} {i : Nat} {K K' : Act → World → Prop} (h : ∀ a w, K a w → K' a w) (hh : goOp P ops i K a w) : goOp P ops i K' a w := by
  unfold goOp at *
  split
  · rename_i ho; simp [ho] at hh
  · rename_i o ho
    simp only [ho] at hh
    split
    · rename_i hw
      simp only [hw, if_true] at hh
      unfold goes at *
      generalize (execOp a.eval o).run P w = r at *
      cases r with
      | ok n w' =>
        cases n <;> simp only at hh ⊢ <;> first | exact h _ _ hh | skip
        exact hh.mono fun e w'' ⟨v, he, hk⟩ => ⟨v, he, h _ _ hk⟩
      | halt x w' => cases hh
    · rename_i hw; simp only [hw] at hh; exact h _ _ hh

/-- An operation apart from another comes to the same without the other's value. -/
theorem goOp_put {ops : Array Oper} {j : Nat} {oi oj : Oper} {v : Value} (hj : ops[j]? = some oj) (hap : oi.apart ops oj = true) (hsj : ∀ cs b, oj.op ≠ .select cs b) {K : Act → World → Prop}
    (h : goOp P ops j K (a.put oi.dst v) w) : goOp P ops j (fun a' w' => K (a'.put oi.dst v) w' ∧ ∃ u, a' = a.put oj.dst u) a w := by
  obtain ⟨h1, h2, h3⟩ := Oper.apart_spec hap
  unfold goOp at *
  simp only [hj] at *
  rw [wanted_put oj a oi.dst v h1] at h
  split
  · rename_i hw
    simp only [hw, if_true] at h
    unfold goes at *
    rw [execOp_put oj hsj a oi.dst v h1] at h
    generalize (execOp a.eval oj).run P w = r at *
    cases r with
    | ok n w' =>
      cases n <;> simp only at h ⊢
      · exact ⟨by rw [← Act.put_comm a v _ h2]; exact h, _, rfl⟩
      · exact ⟨by rw [← Act.put_comm a v _ h2]; exact h, _, rfl⟩
      · exact h.mono fun e w'' ⟨u, he, hk⟩ => ⟨u, he, by rw [← Act.put_comm a v _ h2]; exact hk, _, rfl⟩
    | halt x w' => cases h
  · rename_i hw
    simp only [hw] at h
    exact ⟨by rw [← Act.put_comm a v _ h2]; exact h, _, rfl⟩

/-- An operation that leaves the blocks as they are, and may come up now, may be taken first. -/
theorem anyC_first {ops : Array Oper} {Q : Act → World → Prop} {i : Nat} {oi : Oper} {v : Value} (hi : ops[i]? = some oi) (hsel : ∀ (j : Nat) (o : Oper) cs b, ops[j]? = some o → o.op ≠ .select cs b) :
    ∀ (f : Nat) (u : World) (listed : Array Bool) (a : Act),
      (∀ j oj, ops[j]? = some oj → j ≠ i → listed.getD j true = false → (∀ e ∈ oj.after, Region.binds .any e = true → e.on ≠ i) → oi.apart ops oj = true) →
      i ∈ Region.ready .any ops listed → YB P ops u oi v a → AnyC P ops Q f u (listed.setIfInBounds i true) (a.put oi.dst v) → AnyC P ops Q (f + 1) u listed a := by
  intro f
  induction f with
  | zero =>
    intro u listed a _ hr hy H
    refine ⟨fun h => (by rw [h] at hr; cases hr), fun j hj w hw => ?_⟩
    by_cases hji : j = i
    · subst hji; exact hy.go hi hw fun w' hw' => ⟨u, Ext.refl' u, hw.trans' hw', H⟩
    · have := ready_mono hj hji
      rw [H.1] at this
      cases this
  | succ f ih =>
    intro u listed a hfree hr hy H
    refine ⟨fun h => (by rw [h] at hr; cases hr), fun j hj w hw => ?_⟩
    by_cases hji : j = i
    · subst hji; exact hy.go hi hw fun w' hw' => ⟨u, Ext.refl' u, hw.trans' hw', H⟩
    · have h1 := H.2 j (ready_mono hj hji) w hw
      obtain ⟨hjun, oj, hoj, hall⟩ := mem_ready.1 hj
      have hnot : ∀ e ∈ oj.after, Region.binds .any e = true → e.on ≠ i := fun e he hb heq => by
        have h1 := hall e he hb
        have h0 := (mem_ready.1 hr).1
        rw [heq] at h1
        rcases Nat.lt_or_ge i listed.size with h' | h'
        · simp [h'] at h0 h1; rw [h0] at h1; cases h1
        · simp [Array.getElem?_eq_none h'] at h1
      have hap := hfree j oj hoj hji hjun hnot
      have h2 := goOp_put hoj hap (fun cs b => hsel j oj cs b hoj) h1
      have hfree' : ∀ k ok, ops[k]? = some ok → k ≠ i → (listed.setIfInBounds j true).getD k true = false →
          (∀ e ∈ ok.after, Region.binds .any e = true → e.on ≠ i) → oi.apart ops ok = true := fun k ok hk hki hun hno => by
        refine hfree k ok hk hki ?_ hno
        by_cases hjk : j = k
        · subst hjk; exact hjun
        · rw [getD_set_ne true hjk] at hun; exact hun
      obtain ⟨_, _, h3⟩ := Oper.apart_spec hap
      refine goOp_mono (fun a' w' hh => ?_) h2
      obtain ⟨⟨u', hu, hw', hk⟩, x, rfl⟩ := hh
      refine ⟨u', hu, hw', ih u' (listed.setIfInBounds j true) _ hfree' (ready_mono hr (Ne.symm hji)) ((hy.of_same (execOp_put oi (fun cs b => hsel i oi cs b hi) a oj.dst x h3) (wanted_put oi a oj.dst x h3)).ext hu) ?_⟩
      rw [Array.setIfInBounds_comm _ _ hji]
      exact hk

theorem stepD_sound {Δ : List (TE P)} {Γ : List (Entry P)} {k : Nat} {K : St → Option R} {r : R} {o : Oper} (I : InvR w0 S0 st rho a w) (h : stepD Δ Γ k st o K = some r)
    {next : Act → World → Prop} (hn : ∀ st' rho' a' w', K st' = some r → InvR w0 S0 st' rho' a' w' → Ext w w' → next a' w') : goes P o a w next := by
  have quiet : quietOp Δ Γ k st o.op (fun av => K (st.put o.dst av)) = some r → goes P o a w next := fun h => by
    obtain ⟨av, v, hK, hv, hq⟩ := quiet_in I h
    have := hq w (Ext.refl' w)
    unfold goes
    unfold Oper.quietAt at this
    generalize (execOp a.eval o).run P w = r at *
    cases r with
    | ok n w' =>
      cases n <;> simp only [Oper.quietUpon] at this ⊢
      · obtain ⟨e1, e2⟩ := this
        subst e1 e2
        exact hn _ rho _ _ hK (I.put o.dst hv) (Ext.refl' _)
      · obtain ⟨e1, e2⟩ := this
        subst e1 e2
        exact hn _ rho _ _ hK (I.put o.dst hv) (Ext.refl' _)
      · obtain ⟨e1, hc⟩ := this
        subst e1
        exact hc.mono fun e w'' ⟨he, hx⟩ => ⟨v, he, hn _ rho _ _ hK ((I.put o.dst hv).grown hx) hx⟩
    | halt x w' => simp [Oper.quietUpon] at this
  unfold stepD at h
  split at h
  · rename_i c ho
    split at h
    · rename_i fv hc
      obtain ⟨callee, args, argTypes⟩ := c
      simp only at hc
      subst hc
      have := eff_callX fv args argTypes ho I h (fun a' w' => next a' w') (fun _ _ _ => False) fun av hp' rho' v w' hK hI hv hx => hn _ rho' _ _ hK (hI.put o.dst hv) hx
      unfold Oper.wp at this
      unfold opCall at h
      split at h
      · rename_i f caps hev
        obtain ⟨E, hE, h1⟩ := withEntry_sound h
        obtain ⟨x, hx, h2⟩ := Option.bind_eq_some_iff.1 h1
        obtain ⟨res, hr, h3⟩ := Option.bind_eq_some_iff.1 h2
        obtain ⟨vs, hrun, _⟩ := call_sound I ho hev E hE k hx hr
        rw [hrun] at this
        unfold goes
        rw [hrun]
        refine Calls.mono this fun e w' he => ?_
        cases e with
        | returned v => exact ⟨v, rfl, he⟩
        | panicked _ => exact he.elim
        | outgrown => obtain ⟨_, _, hf⟩ := he; exact hf.elim
      · cases h
    · exact quiet h
  · exact quiet h

theorem runD_sound {Δ : List (TE P)} {Γ : List (Entry P)} {k : Nat} {ops : Array Oper} {Q : Act → World → Prop} {K : St → Option R} {r : R} (hsel : Region.noSelect ops = true) (hQ : ∀ st' a' w', K st' = some r → Inv w0 S0 st' a' w' → Q a' w') :
    ∀ (l : List Oper) (i : Nat) (listed : Array Bool) (st : St) (rho : Nat → Value) (a : Act) (u : World), (∀ j, l[j]? = ops[i + j]?) → runD Δ Γ k ops l i listed st K = some r → InvR w0 S0 st rho a u → AnyC P ops Q l.length u listed a
  | [], i, listed, st, rho, a, u, _, h, I => by
    simp only [runD] at h
    cases hb : (Region.ready .any ops listed).isEmpty with
    | false => rw [hb] at h; cases h
    | true =>
      rw [hb] at h
      exact ⟨List.isEmpty_iff.1 hb, fun w hw => hQ _ _ _ h ⟨rho, I.grown hw⟩⟩
  | o :: l, i, listed, st, rho, a, u, hl, h, I => by
    have h0 : ops[i]? = some o := by simpa using (hl 0).symm
    have hl' : ∀ j, l[j]? = ops[i + 1 + j]? := fun j => by have := hl (j + 1); simpa [Nat.add_assoc, Nat.add_comm 1 j] using this
    simp only [runD] at h
    cases hb : isOne (Region.ready .any ops listed) i with
    | true =>
      rw [hb] at h
      simp only [cond_true] at h
      have hr : Region.ready .any ops listed = [i] := by
        unfold isOne at hb
        split at hb
        · rename_i j e; rw [e, Nat.eq_of_beq_eq_true hb]
        · cases hb
      refine ⟨fun h1 => (by rw [hr] at h1; cases h1), fun j hj w hw => ?_⟩
      rw [hr] at hj
      have hji : j = i := by simpa using hj
      subst hji
      unfold goOp
      simp only [h0]
      rcases guarded_sound (I.grown hw) h with ⟨hwt, st1, h1, I1, _⟩ | ⟨hwt, st1, h1, I1, _⟩
      · rw [if_pos hwt]
        exact stepD_sound I1 h1 fun st' rho' a' w' hK I' hx => ⟨w', hw.trans' hx, Ext.refl' _, runD_sound hsel hQ l (j + 1) _ st' rho' a' w' hl' hK I'⟩
      · rw [if_neg (by rw [hwt]; simp)]
        exact ⟨w, hw, Ext.refl' _, runD_sound hsel hQ l (j + 1) _ _ rho _ w hl' h1 (I1.put_undef o.dst)⟩
    | false =>
      rw [hb] at h
      simp only [cond_false] at h
      cases hc : ((Region.ready .any ops listed).contains i && Region.free .any ops listed i) with
      | false => rw [hc] at h; cases h
      | true =>
        rw [hc] at h
        simp only [cond_true] at h
        simp only [Bool.and_eq_true] at hc
        have hr : i ∈ Region.ready .any ops listed := by simpa using hc.1
        rcases guarded_sound I h with ⟨hwt, st1, h1, I1, _⟩ | ⟨hwt, st1, h1, I1, _⟩
        · obtain ⟨av, v, hK, hv, hq⟩ := quiet_in I1 h1
          refine anyC_first h0 (Region.noSelect_spec hsel) l.length u listed a (Region.free_spec h0 hc.2) hr (.inl ⟨hwt, fun w hw => ?_⟩) (runD_sound hsel hQ l (i + 1) _ _ rho _ u hl' hK (I1.put o.dst hv))
          exact hq w hw
        · exact anyC_first h0 (Region.noSelect_spec hsel) l.length u listed a (Region.free_spec h0 hc.2) hr (.inr ⟨hwt, rfl⟩) (runD_sound hsel hQ l (i + 1) _ _ rho _ u hl' h1 (I1.put_undef o.dst))

theorem runQ_sound {Δ : List (TE P)} {Γ : List (Entry P)} {k : Nat} {ops : Array Oper} {Q : Exit → Act → World → Prop} {K : St → Option R} {r : R} {st0 : St}
    (hQ : ∀ st' a' w', K st' = some r → Inv w0 S0 st' a' w' → Like ops.toList st0 st' → Q .normal a' w') :
    ∀ (l : List Oper) (st : St) (a : Act) (w : World), (∀ o, o ∈ l → o ∈ ops.toList) → runQ Δ Γ k ops.toList l st K = some r → Inv w0 S0 st a w → Like ops.toList st0 st → wpList P ops Q l a w
  | [], st, a, w, _, h, I, Lk => hQ _ _ _ h I Lk
  | o :: rest, st, a, w, hl, h, ⟨rho, I⟩, Lk => by
    simp only [runQ] at h
    unfold wpList
    rcases guarded_sound I h with ⟨hw, st1, h1, I1, e1, e2, e3⟩ | ⟨hw, st1, h1, I1, e1, e2, e3⟩
    · rw [if_pos hw]
      exact .inl (quiet_sound I1 h1 _ _ fun av v w' hK I' => runQ_sound hQ rest _ _ w' (fun o ho => hl o (List.mem_cons_of_mem _ ho)) hK ⟨rho, I'⟩ ((Lk.trans ⟨e1, e2, e3⟩).put (hl o (by simp)) av))
    · rw [if_neg (by rw [hw]; simp)]
      exact runQ_sound hQ rest _ _ _ (fun o ho => hl o (List.mem_cons_of_mem _ ho)) h1 ⟨rho, I1.put_undef o.dst⟩ ((Lk.trans ⟨e1, e2, e3⟩).put (hl o (by simp)) _)

theorem forget_hp : ∀ (l : List Oper) (st : St), (forget st l).hp = st.hp
  | [], _ => rfl
  | o :: l, st => by simp only [forget]; rw [forget_hp l, put_hp]
theorem forget_len : ∀ (l : List Oper) (st : St), (forget st l).fr.length = st.fr.length
  | [], _ => rfl
  | o :: l, st => by simp only [forget]; rw [forget_len l, put_len]
theorem forget_fr : ∀ (l : List Oper) (st : St) (i : Nat) (v : AV), (forget st l).fr[i]? = some v → v = .junk ∨ ((∀ o, o ∈ l → o.dst ≠ some i) ∧ st.fr[i]? = some v)
  | [], _, _, _, h => .inr ⟨(fun _ ho => by cases ho), h⟩
  | o :: l, st, i, v, h => by
    simp only [forget] at h
    rcases forget_fr l _ i v h with h1 | ⟨h1, h2⟩
    · exact .inl h1
    · by_cases ho : o.dst = some i
      · rw [ho] at h2
        simp only [St.put, List.getElem?_set, if_true] at h2
        split at h2
        · simp only [Option.some.injEq] at h2; exact .inl h2.symm
        · cases h2
      · rw [put_fr _ _ _ _ ho] at h2
        exact .inr ⟨fun q hq => by
          rcases List.mem_cons.1 hq with rfl | hq
          · exact ho
          · exact h1 q hq, h2⟩

theorem region_sound {Δ : List (TE P)} {Γ : List (Entry P)} {k : Nat} {mrg : Nat → Bool} {id : Nat} {ops : Array Oper} {draw : Bool} {K : St → Option R} {r : R} (hm : P.follows .mixedOrders = true)
    {Q : Exit → Act → World → Prop} (hQ : ∀ st' a' w', K st' = some r → Inv w0 S0 st' a' w' → Q .normal a' w') (I : Inv w0 S0 st a w) (h : runRegion Δ Γ k mrg id ops draw st K = some r) :
    (Code.region id ops draw).wp P Q a w := by
  unfold runRegion at h
  cases draw with
  | true =>
    simp only [cond_true] at h
    cases hl : Region.noSelect ops with
    | false => rw [hl] at h; cases h
    | true =>
      rw [hl] at h
      simp only [cond_true] at h
      obtain ⟨rho, I⟩ := I
      have := runD_sound hl hQ ops.toList 0 _ st rho a w (fun j => by simp) h I
      refine wp_region_any hm ?_
      have h2 := wpAny_of_AnyC (Q' := Q) (fun _ _ h => h) _ w _ a { w with drawn := w.drawn + 1 } ⟨rfl, rfl, rfl, Nat.le_refl _, fun _ _ => rfl⟩ this
      simpa using h2
  | false =>
    simp only [cond_false] at h
    cases hmr : mrg id with
    | false =>
      rw [hmr] at h
      exact wp_region_list (runOps_sound hQ ops.toList st a w h I)
    | true =>
      rw [hmr] at h
      simp only [cond_true] at h
      split at h
      · rename_i d hd
        obtain ⟨b, hb, hK⟩ := Option.bind_eq_some_iff.1 h
        refine wp_region_list (runQ_sound (st0 := st) (fun st' a' w' hB I' Lk => ?_) ops.toList st a w (fun _ ho => ho) hb I ⟨rfl, rfl, fun _ _ => rfl⟩)
        obtain ⟨rho, I'⟩ := I'
        refine hQ _ a' w' hK ⟨rho, ?_⟩
        have hbool : ∀ u, a'.tmps[d]? = some u → u = .bool b := fun u hu => by
          unfold boolAt at hB
          split at hB
          · rename_i b' hget
            simp only [Option.some.injEq] at hB
            subst hB
            obtain ⟨u', hu', hr⟩ := I'.fr d _ (get_some hget)
            rw [hu] at hu'
            cases hu'
            exact cv_bool hr
          · cases hB
        refine ⟨I'.s0, I'.below, ?_, fun i v hv => ?_, ?_, I'.dfr⟩
        · rw [put_hp, forget_hp, ← Lk.hp]; exact I'.heap
        · rw [put_hp, forget_hp, ← Lk.hp]
          by_cases hdi : d = i
          · subst hdi
            simp only [St.put, List.getElem?_set, if_true] at hv
            split at hv
            · rename_i hlt
              simp only [Option.some.injEq] at hv
              subst hv
              have : d < a'.tmps.size := by rw [I'.len, Lk.len, ← forget_len ops.toList st]; exact hlt
              refine ⟨a'.tmps[d], by simp [this], ?_⟩
              rw [hbool _ (show a'.tmps[d]? = some a'.tmps[d] by simp [this])]
              exact mk_bool b
            · cases hv
          · rw [put_fr _ _ _ _ (fun e => hdi (by simpa using e))] at hv
            rcases forget_fr _ _ i v hv with rfl | ⟨h1, h2⟩
            · have : i < a'.tmps.size := by
                rw [I'.len, Lk.len, ← forget_len ops.toList st]
                exact (List.getElem?_eq_some_iff.1 hv).1
              exact ⟨a'.tmps[i], by simp [this], trivial⟩
            · exact I'.fr i v (by rw [Lk.fr i h1]; exact h2)
        · rw [put_len, forget_len, ← Lk.len]; exact I'.len
      · cases h

end
end Go.Proofs.Ytdgnmbhnilidlaa.Ab
