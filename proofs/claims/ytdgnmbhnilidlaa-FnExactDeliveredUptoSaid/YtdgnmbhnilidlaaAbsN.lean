/- Code and functions. -/
import Derived.Test.YtdgnmbhnilidlaaAbsM
import Derived.LoopN
set_option linter.unusedVariables false
set_option linter.unusedSimpArgs false
set_option linter.unusedSectionVars false
namespace Go.Proofs.Ytdgnmbhnilidlaa.Ab
open Go Go.RowKit

section
variable {P : Program} {R : Type}
variable {w0 : World} {S0 : Nat → Prop} {st : St} {rho : Nat → Value} {a : Act} {w : World} {B : Nat} {hp : List Blk}

def Ex.of : Ex → Exit
  | .normal => .normal
  | .exit i => .exit i
  | .ret => .ret

def Lands (w0 : World) (S0 : Nat → Prop) (K : Ex → St → Option R) (r : R) (Q : Exit → Act → World → Prop) : Prop :=
  ∀ e st' a' w', K e st' = some r → Inv w0 S0 st' a' w' → Q e.of a' w'

theorem run_sound {Δ : List (TE P)} {Γ : List (Entry P)} {k : Nat} {mrg : Nat → Bool} {L : List (Nat × LPat)} (hm : P.follows .mixedOrders = true) :
    ∀ (c : Code) {K : Ex → St → Option R} {r : R} {Q : Exit → Act → World → Prop} {st : St} {a : Act} {w : World}, Lands w0 S0 K r Q → Inv w0 S0 st a w → run Δ Γ k mrg L c st K = some r → c.wp P Q a w
  | .skip, K, r, Q, st, a, w, hQ, I, h => wp_skip (hQ .normal _ _ _ h I)
  | .region id ops draw, K, r, Q, st, a, w, hQ, I, h => region_sound hm (fun st' a' w' h1 h2 => hQ .normal _ _ _ h1 h2) I h
  | .seq x y, K, r, Q, st, a, w, hQ, I, h => by
    refine wp_seq (run_sound hm x (fun e st' a' w' h1 h2 => ?_) I h)
    cases e with
    | normal => exact run_sound hm y hQ h2 h1
    | exit i => exact hQ (.exit i) _ _ _ h1 h2
    | ret => exact hQ .ret _ _ _ h1 h2
  | .cond c x y, K, r, Q, st, a, w, hQ, I, h => by
    simp only [run] at h
    split at h
    · rename_i p hc
      obtain ⟨rho, I'⟩ := I
      have hb := ev_sound I' c
      rw [hc] at hb
      refine wp_cond (cv_bool hb) ?_
      cases p with
      | true => exact run_sound hm x hQ ⟨rho, I'⟩ h
      | false => exact run_sound hm y hQ ⟨rho, I'⟩ h
    · cases h
  | .block id c, K, r, Q, st, a, w, hQ, I, h => by
    refine wp_block (run_sound hm c (fun e st' a' w' h1 h2 => ?_) I h)
    cases e with
    | normal => exact hQ .normal _ _ _ h1 h2
    | exit i =>
      simp only at h1
      show (if i = id then Q .normal a' w' else Q (.exit i) a' w')
      cases hi : Nat.beq i id with
      | true =>
        rw [hi] at h1
        rw [if_pos (Nat.eq_of_beq_eq_true hi)]
        exact hQ .normal _ _ _ h1 h2
      | false =>
        rw [hi] at h1
        rw [if_neg (Nat.ne_of_beq_eq_false hi)]
        exact hQ (.exit i) _ _ _ h1 h2
    | ret => exact hQ .ret _ _ _ h1 h2
  | .loop body, K, r, Q, st, a, w, hQ, I, h => by
    simp only [run] at h
    obtain ⟨p, hp, h1⟩ := Option.bind_eq_some_iff.1 h
    obtain ⟨s, hs, h2⟩ := Option.bind_eq_some_iff.1 h1
    clear h h1
    obtain ⟨rho, I'⟩ := I
    have I2 := unframe_sound I' hs
    refine wp_loop_rounds k ?_
    generalize hk : k = kk at h2 ⊢
    have key : ∀ n (s : p.den) (a : Act) (w : World), Inv w0 S0 (frame p s) a w →
        iter (fun rec s => run Δ Γ kk mrg L body (frame p s) fun e st' => match e with
          | .normal => (unframe p st').bind rec
          | .exit i => K (.exit i) st'
          | .ret => K .ret st') n s = some r → Code.rounds P body Q n a w := by
      intro n
      induction n with
      | zero => intro s a w _ h; simp [iter] at h
      | succ n ih =>
        intro s a w I h
        simp only [iter] at h
        rw [rounds_succ]
        refine run_sound hm body (fun e st' a' w' h1 h2 => ?_) I h
        cases e with
        | normal =>
          obtain ⟨s', hs', h3⟩ := Option.bind_eq_some_iff.1 h1
          obtain ⟨rho, h2⟩ := h2
          exact ih s' a' w' (unframe_sound h2 hs') h3
        | exit i => exact hQ (.exit i) _ _ _ h1 h2
        | ret => exact hQ .ret _ _ _ h1 h2
    exact key kk s a w I2 h2
  | .exit id, K, r, Q, st, a, w, hQ, I, h => wp_exit (hQ (.exit id) _ _ _ h I)
  | .ret, K, r, Q, st, a, w, hQ, I, h => wp_ret (hQ .ret _ _ _ h I)
  | .rangeFunc _ _ _ _, K, r, Q, st, a, w, hQ, I, h => by simp [run] at h
  | .scope _, K, r, Q, st, a, w, hQ, I, h => by simp [run] at h
  | .label _, K, r, Q, st, a, w, hQ, I, h => by simp [run] at h
  | .goto _, K, r, Q, st, a, w, hQ, I, h => by simp [run] at h

/-! ### Results -/
theorem resCells_sound (I : InvR w0 S0 st rho a w) {Δ : List (TE P)} {v : ResultVar} {c : Bool × List CV} (h : resCells Δ st v = some c) :
    ∃ u, (∀ f : ResultVar → Sem Value, (∀ u, f (.tmp u) = pure (a.tmps.getD u undef)) → (∀ x t, f (.cell x t) = (do loadVar t (← asAddr (a.tmps.getD x undef)))) → (f v).run P w = .ok u w) ∧ CompR w (Sof w0.heap.size S0 st.hp rho w) st.hp rho c u := by
  unfold resCells at h
  split at h
  · rename_i t
    refine ⟨a.tmps.getD t undef, fun f hf hc => by rw [hf]; simp, ?_⟩
    split at h
    · rename_i c hget
      simp only [Option.some.injEq] at h; subst h
      obtain ⟨u, hu, hr⟩ := I.fr t _ (get_some hget)
      rw [show a.tmps.getD t undef = u by simp [hu]]
      exact ⟨hr, trivial⟩
    · rename_i cs hget
      simp only [Option.some.injEq] at h; subst h
      obtain ⟨u, hu, hr⟩ := I.fr t _ (get_agg hget)
      rw [show a.tmps.getD t undef = u by simp [hu]]
      exact hr
    · cases h
  · rename_i t T
    obtain ⟨e, he, h'⟩ := Option.bind_eq_some_iff.1 h
    clear h
    have h := h'
    clear h'
    have heT := TE.find_sound he
    subst heT
    split at h
    · rename_i h' hget
      split at h
      · rename_i cs hbox
        obtain ⟨u, hu, hr⟩ := I.fr t _ (get_some hget)
        obtain ⟨b, hb, rfl⟩ := hr.2.2 cs hbox
        obtain ⟨b', us, T', eb, hB, hh, ha⟩ := I.heap.blk h' _ hbox
        rw [hb] at eb
        cases eb
        have hat := cellsAt_row hh
        have hlen := ha.len
        have hgp : a.tmps.getD t undef = .pointer (some ⟨b, 0, none⟩) := by simp [hu]
        cases hs : Nat.beq cs.length e.size with
        | false => rw [hs] at h; cases h
        | true =>
        rw [hs] at h
        have hs := Nat.eq_of_beq_eq_true hs
        simp only [cond_true] at h
        cases hg : e.agg with
        | true =>
          rw [hg] at h
          simp only [cond_true, Option.some.injEq] at h; subst h
          have h1 := run_loadCells_list (P := P) w ⟨b, 0, none⟩ us hat
          rw [← hlen, hs] at h1
          refine ⟨.agg us.toArray, fun f hf hc => ?_, us, rfl, ha⟩
          rw [hc, hgp]
          simp only [asAddr, loadVar, Sem.run_bind, Sem.run_pure, Result.andThen_ok, e.isAgg_run w, hg, if_true, e.sizeOf_run w, h1]
        | false =>
          rw [hg] at h
          simp only [cond_false] at h
          split at h
          · rename_i c
            simp only [Option.some.injEq] at h; subst h
            match us, ha with
            | [u], ha =>
              have hcell : w.cell? ⟨b, 0, none⟩ = some u := by have := hat 0 u rfl; simpa [Addr.add] using this
              refine ⟨u, fun f hf hc => ?_, ha.1, trivial⟩
              rw [hc, hgp]
              simp only [asAddr, loadVar, Sem.run_bind, Sem.run_pure, Result.andThen_ok, e.isAgg_run w, hg, Bool.false_eq_true, if_false, run_load, hcell]
          · cases h
      · cases h
    · cases h

theorem allRes_sound (I : InvR w0 S0 st rho a w) {Δ : List (TE P)} : ∀ {vs : List ResultVar} {cs : List (Bool × List CV)}, allRes Δ st vs = some cs →
    ∃ us, (∀ f : ResultVar → Sem Value, (∀ u, f (.tmp u) = pure (a.tmps.getD u undef)) → (∀ x t, f (.cell x t) = (do loadVar t (← asAddr (a.tmps.getD x undef)))) → (vs.mapM f).run P w = .ok us w) ∧ All2 (CompR w (Sof w0.heap.size S0 st.hp rho w) st.hp rho) cs us
  | [], cs, h => by simp only [allRes, Option.some.injEq] at h; subst h; exact ⟨[], fun _ _ _ => by simp, trivial⟩
  | v :: vs, cs, h => by
    simp only [allRes] at h
    obtain ⟨c, h1, h'⟩ := Option.bind_eq_some_iff.1 h
    obtain ⟨cs', h2, h3⟩ := Option.bind_eq_some_iff.1 h'
    simp only [Option.some.injEq] at h3; subst h3
    obtain ⟨u, hu, hr⟩ := resCells_sound I h1
    obtain ⟨us, hus, hrs⟩ := allRes_sound I h2
    exact ⟨u :: us, fun f hf hc => by rw [List.mapM_cons]; simp [hu f hf hc, hus f hf hc], hr, hrs⟩

section
variable {S1 : Nat → Prop} {hp1 : List Blk} {rho1 : Nat → Value} {ok : Bool}

theorem noOwn_owns : ∀ {cs : List CV}, noOwn cs = true → cs.flatMap ownsC = []
  | [], _ => rfl
  | c :: cs, h => by
    simp only [noOwn, List.all_cons, Bool.and_eq_true] at h
    rw [List.flatMap_cons, noOwn_owns (cs := cs) h.2]
    cases c <;> simp_all [ownsC]

theorem getRK_items : ∀ (l : List RK) (cs : List CV) {q : RKs l × List (Option Nat)}, getRK hp ok l cs = some q → ∀ n, All2 (ItemR hp) q.2 (cellsRK l q.1 n).2
  | [], [], q, h, n => by simp only [getRK, Option.some.injEq] at h; subst h; trivial
  | [], _ :: _, q, h, n => by simp [getRK] at h
  | .v t :: l, cs, q, h, n => by
    simp only [getRK] at h
    cases hb : (ok || noOwn (cs.take t.size)) with
    | false => rw [hb] at h; cases h
    | true =>
    rw [hb] at h
    obtain ⟨x, h1, h'⟩ := Option.bind_eq_some_iff.1 h
    obtain ⟨q', h2, h3⟩ := Option.bind_eq_some_iff.1 h'
    simp only [Option.some.injEq] at h3; subst h3
    exact getRK_items l _ h2 n
  | .o e t :: l, .own g :: cs, q, h, n => by
    simp only [getRK] at h
    split at h
    · rename_i E u xs hrow
      cases hb : Nat.beq e E with
      | false => rw [hb] at h; cases h
      | true =>
      rw [hb] at h
      have := Nat.eq_of_beq_eq_true hb
      subst this
      obtain ⟨x, h1, h'⟩ := Option.bind_eq_some_iff.1 h
      obtain ⟨q', h2, h3⟩ := Option.bind_eq_some_iff.1 h'
      simp only [Option.some.injEq] at h3; subst h3
      obtain ⟨e2, rfl⟩ := cast_some h1
      cases e2
      exact ⟨⟨hrow, _, _, _, rfl⟩, getRK_items l _ h2 (n + 1)⟩
    · cases h
  | .o e t :: l, .nil :: cs, q, h, n => by
    simp only [getRK] at h
    obtain ⟨q', h2, h3⟩ := Option.bind_eq_some_iff.1 h
    simp only [Option.some.injEq] at h3; subst h3
    exact ⟨⟨_, _, rfl⟩, getRK_items l _ h2 (n + 1)⟩
  | .o e t :: l, [], q, h, n => by simp [getRK] at h
  | .o e t :: l, .val _ _ :: _, q, h, n => by simp [getRK] at h
  | .o e t :: l, .ptr _ _ :: _, q, h, n => by simp [getRK] at h
  | .o e t :: l, .tptr _ _ _ :: _, q, h, n => by simp [getRK] at h
  | .o e t :: l, .eptr _ _ _ :: _, q, h, n => by simp [getRK] at h
  | .o e t :: l, .fn _ _ :: _, q, h, n => by simp [getRK] at h
  | .o e t :: l, .nilp :: _, q, h, n => by simp [getRK] at h
  | .o e t :: l, .junk :: _, q, h, n => by simp [getRK] at h

theorem getRK_sound (H : HInv B S0 hp rho w) (hq : ∀ hs b, (ok = true ∨ hs = []) → SpOf B S0 hp rho w hs b → S1 b) :
    ∀ (l : List RK) (cs : List CV) {q : RKs l × List (Option Nat)}, getRK hp ok l cs = some q → ∀ {n : Nat} {us : List Value}, At hp1 rho rho1 q.2 n → All2 (CVR w (Sof B S0 hp rho w) hp rho) cs us →
      All2 (CVR w S1 hp1 rho1) (cellsRK l q.1 n).1 us
  | [], [], q, h, n, us, hat, hr => by simp only [getRK, Option.some.injEq] at h; subst h; exact (by cases us with | nil => trivial | cons _ _ => exact hr.elim)
  | [], _ :: _, q, h, n, us, hat, hr => by simp [getRK] at h
  | .v t :: l, cs, q, h, n, us, hat, hr => by
    simp only [getRK] at h
    cases hb : (ok || noOwn (cs.take t.size)) with
    | false => rw [hb] at h; cases h
    | true =>
    rw [hb] at h
    obtain ⟨x, h1, h'⟩ := Option.bind_eq_some_iff.1 h
    obtain ⟨q', h2, h3⟩ := Option.bind_eq_some_iff.1 h'
    simp only [Option.some.injEq] at h3; subst h3
    have hx := rdCs_sound H h1 (hr.take t.size) (hs := (cs.take t.size).flatMap ownsC) (fun q hq => hq)
    have hok : ok = true ∨ (cs.take t.size).flatMap ownsC = [] := by
      rcases Bool.or_eq_true _ _ ▸ hb with h | h
      · exact .inl h
      · exact .inr (noOwn_owns h)
    have := expl_sound (hp := hp1) (rho := rho1) (Rep_mono (w' := w) (fun b hb => hq _ b hok hb) (fun _ _ => rfl) hx)
    have h4 := getRK_sound H hq l _ h2 hat (hr.drop t.size)
    have := this.append h4
    rw [List.take_append_drop] at this
    exact this
  | .o e t :: l, .own g :: cs, q, h, n, us, hat, hr => by
    simp only [getRK] at h
    split at h
    · rename_i E u xs hrow
      cases hb : Nat.beq e E with
      | false => rw [hb] at h; cases h
      | true =>
      rw [hb] at h
      obtain ⟨x, h1, h'⟩ := Option.bind_eq_some_iff.1 h
      obtain ⟨q', h2, h3⟩ := Option.bind_eq_some_iff.1 h'
      simp only [Option.some.injEq] at h3; subst h3
      match us, hr with
      | u :: us, hr =>
        refine ⟨⟨hr.1.1, ?_⟩, getRK_sound H hq l _ h2 hat.tail hr.2⟩
        have h0 := hat 0 _ rfl
        refine ⟨h0.1, fun e t' xs' _ => ?_⟩
        rw [show n = n + 0 from rfl, h0.2]
        exact hr.1.2.2 _ _ _ hrow
    · cases h
  | .o e t :: l, .nil :: cs, q, h, n, us, hat, hr => by
    simp only [getRK] at h
    obtain ⟨q', h2, h3⟩ := Option.bind_eq_some_iff.1 h
    simp only [Option.some.injEq] at h3; subst h3
    match us, hr with
    | u :: us, hr =>
      refine ⟨⟨hr.1.1, ?_⟩, getRK_sound H hq l _ h2 hat.tail hr.2⟩
      have h0 := hat 0 _ rfl
      refine ⟨h0.1, fun e t' xs' _ => ?_⟩
      rw [show n = n + 0 from rfl, h0.2]
      exact hr.1.2
  | .o e t :: l, [], q, h, n, us, hat, hr => by simp [getRK] at h
  | .o e t :: l, .val _ _ :: _, q, h, n, us, hat, hr => by simp [getRK] at h
  | .o e t :: l, .ptr _ _ :: _, q, h, n, us, hat, hr => by simp [getRK] at h
  | .o e t :: l, .tptr _ _ _ :: _, q, h, n, us, hat, hr => by simp [getRK] at h
  | .o e t :: l, .eptr _ _ _ :: _, q, h, n, us, hat, hr => by simp [getRK] at h
  | .o e t :: l, .fn _ _ :: _, q, h, n, us, hat, hr => by simp [getRK] at h
  | .o e t :: l, .nilp :: _, q, h, n, us, hat, hr => by simp [getRK] at h
  | .o e t :: l, .junk :: _, q, h, n, us, hat, hr => by simp [getRK] at h

theorem getRes_items : ∀ (rs : List (Bool × List RK)) (cs : List (Bool × List CV)) {q : Res rs × List (Option Nat)}, getRes hp ok rs cs = some q → ∀ n, All2 (ItemR hp) q.2 (cellsRes rs q.1 n).2
  | [], [], q, h, n => by simp only [getRes, Option.some.injEq] at h; subst h; trivial
  | [], _ :: _, q, h, n => by simp [getRes] at h
  | _ :: _, [], q, h, n => by simp [getRes] at h
  | (b, l) :: rs, (b', cs) :: xs, q, h, n => by
    simp only [getRes] at h
    cases hb : b == b' with
    | false => rw [hb] at h; cases h
    | true =>
    rw [hb] at h
    obtain ⟨x, h1, h'⟩ := Option.bind_eq_some_iff.1 h
    obtain ⟨q', h2, h3⟩ := Option.bind_eq_some_iff.1 h'
    simp only [Option.some.injEq] at h3; subst h3
    exact (getRK_items l cs h1 n).append (getRes_items rs xs h2 _)

theorem getRes_sound (H : HInv B S0 hp rho w) (hq : ∀ hs b, (ok = true ∨ hs = []) → SpOf B S0 hp rho w hs b → S1 b) :
    ∀ (rs : List (Bool × List RK)) (cs : List (Bool × List CV)) {q : Res rs × List (Option Nat)}, getRes hp ok rs cs = some q → ∀ {n : Nat} {us : List Value}, At hp1 rho rho1 q.2 n →
      All2 (CompR w (Sof B S0 hp rho w) hp rho) cs us → All2 (CompR w S1 hp1 rho1) (cellsRes rs q.1 n).1 us
  | [], [], q, h, n, us, hat, hr => by simp only [getRes, Option.some.injEq] at h; subst h; exact (by cases us with | nil => trivial | cons _ _ => exact hr.elim)
  | [], _ :: _, q, h, n, us, hat, hr => by simp [getRes] at h
  | _ :: _, [], q, h, n, us, hat, hr => by simp [getRes] at h
  | (b, l) :: rs, (b', cs) :: xs, q, h, n, us, hat, hr => by
    simp only [getRes] at h
    cases hb : b == b' with
    | false => rw [hb] at h; cases h
    | true =>
    rw [hb] at h
    obtain ⟨x, h1, h'⟩ := Option.bind_eq_some_iff.1 h
    obtain ⟨q', h2, h3⟩ := Option.bind_eq_some_iff.1 h'
    simp only [Option.some.injEq] at h3; subst h3
    have hbb : b = b' := by simpa using hb
    subst hbb
    match us, hr with
    | u :: us, hr =>
      have hlen := (getRK_items l cs h1 n).len
      have hat2 := hat.right
      rw [hlen] at hat2
      refine ⟨?_, getRes_sound H hq rs xs h2 hat2 hr.2⟩
      have hr1 := hr.1
      cases b with
      | true =>
        obtain ⟨vs, e, hv⟩ := hr1
        exact ⟨vs, e, getRK_sound H hq l cs h1 hat.left hv⟩
      | false => exact getRK_sound H hq l cs h1 hat.left hr1
end

theorem noOwn_rowsK : ∀ (l : List RK) (x : RKs l) (n : Nat), l.any RK.own = false → (cellsRK l x n).2 = []
  | [], _, _, _ => rfl
  | .v t :: l, x, n, h => noOwn_rowsK l x.2 n (by simpa [RK.own] using h)
  | .o _ _ :: l, x, n, h => by simp [RK.own] at h

theorem noOwn_rows : ∀ (rs : List (Bool × List RK)) (x : Res rs) (n : Nat), resOwn rs = false → (cellsRes rs x n).2 = []
  | [], _, _, _ => rfl
  | (b, l) :: rs, x, n, h => by
    simp only [resOwn, List.any_cons, Bool.or_eq_false_iff] at h
    simp only [cellsRes]
    rw [noOwn_rowsK l x.1 n h.1, noOwn_rows rs x.2 _ h.2]
    rfl

theorem finish_sound {Δ : List (TE P)} {fn : Func} {rs : List (Bool × List RK)} {r : Res rs} (h : finish Δ rs fn.results.toList st = some r) (I : Inv w0 S0 st a w) :
    ∃ v, (results fn a.tmps).run P w = .ok v w ∧ ResR w0.heap.size S0 w rs r v := by
  obtain ⟨rho, I⟩ := I
  unfold finish at h
  obtain ⟨cs, h1, h'⟩ := Option.bind_eq_some_iff.1 h
  clear h
  obtain ⟨q, h2, h3⟩ := Option.bind_eq_some_iff.1 h'
  clear h'
  cases hd : distinct q.2 with
  | false => rw [hd] at h3; cases h3
  | true =>
  rw [hd] at h3
  simp only [cond_true, Option.some.injEq] at h3
  subst h3
  obtain ⟨us, hrun, hus⟩ := allRes_sound I h1
  have A := getRes_items rs cs h2 0
  generalize hG : (cellsRes rs q.1 0).2 = G at A
  let rho1 : Nat → Value := fun i => itemVal rho (q.2.getD i none)
  have hlen := A.len
  have hat : At G rho rho1 q.2 0 := fun i it hit => by
    refine ⟨by have := (List.getElem?_eq_some_iff.1 hit).1; omega, ?_⟩
    show itemVal rho (q.2.getD (0 + i) none) = _
    simp [List.getD_eq_getElem?_getD, hit]
  have hold : ∀ g, liveAt G g → ∀ b, blkOf (rho1 g) = some b → ∃ g0, q.2[g]? = some (some g0) ∧ rho1 g = rho g0 ∧ liveAt st.hp g0 := by
    intro g ⟨k, hk, hl⟩ b hb
    obtain ⟨it, hit, hr⟩ := A.get' g k hk
    have hr1 : rho1 g = itemVal rho it := by have := (hat g it hit).2; rwa [Nat.zero_add] at this
    cases it with
    | none => rw [hr1] at hb; simp [itemVal, blkOf] at hb
    | some g0 =>
      obtain ⟨hr, e', t, xs, rfl⟩ := hr
      exact ⟨g0, hit, hr1, _, hr, rfl⟩
  have hsub : ∀ hs b, ((!(resOwn rs)) = true ∨ hs = []) → SpOf w0.heap.size S0 st.hp rho w hs b → Sof w0.heap.size S0 G rho1 w b := by
    intro hs b hc hb
    rcases hc with hc | rfl
    · have : G = [] := by rw [← hG]; exact noOwn_rows rs q.1 0 (by simpa using hc)
      subst this
      refine ⟨?_, SpOf_lt I.heap b hb, fun g ⟨k, hk, _⟩ => by simp at hk⟩
      rcases hb with hb | ⟨g, _, h1, h2⟩
      · exact hb.1
      · exact .inr (own_lt_size I.heap h1 h2).1
    · rcases hb with hb | ⟨g, hm, _⟩
      · refine ⟨hb.1, hb.2.1, fun g hg e => ?_⟩
        obtain ⟨g0, _, hr, hl⟩ := hold g hg b e
        exact hb.2.2 g0 hl (hr ▸ e)
      · simp at hm
  have hH : HInv w0.heap.size S0 G rho1 w := by
    refine ⟨fun g k hk => ?_, fun g g' b hg hg' hb hb' => ?_⟩
    · obtain ⟨it, hit, hr⟩ := A.get' g k hk
      have hr1 : rho1 g = itemVal rho it := by have := (hat g it hit).2; rwa [Nat.zero_add] at this
      cases it with
      | none =>
        obtain ⟨e', t, rfl⟩ := hr
        exact ⟨[], ⟨by simp, .inl ⟨hr1, rfl⟩⟩, by simp [big], fun i hi => by simp at hi⟩
      | some g0 =>
        obtain ⟨hr, e', t, xs, rfl⟩ := hr
        obtain ⟨vs, ho, hl', hrep⟩ := I.heap.blk g0 _ hr
        refine ⟨vs, ?_, hl', fun i hi => Rep_mono (fun b hb => hsub [] b (.inr rfl) (.inl hb)) (fun _ _ => rfl) (hrep i hi)⟩
        rw [hr1]; exact ho
    · obtain ⟨g0, hi0, hr0, hl0⟩ := hold g hg b hb
      obtain ⟨g1, hi1, hr1, hl1⟩ := hold g' hg' b hb'
      have e := I.heap.dist g0 g1 b hl0 hl1 (hr0 ▸ hb) (hr1 ▸ hb')
      subst e
      exact distinct_inj hd g g' _ hi0 hi1
  have hall := getRes_sound (S1 := Sof w0.heap.size S0 G rho1 w) (hp1 := G) (rho1 := rho1) I.heap hsub rs cs h2 hat hus
  have hrr : (results fn a.tmps).run P w = .ok (if h : us.toArray.size = 1 then us.toArray[0] else .tuple us.toArray) w := by
    unfold results
    rw [show fn.results = fn.results.toList.toArray from Array.ext' rfl, List.mapM_toArray]
    simp only [Sem.run_bind, Sem.run_map]
    rw [hrun _ (fun _ => rfl) (fun _ _ => rfl)]
    simp
  refine ⟨_, hrr, rho1, ?_, ?_⟩
  · rw [hG]; exact hH
  · rw [hG]
    refine comp_avOf ?_
    have hl := hall.len
    match us, hall, hl with
    | [u], hall, hl =>
      refine .inl ?_
      match hc : (cellsRes rs q.1 0).1, hl with
      | [c], _ => rw [hc] at hall; exact ⟨c, rfl, hall.1⟩
    | [], hall, hl => exact .inr ⟨by rw [hl]; simp, [], rfl, hall⟩
    | u :: v :: us, hall, hl => exact .inr ⟨by rw [hl]; simp, u :: v :: us, by simp, hall⟩

/-! ### A function -/
theorem caps_in {w : World} {S : Nat → Prop} {hp : List Blk} {rho : Nat → Value} : ∀ {ks : List CK} {x : CKs ks} {us : List Value}, CapsR w S ks x us → All2 (CapR w S hp rho) (capsOfKs ks x) us
  | [], x, us, h => by simp only [CapsR] at h; subst h; trivial
  | .tp t :: ks, x, us, h => by
    obtain ⟨u, us', rfl, h1, h2⟩ := h
    refine ⟨⟨?_, h1⟩, caps_in h2⟩
    obtain ⟨a, d, e, _⟩ := h1
    subst e; rfl
  | .v t :: ks, x, us, h => by
    obtain ⟨u, us', rfl, h1, h2⟩ := h
    exact ⟨⟨Rep_one h1 u (by simp), h1⟩, caps_in h2⟩

theorem arg_in {S : Nat → Prop} {hp : List Blk} {rho : Nat → Value} {k : AK} {x : k.den} {v : Value} (h : ArgR w S k x v) : AVR w S hp rho (argAV k x) v := by
  cases k with
  | v t agg =>
    cases agg with
    | false =>
      have := expl_sound (hp := hp) (rho := rho) h
      simp only [argAV]
      split
      · rename_i c he; rw [he] at this; exact this.1
      · trivial
    | true =>
      obtain ⟨us, e, h⟩ := h
      exact ⟨us, e, expl_sound h⟩
  | tp t =>
    refine ⟨?_, h⟩
    obtain ⟨a, d, e, _⟩ := h
    subst e; rfl
  | f fid ks =>
    obtain ⟨us, e, h⟩ := h
    subst e
    exact ⟨rfl, us, rfl, caps_in h⟩

theorem args_in {S : Nat → Prop} {hp : List Blk} {rho : Nat → Value} : ∀ {ks : List AK} {x : AKs ks} {vs : List Value}, ArgsR w S ks x vs → All2 (AVR w S hp rho) (argAVs ks x) vs
  | [], x, vs, h => by simp only [ArgsR] at h; subst h; trivial
  | k :: ks, x, vs, h => by
    obtain ⟨u, us', rfl, h1, h2⟩ := h
    exact ⟨arg_in h1, args_in h2⟩

theorem argAVs_len : ∀ (ks : List AK) (x : AKs ks), (argAVs ks x).length = ks.length
  | [], _ => rfl
  | k :: ks, x => by simp [argAVs, argAVs_len ks]

/-- What the evaluator says of a function is what its calls do. -/
theorem fn_sound {Δ : List (TE P)} {Γ : List (Entry P)} {mrg : Nat → Bool} {L : List (Nat × LPat)} (hm : P.follows .mixedOrders = true) {f : FuncId} {F : Func} (hf : P.funcs[f]? = some F) {ks : List AK}
    {rs : List (Bool × List RK)} {k : Nat} {x : AKs ks} {r : Res rs} (h : runFn Δ Γ mrg L F ks rs k x = some r) : PureC P f ks x rs r := by
  unfold runFn at h
  split at h
  · rename_i c hb
    intro S w vs hS hargs
    have hin := args_in (hp := []) (rho := fun _ => Value.int .i64 0) hargs
    have hlen : vs.length = ks.length := by rw [← hin.len, argAVs_len]
    refine calls_of_wp hf hb (run_sound (w0 := w) (S0 := S) hm c (fun e st' a' w' hK hI => ?_) ?_ h)
    · have key : ∀ st' a' w', finish Δ rs F.results.toList st' = some r → Inv w S st' a' w' → a'.defers = [] ∧ ∃ v, (results F a'.tmps).run P w' = .ok v w' ∧
          (fun (e : Ending) (w' : World) => ∃ v, e = .returned v ∧ Below w.heap.size w w' ∧ ResR w.heap.size S w' rs r v) (.returned v) w' := by
        intro st' a' w' hK hI
        obtain ⟨v, h1, h2⟩ := finish_sound hK hI
        obtain ⟨rho, hI⟩ := hI
        exact ⟨hI.dfr, v, h1, v, rfl, hI.below, h2⟩
      cases e with
      | normal => exact key st' a' w' hK hI
      | exit i => cases hK
      | ret => exact key st' a' w' hK hI
    · have hmono : ∀ b, S b → Sof w.heap.size S [] (fun _ => Value.int .i64 0) w b := fun b hb => ⟨.inl hb, hS b hb, fun h ⟨k, hk, _⟩ => by simp at hk⟩
      refine ⟨fun _ => .int .i64 0, hS, Below.refl _ _, ⟨fun h k hk => by simp at hk, fun h h' b ⟨k, hk, _⟩ => by simp at hk⟩, fun i v hv => ?_, ?_, rfl⟩
      · have hin2 := hin.mono (fun _ _ h => AVR_chg (S' := Sof w.heap.size S [] (fun _ => Value.int .i64 0) w) (hp' := []) (ρ' := fun _ => Value.int .i64 0) (w' := w)
          ⟨hmono, fun _ _ => rfl, Nat.le_refl _, fun g k hg => by simp at hg⟩ h)
        by_cases hi : i < (argAVs ks x).length
        · rw [List.getElem?_append_left hi] at hv
          obtain ⟨u, hu, hr⟩ := hin2.get i v hv
          refine ⟨u, ?_, hr⟩
          rw [argAVs_len] at hi
          rw [Array.getElem?_append_left (by simp [hlen]; exact hi)]
          simpa using hu
        · rw [List.getElem?_append_right (by omega)] at hv
          rw [argAVs_len] at hv hi
          obtain ⟨h1, h2⟩ := List.getElem?_eq_some_iff.1 hv
          simp at h2
          subst h2
          simp at h1
          refine ⟨undef, ?_, trivial⟩
          rw [Array.getElem?_append_right (by simp [hlen]; omega)]
          simp [hlen, h1]
      · simp [argAVs_len, hlen]
  · cases h

/-- A function's entry. -/
def mkEntry {P : Program} (Δ : List (TE P)) (Γ : List (Entry P)) (mrg : Nat → Bool) (L : List (Nat × LPat)) (hm : P.follows .mixedOrders = true) (f : FuncId) (F : Func) (hf : P.funcs[f]? = some F)
    (hn : (F.name == "runtime.NumGoroutine") = false) (hb : F.body.isNone = false) (ks : List AK) (rs : List (Bool × List RK)) (fn : Nat → AKs ks → Option (Res rs))
    (h : ∀ k x, runFn Δ Γ mrg L F ks rs k x = fn k x) : Entry P where
  f := f
  ks := ks
  rs := rs
  fn := fn
  hf := ⟨F, hf, hn, hb⟩
  ok k x r hr := fn_sound hm hf ((h k x).trans hr)

end
end Go.Proofs.Ytdgnmbhnilidlaa.Ab
