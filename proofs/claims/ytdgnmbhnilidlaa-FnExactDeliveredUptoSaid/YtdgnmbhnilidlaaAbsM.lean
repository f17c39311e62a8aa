/- What is kept at a loop's head. -/
import Derived.Test.YtdgnmbhnilidlaaAbsL
set_option linter.unusedVariables false
set_option linter.unusedSimpArgs false
set_option linter.unusedSectionVars false
namespace Go.Proofs.Ytdgnmbhnilidlaa.Ab
open Go Go.RowKit

section
variable {P : Program} {R : Type}
variable {w0 : World} {S0 : Nat → Prop} {st : St} {rho : Nat → Value} {a : Act} {w : World} {B : Nat} {hp : List Blk}

def itemVal (rho : Nat → Value) : Option Nat → Value
  | some h => rho h
  | none => .slice none 0 0

def ItemR (hp : List Blk) : Option Nat → Blk → Prop
  | some h, k => hp[h]? = some k ∧ ∃ e t xs, k = .row e t xs
  | none, k => ∃ e t, k = .row e t []

/-- What is owned is a row as it was. -/
theorem cells_items {m : Nat} (ps : List CPat) (cs : List CV) : ∀ {q : CPats ps × List (Option Nat)}, getCells m hp ps cs = some q → ∀ n, All2 (ItemR hp) q.2 (putCells ps q.1 n).2 := by
  fun_induction getCells m hp ps cs
  all_goals intro q h n
  case case1 => simp only [Option.some.injEq] at h; subst h; trivial
  case case2 ih => exact ih h n
  case case3 ih => exact ih h n
  case case4 => cases h
  case case5 ih => exact ih h n
  case case6 => cases h
  case case7 ih =>
    obtain ⟨y, hy, h1⟩ := Option.bind_eq_some_iff.1 h
    obtain ⟨q', hq, h2⟩ := Option.bind_eq_some_iff.1 h1
    simp only [Option.some.injEq] at h2; subst h2
    exact ih hq n
  case case8 ih =>
    obtain ⟨q', hq, h2⟩ := Option.bind_eq_some_iff.1 h
    simp only [Option.some.injEq] at h2; subst h2
    exact ih hq n
  case case9 hrow hb ih =>
    have := Nat.eq_of_beq_eq_true hb
    subst this
    obtain ⟨y, hy, h1⟩ := Option.bind_eq_some_iff.1 h
    obtain ⟨q', hq, h2⟩ := Option.bind_eq_some_iff.1 h1
    simp only [Option.some.injEq] at h2; subst h2
    obtain ⟨e2, rfl⟩ := cast_some hy
    cases e2
    exact ⟨⟨hrow, _, _, _, rfl⟩, ih hq (n + 1)⟩
  case case10 => cases h
  case case11 => cases h
  case case12 ih =>
    obtain ⟨q', hq, h2⟩ := Option.bind_eq_some_iff.1 h
    simp only [Option.some.injEq] at h2; subst h2
    exact ⟨⟨_, _, rfl⟩, ih hq (n + 1)⟩
  case case13 ih =>
    obtain ⟨y, hy, h1⟩ := Option.bind_eq_some_iff.1 h
    obtain ⟨q', hq, h2⟩ := Option.bind_eq_some_iff.1 h1
    simp only [Option.some.injEq] at h2; subst h2
    exact ih hq n
  case case14 => cases h
  case case15 ih =>
    obtain ⟨y, hy, h1⟩ := Option.bind_eq_some_iff.1 h
    obtain ⟨q', hq, h2⟩ := Option.bind_eq_some_iff.1 h1
    simp only [Option.some.injEq] at h2; subst h2
    exact ih hq n
  case case16 => cases h
  case case17 => cases h

/-- From the state as it was to what is kept. -/
structure Tr (S S' : Nat → Prop) (hp hp' : List Blk) (rho rho' : Nat → Value) (m : Nat) : Prop where
  sub : ∀ b, S b → S' b
  le : m ≤ hp'.length
  box : ∀ h, h < m → ∀ cs', hp'[h]? = some (.box cs') → ∃ cs, hp[h]? = some (.box cs) ∧ rho' h = rho h

/-- The items lie from n on. -/
def At (hp' : List Blk) (rho rho' : Nat → Value) (its : List (Option Nat)) (n : Nat) : Prop :=
  ∀ (i : Nat) it, its[i]? = some it → n + i < hp'.length ∧ rho' (n + i) = itemVal rho it

theorem At.left {hp' : List Blk} {rho' : Nat → Value} {x y : List (Option Nat)} {n : Nat} (h : At hp' rho rho' (x ++ y) n) : At hp' rho rho' x n := fun i it hi =>
  h i it (by rw [List.getElem?_append_left ((List.getElem?_eq_some_iff.1 hi).1)]; exact hi)
theorem At.right {hp' : List Blk} {rho' : Nat → Value} {x y : List (Option Nat)} {n : Nat} (h : At hp' rho rho' (x ++ y) n) : At hp' rho rho' y (n + x.length) := fun i it hi => by
  have := h (x.length + i) it (by rw [List.getElem?_append_right (by omega), Nat.add_sub_cancel_left]; exact hi)
  rw [Nat.add_assoc]; exact this
theorem At.tail {hp' : List Blk} {rho' : Nat → Value} {x : Option Nat} {y : List (Option Nat)} {n : Nat} (h : At hp' rho rho' (x :: y) n) : At hp' rho rho' y (n + 1) := fun i it hi => by
  have := h (i + 1) it (by simpa using hi)
  rw [Nat.add_assoc, Nat.add_comm 1 i]; exact this

section
variable {S S' : Nat → Prop} {hp' : List Blk} {rho' : Nat → Value} {m : Nat}

theorem Rep_sub (T : Tr S S' hp hp' rho rho' m) {t : Ty} {x : t.den} {us : List Value} (h : Rep w S t x us) : Rep w S' t x us := Rep_mono T.sub (fun _ _ => rfl) h

theorem TP_sub (T : Tr S S' hp hp' rho rho' m) {t : Ty} {x : t.den} {j : Nat} {v : Value} (h : TP w S t x j v) : TP w S' t x j v := by
  obtain ⟨a, d, e, hs, hb, hr, hc⟩ := h
  exact ⟨a, d, e, hs, T.sub _ hb, Rep_sub T hr, hc⟩

theorem PtrR_tr (T : Tr S S' hp hp' rho rho' m) {h j : Nat} (hm : h < m) {v : Value} (k : PtrR hp rho h j v) : PtrR hp' rho' h j v := by
  refine ⟨Nat.lt_of_lt_of_le hm T.le, fun cs hcs => ?_⟩
  obtain ⟨cs0, h0, hr⟩ := T.box h hm cs hcs
  obtain ⟨b, h1, h2⟩ := k.2 cs0 h0
  exact ⟨b, hr.trans h1, h2⟩

theorem refs_tr (T : Tr S S' hp hp' rho rho' m) : ∀ {rs : List (Nat × Nat)} {caps : List Cap}, refsEq rs caps = true → (rs.all fun r => Nat.blt r.1 m) = true → ∀ {us : List Value}, All2 (CapR w S hp rho) caps us →
    All2 (CapR w S' hp' rho') (rs.map fun r => .ref r.1 r.2) us
  | [], [], _, _, [], _ => trivial
  | [], [], _, _, _ :: _, h => h.elim
  | _ :: _, _ :: _, _, _, [], h => h.elim
  | [], _ :: _, e, _, _, _ => by simp [refsEq] at e
  | _ :: _, [], e, _, _, _ => by simp [refsEq] at e
  | _ :: _, .tp _ _ _ :: _, e, _, _, _ => by simp [refsEq] at e
  | _ :: _, .val _ _ :: _, e, _, _, _ => by simp [refsEq] at e
  | (h, j) :: rs, .ref h' j' :: caps, e, hm, u :: us, hr => by
    simp only [refsEq, Bool.and_eq_true] at e
    simp only [List.all_cons, Bool.and_eq_true] at hm
    have e1 := Nat.eq_of_beq_eq_true e.1
    have e2 := Nat.eq_of_beq_eq_true e.2.1
    subst e1; subst e2
    exact ⟨⟨hr.1.1, PtrR_tr T (by have := hm.1; rw [Nat.blt_eq] at this; exact this) hr.1.2⟩, refs_tr T e.2.2 hm.2 hr.2⟩

theorem capsR_tr (T : Tr S S' hp hp' rho rho' m) {Sq : Nat → Prop} (hq : ∀ b, Sq b → S' b) : ∀ {ks : List CK} {x : CKs ks} {us : List Value}, (∀ u, u ∈ us → u.oneCell' = true) → CapsR w Sq ks x us →
    All2 (CapR w S' hp' rho') (capsOfKs ks x) us
  | [], x, us, _, h => by simp only [CapsR] at h; subst h; trivial
  | .tp t :: ks, x, us, ho, h => by
    obtain ⟨u, us', rfl, h1, h2⟩ := h
    refine ⟨⟨ho u (by simp), ?_⟩, capsR_tr T hq (fun v hv => ho v (by simp [hv])) h2⟩
    obtain ⟨a, d, e, hs, hb, hr, hc⟩ := h1
    exact ⟨a, d, e, hs, hq _ hb, Rep_mono hq (fun _ _ => rfl) hr, hc⟩
  | .v t :: ks, x, us, ho, h => by
    obtain ⟨u, us', rfl, h1, h2⟩ := h
    exact ⟨⟨ho u (by simp), Rep_mono hq (fun _ _ => rfl) h1⟩, capsR_tr T hq (fun v hv => ho v (by simp [hv])) h2⟩

theorem caps_one {caps : List Cap} {us : List Value} (h : All2 (CapR w S hp rho) caps us) : ∀ u, u ∈ us → u.oneCell' = true := by
  intro u hu
  obtain ⟨i, hi⟩ := List.getElem?_of_mem hu
  obtain ⟨c, _, hc⟩ := h.get' i u hi
  exact hc.1

theorem noref_owns : ∀ {caps : List Cap}, (caps.all fun c => match c with | .ref _ _ => false | _ => true) = true → ∀ q, q ∈ caps.flatMap (capOwns hp) → q ∈ ([] : List Nat)
  | [], _, q, hq => by simp at hq
  | .ref _ _ :: _, h, q, hq => by simp at h
  | .tp _ _ _ :: l, h, q, hq => noref_owns (caps := l) (by simpa using h) q (by simpa [capOwns] using hq)
  | .val _ _ :: l, h, q, hq => noref_owns (caps := l) (by simpa using h) q (by simpa [capOwns] using hq)

/-- The cells that are kept stand as they stood. -/
theorem cells_tr (H : HInv B S0 hp rho w) (hS : S = Sof B S0 hp rho w) (T : Tr S S' hp hp' rho rho' m) (ps : List CPat) (cs : List CV) : ∀ {q : CPats ps × List (Option Nat)}, getCells m hp ps cs = some q →
    ∀ {n : Nat} {us : List Value}, At hp' rho rho' q.2 n → All2 (CVR w S hp rho) cs us → All2 (CVR w S' hp' rho') (putCells ps q.1 n).1 us := by
  fun_induction getCells m hp ps cs
  all_goals intro q h n us hat hr
  case case1 => cases us with | nil => trivial | cons _ _ => exact hr.elim
  case case2 ih => cases us with | nil => exact hr.elim | cons u us => exact ⟨⟨hr.1.1, trivial⟩, ih h hat hr.2⟩
  case case3 hb ih =>
    cases us with
    | nil => exact hr.elim
    | cons u us =>
      simp only [Bool.and_eq_true] at hb
      have e1 := Nat.eq_of_beq_eq_true hb.1
      have e2 := Nat.eq_of_beq_eq_true hb.2.1
      subst e1; subst e2
      exact ⟨⟨hr.1.1, PtrR_tr T (by have := hb.2.2; rw [Nat.blt_eq] at this; exact this) hr.1.2⟩, ih h hat hr.2⟩
  case case4 => cases h
  case case5 hb ih =>
    cases us with
    | nil => exact hr.elim
    | cons u us =>
      simp only [Bool.and_eq_true] at hb
      have e1 := Nat.eq_of_beq_eq_true hb.1
      subst e1
      obtain ⟨vs, ev, hv⟩ := hr.1.2
      exact ⟨⟨hr.1.1, vs, ev, refs_tr T hb.2.1 hb.2.2 hv⟩, ih h hat hr.2⟩
  case case6 => cases h
  case case7 ih =>
    obtain ⟨y, hy, h1⟩ := Option.bind_eq_some_iff.1 h
    obtain ⟨q', hq, h2⟩ := Option.bind_eq_some_iff.1 h1
    simp only [Option.some.injEq] at h2; subst h2
    obtain ⟨e2, rfl⟩ := cast_some hy
    subst e2
    cases us with
    | nil => exact hr.elim
    | cons u us => exact ⟨⟨hr.1.1, Rep_sub T hr.1.2⟩, ih hq hat hr.2⟩
  case case8 ih =>
    obtain ⟨q', hq, h2⟩ := Option.bind_eq_some_iff.1 h
    simp only [Option.some.injEq] at h2; subst h2
    cases us with
    | nil => exact hr.elim
    | cons u us =>
      refine ⟨⟨hr.1.1, ?_⟩, ih hq hat hr.2⟩
      have e := hr.1.2
      simp only [CV0] at e
      subst e
      exact ⟨none, 0, rfl, by simp, by simp [big], fun hne => absurd rfl hne⟩
  case case9 h' cs E t xs hrow hb ih =>
    obtain ⟨y, hy, h1⟩ := Option.bind_eq_some_iff.1 h
    obtain ⟨q', hq, h2⟩ := Option.bind_eq_some_iff.1 h1
    simp only [Option.some.injEq] at h2; subst h2
    cases us with
    | nil => exact hr.elim
    | cons u us =>
      refine ⟨⟨hr.1.1, ?_⟩, ih hq hat.tail hr.2⟩
      have h0 := hat 0 _ rfl
      refine ⟨h0.1, fun e t' xs' _ => ?_⟩
      rw [show n = n + 0 from rfl, h0.2]
      exact hr.1.2.2 _ _ _ hrow
  case case10 => cases h
  case case11 => cases h
  case case12 ih =>
    obtain ⟨q', hq, h2⟩ := Option.bind_eq_some_iff.1 h
    simp only [Option.some.injEq] at h2; subst h2
    cases us with
    | nil => exact hr.elim
    | cons u us =>
      refine ⟨⟨hr.1.1, ?_⟩, ih hq hat.tail hr.2⟩
      have h0 := hat 0 _ rfl
      refine ⟨h0.1, fun e t' xs' _ => ?_⟩
      rw [show n = n + 0 from rfl, h0.2]
      exact hr.1.2
  case case13 hb ih =>
    obtain ⟨y, hy, h1⟩ := Option.bind_eq_some_iff.1 h
    obtain ⟨q', hq, h2⟩ := Option.bind_eq_some_iff.1 h1
    simp only [Option.some.injEq] at h2; subst h2
    obtain ⟨e2, rfl⟩ := cast_some hy
    subst e2
    have := Nat.eq_of_beq_eq_true hb
    subst this
    cases us with
    | nil => exact hr.elim
    | cons u us => exact ⟨⟨hr.1.1, TP_sub T hr.1.2⟩, ih hq hat hr.2⟩
  case case14 => cases h
  case case15 hb ih =>
    obtain ⟨y, hy, h1⟩ := Option.bind_eq_some_iff.1 h
    obtain ⟨q', hq, h2⟩ := Option.bind_eq_some_iff.1 h1
    simp only [Option.some.injEq] at h2; subst h2
    simp only [Bool.and_eq_true] at hb
    have e1 := Nat.eq_of_beq_eq_true hb.1
    subst e1
    cases us with
    | nil => exact hr.elim
    | cons u us =>
      obtain ⟨vs, ev, hv⟩ := hr.1.2
      subst hS
      refine ⟨⟨hr.1.1, vs, ev, ?_⟩, ih hq hat hr.2⟩
      have := getCaps_sound H (hs := []) hy hv (noref_owns hb.2)
      exact capsR_tr T (fun b hb => T.sub b (hb.elim id fun ⟨_, hm, _⟩ => absurd hm (by simp))) (caps_one hv) this
  case case16 => cases h
  case case17 => cases h
end

/-! ### The frame -/
theorem put_rows_len {m : Nat} {ps : List CPat} {cs : List CV} {q : CPats ps × List (Option Nat)} (h : getCells m hp ps cs = some q) (n : Nat) : (putCells ps q.1 n).2.length = q.2.length :=
  ((cells_items ps cs h n).len).symm

theorem All2_one {α β : Type} {Q : α → β → Prop} {x : α} {y : β} (h : Q x y) : All2 Q [x] [y] := ⟨h, trivial⟩

theorem putFr_len : ∀ (ps : List (Nat × Bool × List CPat)) (x : FrD ps) (n : Nat) (fr : List AV), (putFr ps x n fr).1.length = fr.length
  | [], _, _, _ => rfl
  | (t, b, ps) :: l, x, n, fr => by simp only [putFr]; rw [putFr_len l]; simp

theorem fr_items {m : Nat} (st : St) : ∀ (ps : List (Nat × Bool × List CPat)) {q : FrD ps × List (Option Nat)}, getFr m st ps = some q → ∀ n fr, All2 (ItemR st.hp) q.2 (putFr ps q.1 n fr).2
  | [], q, h, n, fr => by simp only [getFr, Option.some.injEq] at h; subst h; trivial
  | (t, b, ps) :: l, q, h, n, fr => by
    simp only [getFr] at h
    obtain ⟨q1, h1, h⟩ := Option.bind_eq_some_iff.1 h
    obtain ⟨q2, h2, h⟩ := Option.bind_eq_some_iff.1 h
    simp only [Option.some.injEq] at h; subst h
    simp only [putFr]
    refine All2.append ?_ (fr_items st l h2 _ _)
    split at h1
    · exact cells_items _ _ h1 n
    · exact cells_items _ _ h1 n
    · cases h1

theorem hp_items {m : Nat} (hp : List Blk) : ∀ (ps : List (Option (List CPat))) (bs : List Blk) {q : HpD ps × List (Option Nat)}, getHp m hp ps bs = some q → ∀ n, All2 (ItemR hp) q.2 (putHp ps q.1 n).2
  | [], _, q, h, n => by simp only [getHp, Option.some.injEq] at h; subst h; trivial
  | none :: l, b :: bs, q, h, n => by simp only [getHp] at h; exact hp_items hp l bs h n
  | none :: l, [], q, h, n => by simp [getHp] at h
  | some ps :: l, .box cs :: bs, q, h, n => by
    simp only [getHp] at h
    obtain ⟨q1, h1, h⟩ := Option.bind_eq_some_iff.1 h
    obtain ⟨q2, h2, h⟩ := Option.bind_eq_some_iff.1 h
    simp only [Option.some.injEq] at h; subst h
    simp only [putHp]
    exact All2.append (cells_items _ _ h1 n) (hp_items hp l bs h2 _)
  | some ps :: l, .row _ _ _ :: bs, q, h, n => by simp [getHp] at h
  | some ps :: l, .gone :: bs, q, h, n => by simp [getHp] at h
  | some ps :: l, [], q, h, n => by simp [getHp] at h

theorem putHp_len : ∀ (ps : List (Option (List CPat))) (x : HpD ps) (n : Nat), (putHp ps x n).1.length = ps.length
  | [], _, _ => rfl
  | none :: l, x, n => by simp [putHp, putHp_len l]
  | some ps :: l, x, n => by simp [putHp, putHp_len l]

/-- What is kept in place is a box, as it was. -/
theorem putHp_box {m : Nat} (hp : List Blk) : ∀ (ps : List (Option (List CPat))) (bs : List Blk) {q : HpD ps × List (Option Nat)}, getHp m hp ps bs = some q → ∀ (n h : Nat) k, (putHp ps q.1 n).1[h]? = some k → k.live = true →
    ∃ cs' cs, k = .box cs' ∧ bs[h]? = some (.box cs)
  | [], _, q, h, n, g, k, hk, hl => by simp [putHp] at hk
  | none :: l, b :: bs, q, h, n, g, k, hk, hl => by
    simp only [getHp] at h
    simp only [putHp] at hk
    cases g with
    | zero => simp at hk; subst hk; simp [Blk.live] at hl
    | succ g => simpa using putHp_box hp l bs h n g k (by simpa using hk) hl
  | none :: l, [], q, h, n, g, k, hk, hl => by simp [getHp] at h
  | some ps :: l, .box cs :: bs, q, h, n, g, k, hk, hl => by
    simp only [getHp] at h
    obtain ⟨q1, h1, h⟩ := Option.bind_eq_some_iff.1 h
    obtain ⟨q2, h2, h⟩ := Option.bind_eq_some_iff.1 h
    simp only [Option.some.injEq] at h; subst h
    simp only [putHp] at hk
    cases g with
    | zero => simp at hk; subst hk; exact ⟨_, cs, rfl, rfl⟩
    | succ g => simpa using putHp_box hp l bs h2 _ g k (by simpa using hk) hl
  | some ps :: l, .row _ _ _ :: bs, q, h, n, g, k, hk, hl => by simp [getHp] at h
  | some ps :: l, .gone :: bs, q, h, n, g, k, hk, hl => by simp [getHp] at h
  | some ps :: l, [], q, h, n, g, k, hk, hl => by simp [getHp] at h

section
variable {S S' : Nat → Prop} {hp' : List Blk} {rho' : Nat → Value} {m : Nat}

theorem putHp_cells (H : HInv B S0 hp rho w) (hS : S = Sof B S0 hp rho w) (T : Tr S S' hp hp' rho rho' m) : ∀ (ps : List (Option (List CPat))) (bs : List Blk) {q : HpD ps × List (Option Nat)}, getHp m hp ps bs = some q →
    ∀ (n h : Nat) cs', At hp' rho rho' q.2 n → (putHp ps q.1 n).1[h]? = some (.box cs') → ∃ cs, bs[h]? = some (.box cs) ∧ ∀ {us : List Value}, All2 (CVR w S hp rho) cs us → All2 (CVR w S' hp' rho') cs' us
  | [], _, q, h, n, g, k, hat, hk => by simp [putHp] at hk
  | none :: l, b :: bs, q, h, n, g, k, hat, hk => by
    simp only [getHp] at h
    simp only [putHp] at hk
    cases g with
    | zero => simp at hk
    | succ g => simpa using putHp_cells H hS T l bs h n g k hat (by simpa using hk)
  | none :: l, [], q, h, n, g, k, hat, hk => by simp [getHp] at h
  | some ps :: l, .box cs :: bs, q, h, n, g, k, hat, hk => by
    simp only [getHp] at h
    obtain ⟨q1, h1, h⟩ := Option.bind_eq_some_iff.1 h
    obtain ⟨q2, h2, h⟩ := Option.bind_eq_some_iff.1 h
    simp only [Option.some.injEq] at h; subst h
    simp only [putHp] at hk
    cases g with
    | zero =>
      simp at hk; subst hk
      exact ⟨cs, rfl, fun hr => cells_tr H hS T ps cs h1 hat.left hr⟩
    | succ g =>
      have hat2 := hat.right
      rw [← put_rows_len h1 n] at hat2
      simpa using putHp_cells H hS T l bs h2 _ g k hat2 (by simpa using hk)
  | some ps :: l, .row _ _ _ :: bs, q, h, n, g, k, hat, hk => by simp [getHp] at h
  | some ps :: l, .gone :: bs, q, h, n, g, k, hat, hk => by simp [getHp] at h
  | some ps :: l, [], q, h, n, g, k, hat, hk => by simp [getHp] at h

theorem AVR_comp {b : Bool} {cs : List CV} {v : Value} (hb : b = true ∨ True) (h : CompR w S hp rho (b, cs) v) : AVR w S hp rho (avOfComp (b, cs)) v := by
  cases b with
  | true => exact h
  | false =>
    match cs, h with
    | [c], h => exact h.1
    | [], h => exact h.elim
    | _ :: _ :: _, h => exact (h.2).elim

theorem get_agg {st : St} {d : Nat} {cs : List CV} (h : st.get d = .agg cs) : st.fr[d]? = some (.agg cs) := by
  unfold St.get at h
  rw [List.getD_eq_getElem?_getD] at h
  cases hq : st.fr[d]? with
  | none => rw [hq] at h; simp at h
  | some x => rw [hq] at h; simp at h; rw [h]

theorem putFr_tr {st : St} (H : HInv B S0 st.hp rho w) (hS : S = Sof B S0 st.hp rho w) (T : Tr S S' st.hp hp' rho rho' m) (tmps : Array Value) (htm : ∀ (i : Nat) v, st.fr[i]? = some v → ∃ u, tmps[i]? = some u ∧ AVR w S st.hp rho v u) :
    ∀ (ps : List (Nat × Bool × List CPat)) {q : FrD ps × List (Option Nat)}, getFr m st ps = some q → ∀ (n : Nat) (fr : List AV), At hp' rho rho' q.2 n →
    (∀ (i : Nat) v, fr[i]? = some v → ∃ u, tmps[i]? = some u ∧ AVR w S' hp' rho' v u) → ∀ (i : Nat) v, (putFr ps q.1 n fr).1[i]? = some v → ∃ u, tmps[i]? = some u ∧ AVR w S' hp' rho' v u
  | [], q, h, n, fr, hat, hfr, i, v, hv => hfr i v hv
  | (t, b, ps) :: l, q, h, n, fr, hat, hfr, i, v, hv => by
    simp only [getFr] at h
    obtain ⟨q1, h1, h'⟩ := Option.bind_eq_some_iff.1 h
    clear h
    obtain ⟨q2, h2, h''⟩ := Option.bind_eq_some_iff.1 h'
    clear h'
    simp only [Option.some.injEq] at h''; subst h''
    simp only [putFr] at hv
    have hat2 := hat.right
    have hlen : (putCells ps q1.1 n).2.length = q1.2.length := by
      split at h1
      · exact put_rows_len h1 n
      · exact put_rows_len h1 n
      · cases h1
    rw [← hlen] at hat2
    refine putFr_tr H hS T tmps htm l h2 _ _ hat2 ?_ i v hv
    intro i v hv
    rw [List.getElem?_set] at hv
    split at hv
    · rename_i e
      subst e
      split at hv
      · simp only [Option.some.injEq] at hv
        subst hv
        split at h1
        · rename_i c hget
          obtain ⟨u, hu, hr⟩ := htm t _ (get_some hget)
          refine ⟨u, hu, AVR_comp (.inr trivial) ?_⟩
          exact cells_tr H hS T ps [c] h1 hat.left (us := [u]) ⟨hr, trivial⟩
        · rename_i cs hget
          obtain ⟨u, hu, us, eu, hr⟩ := htm t _ (get_agg hget)
          refine ⟨u, hu, AVR_comp (.inr trivial) ?_⟩
          exact ⟨us, eu, cells_tr H hS T ps cs h1 hat.left hr⟩
        · cases h1
      · cases hv
    · exact hfr i v hv
end

theorem distinct_inj : ∀ {l : List (Option Nat)}, distinct l = true → ∀ (i j : Nat) h, l[i]? = some (some h) → l[j]? = some (some h) → i = j
  | [], _, i, j, h, hi, _ => by simp at hi
  | none :: l, hd, i, j, h, hi, hj => by
    simp only [distinct] at hd
    cases i with
    | zero => simp at hi
    | succ i =>
      cases j with
      | zero => simp at hj
      | succ j => rw [distinct_inj hd i j h (by simpa using hi) (by simpa using hj)]
  | some g :: l, hd, i, j, h, hi, hj => by
    simp only [distinct, Bool.and_eq_true, Bool.not_eq_true'] at hd
    have hm : ∀ k : Nat, l[k]? = some (some g) → False := fun k hk => by
      have : l.elem (some g) = true := List.elem_eq_true_of_mem (List.mem_of_getElem? hk)
      rw [this] at hd; cases hd.1
    cases i with
    | zero =>
      simp at hi; subst hi
      cases j with
      | zero => rfl
      | succ j => exact (hm j (by simpa using hj)).elim
    | succ i =>
      cases j with
      | zero => simp at hj; subst hj; exact (hm i (by simpa using hi)).elim
      | succ j => rw [distinct_inj hd.2 i j h (by simpa using hi) (by simpa using hj)]

theorem hp_len {m : Nat} (hp : List Blk) : ∀ (ps : List (Option (List CPat))) (bs : List Blk) {q : HpD ps × List (Option Nat)}, getHp m hp ps bs = some q → ps.length ≤ bs.length
  | [], _, q, h => Nat.zero_le _
  | none :: l, b :: bs, q, h => by simp only [getHp] at h; simpa using hp_len hp l bs h
  | none :: l, [], q, h => by simp [getHp] at h
  | some ps :: l, .box cs :: bs, q, h => by
    simp only [getHp] at h
    obtain ⟨q1, h1, h⟩ := Option.bind_eq_some_iff.1 h
    obtain ⟨q2, h2, h⟩ := Option.bind_eq_some_iff.1 h
    simpa using hp_len hp l bs h2
  | some ps :: l, .row _ _ _ :: bs, q, h => by simp [getHp] at h
  | some ps :: l, .gone :: bs, q, h => by simp [getHp] at h
  | some ps :: l, [], q, h => by simp [getHp] at h

/-- A state's part that is kept is a state of the same activation. -/
theorem unframe_sound (I : InvR w0 S0 st rho a w) {p : LPat} {s : p.den} (h : unframe p st = some s) : Inv w0 S0 (frame p s) a w := by
  unfold unframe at h
  cases hn : Nat.beq p.n st.fr.length with
  | false => rw [hn] at h; cases h
  | true =>
  rw [hn] at h
  have hn := Nat.eq_of_beq_eq_true hn
  simp only [cond] at h
  obtain ⟨q1, h1, h⟩ := Option.bind_eq_some_iff.1 h
  obtain ⟨q2, h2, h⟩ := Option.bind_eq_some_iff.1 h
  cases hd : distinct (q1.2 ++ q2.2) with
  | false => rw [hd] at h; cases h
  | true =>
  rw [hd] at h
  simp only [cond, Option.some.injEq] at h
  subst h
  -- the rows, the boxes
  have A1 := fr_items st p.fr h1 p.hp.length (List.replicate p.n .junk)
  have A2 := hp_items st.hp p.hp st.hp h2 (p.hp.length + (putFr p.fr q1.1 p.hp.length (List.replicate p.n .junk)).2.length)
  have hlb := putHp_len p.hp q2.1 (p.hp.length + (putFr p.fr q1.1 p.hp.length (List.replicate p.n .junk)).2.length)
  have hbox := putHp_box (m := p.hp.length) st.hp p.hp st.hp h2 (p.hp.length + (putFr p.fr q1.1 p.hp.length (List.replicate p.n .junk)).2.length)
  have hl1 : (putFr p.fr q1.1 p.hp.length (List.replicate p.n .junk)).2.length = q1.2.length := A1.len.symm
  have hfrd : frame p (q1.1, q2.1) = ⟨(putFr p.fr q1.1 p.hp.length (List.replicate p.n .junk)).1, (putHp p.hp q2.1 (p.hp.length + (putFr p.fr q1.1 p.hp.length (List.replicate p.n .junk)).2.length)).1 ++
    ((putFr p.fr q1.1 p.hp.length (List.replicate p.n .junk)).2 ++ (putHp p.hp q2.1 (p.hp.length + (putFr p.fr q1.1 p.hp.length (List.replicate p.n .junk)).2.length)).2)⟩ := rfl
  rw [hfrd]
  generalize hF : putFr p.fr q1.1 p.hp.length (List.replicate p.n .junk) = F at A1 A2 hlb hbox hl1
  generalize hG : putHp p.hp q2.1 (p.hp.length + F.2.length) = G at A2 hlb hbox
  have A := A1.append A2
  generalize hits : q1.2 ++ q2.2 = its at A hd
  have hlen2 : F.2.length + G.2.length = its.length := by have := A.len; simp at this; omega
  let rho' : Nat → Value := glue rho p.hp.length fun i => itemVal rho (its.getD i none)
  -- the blocks of the new state
  have hget : ∀ (g : Nat) k, (G.1 ++ (F.2 ++ G.2))[g]? = some k → k.live = true →
      (g < p.hp.length ∧ (∃ cs' cs, k = .box cs' ∧ st.hp[g]? = some (.box cs)) ∧ G.1[g]? = some k ∧ rho' g = rho g) ∨
      (∃ i it, g = p.hp.length + i ∧ its[i]? = some it ∧ ItemR st.hp it k ∧ rho' g = itemVal rho it) := by
    intro g k hk hl
    by_cases hg : g < G.1.length
    · rw [List.getElem?_append_left hg] at hk
      exact .inl ⟨hlb ▸ hg, hbox g k hk hl, hk, glue_old (hlb ▸ hg)⟩
    · rw [List.getElem?_append_right (by omega)] at hk
      obtain ⟨it, hit, hr⟩ := A.get' _ _ hk
      refine .inr ⟨g - G.1.length, it, by omega, hit, hr, ?_⟩
      have : g = p.hp.length + (g - G.1.length) := by omega
      show glue _ _ _ _ = _
      rw [this, glue_new]
      simp [List.getD_eq_getElem?_getD, hit]
  -- a live block's old handle
  have hold : ∀ g, liveAt (G.1 ++ (F.2 ++ G.2)) g → ∀ b, blkOf (rho' g) = some b → ∃ g0, liveAt st.hp g0 ∧ rho' g = rho g0 ∧
      ((g < p.hp.length ∧ g0 = g ∧ ∃ cs, st.hp[g0]? = some (.box cs)) ∨ ∃ i, g = p.hp.length + i ∧ its[i]? = some (some g0) ∧ ∃ e t xs, st.hp[g0]? = some (.row e t xs)) := by
    intro g ⟨k, hk, hl⟩ b hb
    rcases hget g k hk hl with ⟨hlt, ⟨cs', cs, rfl, hcs⟩, _, hr⟩ | ⟨i, it, e, hit, hi, hr⟩
    · exact ⟨g, ⟨_, hcs, rfl⟩, hr, .inl ⟨hlt, rfl, _, hcs⟩⟩
    · cases it with
      | none => rw [hr] at hb; simp [itemVal, blkOf] at hb
      | some g0 =>
        obtain ⟨hi, e', t, xs, rfl⟩ := hi
        exact ⟨g0, ⟨_, hi, rfl⟩, hr, .inr ⟨i, e, hit, _, _, _, hi⟩⟩
  have hsub : ∀ b, Sof w0.heap.size S0 st.hp rho w b → Sof w0.heap.size S0 (G.1 ++ (F.2 ++ G.2)) rho' w b := fun b hb =>
    ⟨hb.1, hb.2.1, fun g hg e => by
      obtain ⟨g0, hg0, hr, _⟩ := hold g hg b e
      exact hb.2.2 g0 hg0 (hr ▸ e)⟩
  have T : Tr (Sof w0.heap.size S0 st.hp rho w) (Sof w0.heap.size S0 (G.1 ++ (F.2 ++ G.2)) rho' w) st.hp (G.1 ++ (F.2 ++ G.2)) rho rho' p.hp.length :=
    ⟨hsub, by simp only [List.length_append]; omega, fun g hg cs' hc => by
      rcases hget g _ hc rfl with ⟨_, ⟨_, cs, _, hcs⟩, _, hr⟩ | ⟨i, it, e, hit, hi, hr⟩
      · exact ⟨cs, hcs, hr⟩
      · omega⟩
  have hat : At (G.1 ++ (F.2 ++ G.2)) rho rho' its p.hp.length := fun i it hit => by
    refine ⟨by have := (List.getElem?_eq_some_iff.1 hit).1; simp only [List.length_append]; omega, ?_⟩
    show glue _ _ _ _ = _
    rw [glue_new]
    simp [List.getD_eq_getElem?_getD, hit]
  have hat1 : At (G.1 ++ (F.2 ++ G.2)) rho rho' q1.2 p.hp.length := (hits ▸ hat).left
  have hat2 : At (G.1 ++ (F.2 ++ G.2)) rho rho' q2.2 (p.hp.length + F.2.length) := by rw [hl1]; exact (hits ▸ hat).right
  refine ⟨rho', I.s0, I.below, ⟨?_, ?_⟩, ?_, ?_, I.dfr⟩
  · intro g k hk
    cases hl : k.live with
    | false => cases k <;> simp [Blk.live] at hl; trivial
    | true =>
      rcases hget g k hk hl with ⟨hlt, ⟨cs', cs0, rfl, hcs0⟩, hG1, hr⟩ | ⟨i, it, e, hit, hi, hr⟩
      · obtain ⟨cs, hcs, hcell⟩ := putHp_cells I.heap rfl T p.hp st.hp h2 (p.hp.length + F.2.length) g cs' hat2 (by rw [hG]; exact hG1)
        obtain ⟨b, us, U, e, hB, hh, ha⟩ := I.heap.blk g _ hcs
        exact ⟨b, us, U, hr.trans e, hB, hh, hcell ha⟩
      · cases it with
        | none =>
          obtain ⟨e', t, rfl⟩ := hi
          exact ⟨[], ⟨by simp, .inl ⟨hr, rfl⟩⟩, by simp [big], fun i hi => by simp at hi⟩
        | some g0 =>
          obtain ⟨hi, e', t, xs, rfl⟩ := hi
          obtain ⟨us, ho, hl', hrep⟩ := I.heap.blk g0 _ hi
          refine ⟨us, ?_, hl', fun i hi => Rep_sub T (hrep i hi)⟩
          rw [hr]; exact ho
  · intro g g' b hg hg' hb hb'
    obtain ⟨g0, hl0, hr0, h0⟩ := hold g hg b hb
    obtain ⟨g1, hl1, hr1, h1⟩ := hold g' hg' b hb'
    have e := I.heap.dist g0 g1 b hl0 hl1 (hr0 ▸ hb) (hr1 ▸ hb')
    subst e
    rcases h0 with ⟨_, e0, cs, hc⟩ | ⟨i, ei, hi, _, _, _, hrow⟩
    · rcases h1 with ⟨_, e1, _⟩ | ⟨i, ei, hi, _, _, _, hrow⟩
      · exact e0.symm.trans e1
      · rw [hc] at hrow; cases hrow
    · rcases h1 with ⟨_, e1, cs, hc⟩ | ⟨j, ej, hj, _, _, _, hrow'⟩
      · rw [hc] at hrow; cases hrow
      · rw [ei, ej, distinct_inj hd i j _ hi hj]
  · intro i v hv
    have := putFr_tr I.heap rfl T a.tmps I.fr p.fr h1 p.hp.length (List.replicate p.n .junk) hat1 ?_ i v (by rw [hF]; exact hv)
    · exact this
    · intro i v hv
      obtain ⟨hi, hv⟩ := List.getElem?_eq_some_iff.1 hv
      simp at hv
      subst hv
      have : i < a.tmps.size := by rw [I.len, ← hn]; simpa using hi
      exact ⟨a.tmps[i], by simp [this], trivial⟩
  · rw [I.len, ← hn, ← hF, putFr_len]; simp

end
end Go.Proofs.Ytdgnmbhnilidlaa.Ab
