/- Plain laws: packets out of flits, packets sent. -/
import Derived.Test.YtdgnmbhnilidlaaPL4
set_option linter.unusedVariables false
set_option linter.unusedSimpArgs false
namespace Go.Proofs.Ytdgnmbhnilidlaa
open Go Go.Proofs.Ytdgnmbhnilidlaa.Ab

theorem z0 : decide ((0 : Nat) ≤ 0) = true := rfl
theorem z0i : decide ((0 : Int) ≤ 0) = true := rfl
theorem PacketOk_same : g_spec_PacketOk.m = g_impl_PacketOk.m := rfl
theorem ClassOnly1_impl : g_impl_ClassOnly_1.m = g_impl_ClassOnly.m := rfl

section
variable {K : Nat} {g : Int × Int}

theorem ClassOnly1_spec {l : List FL} (c : Int) (hK : l.length < K) (hN : l.length ≤ 1048576) : g_spec_ClassOnly_1.m K l c = some ((ofClass c l, ()), ()) := by
  unfold g_spec_ClassOnly_1.m
  have key : ∀ j i, i ≤ l.length → l.length - i < j → g_spec_ClassOnly_1.L0 K j l c (ofClass c (l.take i)) (i : Nat) = some ((ofClass c l, ()), ()) := by
    intro j
    induction j with
    | zero => intro i _ hj; omega
    | succ j ih =>
      intro i hi hj
      rw [g_spec_ClassOnly_1.L0_s]
      unfold g_spec_ClassOnly_1.F0
      by_cases hin : i < l.length
      · have hs : ofClass c (l.take (i + 1)) = ofClass c (l.take i) ++ ofClass c [l.getD i f0] := by
          rw [take_step (d := f0) hin]; simp [ofClass]
        have hlen : (ofClass c (l.take i)).length ≤ i := by
          refine Nat.le_trans (List.length_filter_le _ _) ?_
          rw [List.length_take]; omega
        have e9 : Nat.ble (((ofClass c (l.take i)).length + 1) * 32) 140737488355328 = true := by rw [Nat.ble_eq]; omega
        simp only [ix_lt hin, ix_0, Bool.true_and, cond_true, Int.toNat_natCast, ix_next (show i < 4611686018427387904 by omega), e9]
        have := ih (i + 1) hin (by omega)
        rw [hs] at this
        by_cases h : (l.getD i f0).2.2.1 = c
        · have e1 : ((l.getD i f0).2.2.1 == c) = true := by simpa using h
          simp only [e1, cond_true]
          rw [show ofClass c [l.getD i f0] = [l.getD i f0] by simp only [ofClass, List.filter_cons, e1, List.filter_nil, if_true]] at this
          exact this
        · have e1 : ((l.getD i f0).2.2.1 == c) = false := by simpa using h
          simp only [e1, cond_false]
          rw [show ofClass c [l.getD i f0] = [] by simp only [ofClass, List.filter_cons, e1, List.filter_nil, Bool.false_eq_true, if_false], List.append_nil] at this
          exact this
      · have : i = l.length := by omega
        subst this
        simp only [ix_ge, cond_false, List.take_length]
  exact key K 0 (Nat.zero_le _) (by omega)

/-! ### Whole packets -/
def wb (l : List FL) (t : Nat) : Bool :=
  ((l.getD t f0).1 == (l.getD 0 f0).1) && (((l.getD t f0).2.1 == (l.getD 0 f0).2.1) && (((l.getD t f0).2.2.1 == (l.getD 0 f0).2.2.1) && (((l.getD t f0).2.2.2.1 == ((t : Int) == 0)) && ((l.getD t f0).2.2.2.2 == ((t : Int) == (l.length : Int) - 1)))))

def whole (l : List FL) : Prop := (∀ t, 0 ≤ t → t < l.length → wb l t = true) ∧ 0 < l.length

theorem w_last {α : Type} {l : List α} (h : 0 < l.length) (hN : l.length ≤ 1048576) : w64 ((l.length : Int) - 1) = (l.length : Int) - 1 := w64_of (by omega) (by omega)

theorem IsWhole_spec {l : List FL} (hK : l.length < K) (hN : l.length ≤ 1048576) : Ans (g_spec_IsWhole.m K l) (whole l) := by
  unfold g_spec_IsWhole.m whole
  rcases loop_all (L := fun j i => g_spec_IsWhole.L0 K j l i) (n := l.length) (Q := fun t => wb l t = true) (stop := rb false) (fin := rb (decide ((l.length : Int) > 0))) (fun j i hi => by
      rw [g_spec_IsWhole.L0_s]
      unfold g_spec_IsWhole.F0 wb
      have h0 : 0 < l.length := by omega
      have e0 : decide ((0 : Int) < (l.length : Int)) = true := decide_eq_true (by omega)
      simp only [ix_lt hi, ix_0, Bool.true_and, cond_true, Int.toNat_natCast, z0, z0i, e0, w_last h0 hN, ix_next (show i < 4611686018427387904 by omega)]
      generalize ((l.getD i f0).2.2.2.1 == ((i : Int) == 0)) = x4
      generalize ((l.getD i f0).2.2.2.2 == ((i : Int) == (l.length : Int) - 1)) = x5
      simp only [bne]
      generalize ((l.getD i f0).1 == (l.getD 0 f0).1) = x1
      generalize ((l.getD i f0).2.1 == (l.getD 0 f0).2.1) = x2
      generalize ((l.getD i f0).2.2.1 == (l.getD 0 f0).2.2.1) = x3
      cases x1 <;> cases x2 <;> cases x3 <;> cases x4 <;> cases x5 <;> simp) (fun j => by
      rw [g_spec_IsWhole.L0_s]
      unfold g_spec_IsWhole.F0
      simp only [ix_ge, cond_false]) K 0 (Nat.zero_le _) (by omega) with ⟨h1, h2⟩ | ⟨h1, h2⟩
  · exact ⟨_, h2, by simp only [decide_eq_true_eq]; exact ⟨fun h => ⟨h1, by omega⟩, fun h => by have := h.2; omega⟩⟩
  · exact ⟨false, h2, by simp only [Bool.false_eq_true, false_iff]; exact fun h => h1 h.1⟩

theorem IsWhole_impl {l : List FL} (hK : l.length < K) (hN : l.length ≤ 1048576) : Ans (g_impl_IsWhole.m K l) (whole l) := by
  unfold g_impl_IsWhole.m whole
  rcases loop_all (L := fun j i => g_impl_IsWhole.L0 K j l l l.length i) (n := l.length) (Q := fun t => wb l t = true) (stop := rb false) (fin := rb (decide ((l.length : Int) > 0))) (fun j i hi => by
      rw [g_impl_IsWhole.L0_s]
      unfold g_impl_IsWhole.F0 wb
      have h0 : 0 < l.length := by omega
      have e0 : decide ((0 : Int) < (l.length : Int)) = true := decide_eq_true (by omega)
      simp only [ix_lt hi, ix_0, Bool.true_and, cond_true, Int.toNat_natCast, z0, z0i, e0, w_last h0 hN, ix_next (show i < 4611686018427387904 by omega)]
      generalize ((l.getD i f0).2.2.2.1 == ((i : Int) == 0)) = x4
      generalize ((l.getD i f0).2.2.2.2 == ((i : Int) == (l.length : Int) - 1)) = x5
      generalize ((l.getD i f0).1 == (l.getD 0 f0).1) = x1
      generalize ((l.getD i f0).2.1 == (l.getD 0 f0).2.1) = x2
      generalize ((l.getD i f0).2.2.1 == (l.getD 0 f0).2.2.1) = x3
      cases x1 <;> cases x2 <;> cases x3 <;> cases x4 <;> cases x5 <;> simp) (fun j => by
      rw [g_impl_IsWhole.L0_s]
      unfold g_impl_IsWhole.F0
      simp only [ix_ge, cond_false]) K 0 (Nat.zero_le _) (by omega) with ⟨h1, h2⟩ | ⟨h1, h2⟩
  · exact ⟨_, h2, by simp only [decide_eq_true_eq]; exact ⟨fun h => ⟨h1, by omega⟩, fun h => by have := h.2; omega⟩⟩
  · exact ⟨false, h2, by simp only [Bool.false_eq_true, false_iff]; exact fun h => h1 h.1⟩

theorem WholePackets_both {l : List FL} (hK : 1048576 < K) (hN : l.length ≤ 1048576) : ∃ r, g_spec_WholePackets.m K l = some r ∧ g_impl_WholePackets.m K l = some r ∧ r.1.1.length ≤ l.length := by
  unfold g_spec_WholePackets.m g_impl_WholePackets.m
  have key : ∀ d j j' i b (out : List Int), i + d = l.length → d + 1 ≤ j → d + 1 ≤ j' → b ≤ i → out.length ≤ i →
      ∃ r, g_spec_WholePackets.L0 K j l out (b : Nat) (i : Nat) = some r ∧ g_impl_WholePackets.L0 K j' l out (b : Nat) ((i + 1 : Nat) : Int) = some r ∧ r.1.1.length ≤ l.length := by
    intro d
    induction d with
    | zero =>
      intro j j' i b out hd hj hj' hb ho
      obtain ⟨j, rfl⟩ : ∃ x, j = x + 1 := ⟨j - 1, by omega⟩
      obtain ⟨j', rfl⟩ : ∃ x, j' = x + 1 := ⟨j' - 1, by omega⟩
      have : i = l.length := by omega
      subst this
      rw [g_spec_WholePackets.L0_s, g_impl_WholePackets.L0_s]
      unfold g_spec_WholePackets.F0 g_impl_WholePackets.F0
      have e1 : decide (((l.length + 1 : Nat) : Int) ≤ (l.length : Int)) = false := decide_eq_false (by omega)
      simp only [ix_ge, e1, cond_false]
      cases decide ((b : Int) < (l.length : Int))
      · exact ⟨_, rfl, rfl, ho⟩
      · exact ⟨_, rfl, rfl, Nat.zero_le _⟩
    | succ d ih =>
      intro j j' i b out hd hj hj' hb ho
      obtain ⟨j, rfl⟩ : ∃ x, j = x + 1 := ⟨j - 1, by omega⟩
      obtain ⟨j', rfl⟩ : ∃ x, j' = x + 1 := ⟨j' - 1, by omega⟩
      have hi : i < l.length := by omega
      rw [g_spec_WholePackets.L0_s, g_impl_WholePackets.L0_s]
      unfold g_spec_WholePackets.F0 g_impl_WholePackets.F0
      have e1 : decide (((i + 1 : Nat) : Int) ≤ (l.length : Int)) = true := decide_eq_true (by omega)
      have e2 : decide ((b : Int) ≤ ((i + 1 : Nat) : Int)) = true := decide_eq_true (by omega)
      have hbl : b < l.length := by omega
      have e3 : w64 (((i + 1 : Nat) : Int) + 1) = ((i + 1 + 1 : Nat) : Int) := ix_next (by omega)
      have e9 : Nat.ble ((out.length + 1) * 8) 140737488355328 = true := by rw [Nat.ble_eq]; omega
      have hsl : (List.drop b (List.take (i + 1) l)).length ≤ 1048576 := by simp; omega
      simp only [ix_lt hi, ix_lt hbl, ix_0, Bool.true_and, cond_true, Int.toNat_natCast, ix_next (show i < 4611686018427387904 by omega), e1, e2, e3, e9]
      rcases (IsWhole_spec (K := K) (l := List.drop b (List.take (i + 1) l)) (by omega) hsl).cases with ⟨h1, e4⟩ | ⟨h1, e4⟩
      · rcases (IsWhole_impl (K := K) (l := List.drop b (List.take (i + 1) l)) (by omega) hsl).cases with ⟨h2, e5⟩ | ⟨h2, e5⟩
        · have hid : (l.getD i f0).1 = (l.getD b f0).1 := by
            have := h1.1 (i - b) (Nat.zero_le _) (by simp; omega)
            unfold wb at this
            simp only [Bool.and_eq_true, beq_iff_eq] at this
            have h3 := this.1
            simp only [List.getD_eq_getElem?_getD, List.getElem?_drop, List.getElem?_take] at h3 ⊢
            rw [show b + (i - b) = i by omega, if_pos (by omega), if_pos (by omega), Nat.add_zero] at h3
            exact h3
          simp only [e4, e5, rb, Option.bind_some, cond_true, hid]
          exact ih j j' (i + 1) (i + 1) _ (by omega) (by omega) (by omega) (Nat.le_refl _) (by simp; omega)
        · exact absurd h1 h2
      · rcases (IsWhole_impl (K := K) (l := List.drop b (List.take (i + 1) l)) (by omega) hsl).cases with ⟨h2, e5⟩ | ⟨h2, e5⟩
        · exact absurd h2 h1
        · simp only [e4, e5, rb, Option.bind_some, cond_false]
          exact ih j j' (i + 1) b out (by omega) (by omega) (by omega) (by omega) (by omega)
  exact key l.length K K 0 0 [] (by omega) (by omega) (by omega) (Nat.le_refl _) (by simp)

/-- What has arrived at a node, of a class. -/
theorem arrived_both {m : (Int × Int) × List Int} {tu : (List Int) × List Int} {q5 : List (List FL)} {q6 q7 : List Int} {q8 q9 : List (List FL)} {steps : Int} (hK : 1048576 < K) {a : Nat} (ha : a < q9.length) (c : Int) (hN : (q9.getD a []).length ≤ 1048576) :
    ∃ r, g_spec_l22At.m K (m, tu, q5, q6, q7, q8, q9, steps) a c = some r ∧ g_impl_Net_arrived.m K (m, tu, q5, q6, q7, q8, q9, steps) a c = some r ∧ r.1.1.length ≤ 1048576 := by
  unfold g_spec_l22At.m g_impl_Net_arrived.m
  simp only [ix_lt ha, ix_0, Bool.true_and, cond_true, Int.toNat_natCast, ClassOnly1_impl, ClassOnly_eq (K := K) (l := q9.getD a []) c (by omega) hN, ClassOnly1_spec (K := K) (l := q9.getD a []) c (by omega) hN, Option.bind_some]
  have hl : (ofClass c (q9.getD a [])).length ≤ 1048576 := Nat.le_trans (List.length_filter_le _ _) hN
  generalize ofClass c (q9.getD a []) = l at hl
  have key : ∀ j (l : List FL), l.length < j → l.length ≤ 1048576 → ∃ r, g_spec_l22At.L0 K j l = some r ∧ g_impl_Net_arrived.L0 K j l = some r ∧ r.1.1.length ≤ 1048576 := by
    intro j
    induction j with
    | zero => intro l h; omega
    | succ j ih =>
      intro l hj hN
      rw [g_spec_l22At.L0_s, g_impl_Net_arrived.L0_s]
      unfold g_spec_l22At.F0 g_impl_Net_arrived.F0
      obtain ⟨r, hr1, hr2, hr3⟩ := WholePackets_both (K := K) (l := l) hK hN
      by_cases h0 : 0 < l.length
      · have e1 : decide ((l.length : Int) > 0) = true := decide_eq_true (by omega)
        have e2 : w64 ((l.length : Int) - 1) = ((l.length - 1 : Nat) : Int) := by rw [w_last h0 hN]; omega
        have e3 : decide (((l.length - 1 : Nat) : Int) < (l.length : Int)) = true := decide_eq_true (by omega)
        have e4 : decide (((l.length - 1 : Nat) : Int) ≤ (l.length : Int)) = true := decide_eq_true (by omega)
        have e5 : decide ((0 : Int) ≤ 0) = true := by decide
        simp only [e1, e2, e3, e4, e5, z0, z0i, ix_0, Bool.and_self, cond_true, Int.toNat_natCast, Option.bind_some]
        cases (l.getD (l.length - 1) f0).2.2.2.2
        · simp only [Bool.not_false, cond_true]
          exact ih _ (by simp; omega) (by simp; omega)
        · simp only [Bool.not_true, cond_false, hr1, hr2, Option.bind_some]
          exact ⟨_, rfl, rfl, Nat.le_trans hr3 hN⟩
      · have e1 : decide ((l.length : Int) > 0) = false := decide_eq_false (by omega)
        simp only [e1, cond_false, Option.bind_some, hr1, hr2]
        exact ⟨_, rfl, rfl, Nat.le_trans hr3 hN⟩
  exact key K l (by omega) hl
end

/-! ### Packets sent -/
abbrev PK := Int × Int × Int × Int × Int
abbrev p0 : PK := (0, 0, 0, 0, 0)

def fits (from_ to_ c : Int) (p : PK) : Bool := (p.2.1 == from_) && ((p.2.2.1 == to_) && (p.2.2.2.1 == c))
def sentB (list : List PK) (from_ to_ c : Int) (id_ : Int) : Bool := list.any fun p => (p.1 == id_) && fits from_ to_ c p

section
variable {K : Nat} {list : List PK} {from_ to_ c : Int}

theorem any_drop {α : Type} {l : List α} {d : α} {i : Nat} (h : i < l.length) (q : α → Bool) : (l.drop i).any q = (q (l.getD i d) || (l.drop (i + 1)).any q) := by
  rw [List.drop_eq_getElem_cons h, List.any_cons, List.getD_eq_getElem?_getD, List.getElem?_eq_getElem h]
  rfl

theorem isSent_eq (hK : list.length < K) (hN : list.length ≤ 1048576) (id_ : Int) : g_impl_isSent.m K list id_ from_ to_ c = rb (sentB list from_ to_ c id_) := by
  unfold g_impl_isSent.m
  have key : ∀ j i, i ≤ list.length → list.length - i < j → g_impl_isSent.L0 K j id_ from_ to_ c list list.length (i : Nat) = rb ((list.drop i).any fun p => (p.1 == id_) && fits from_ to_ c p) := by
    intro j
    induction j with
    | zero => intro i _ hj; omega
    | succ j ih =>
      intro i hi hj
      rw [g_impl_isSent.L0_s]
      unfold g_impl_isSent.F0
      by_cases hin : i < list.length
      · simp only [ix_lt hin, ix_0, Bool.true_and, cond_true, Int.toNat_natCast, ix_next (show i < 4611686018427387904 by omega), any_drop (d := p0) hin, ih (i + 1) hin (by omega), fits]
        generalize ((list.getD i p0).1 == id_) = x1
        generalize ((list.getD i p0).2.1 == from_) = x2
        generalize ((list.getD i p0).2.2.1 == to_) = x3
        generalize ((list.getD i p0).2.2.2.1 == c) = x4
        cases x1 <;> cases x2 <;> cases x3 <;> cases x4 <;> simp
      · have : i = list.length := by omega
        subst this
        simp only [ix_ge, cond_false, List.drop_length, List.any_nil]
  exact key K 0 (Nat.zero_le _) (by omega)

theorem sentAmong_eq (ids : List Int) (hK : 1048576 < K) (hN : list.length ≤ 1048576) (hI : ids.length ≤ 1048576) : g_impl_sentAmong.m K ids list from_ to_ c = some ((ids.filter (sentB list from_ to_ c), ()), ()) := by
  unfold g_impl_sentAmong.m
  have key : ∀ j i, i ≤ ids.length → ids.length - i < j → g_impl_sentAmong.L0 K j list from_ to_ c ((ids.take i).filter (sentB list from_ to_ c)) ids ids.length (i : Nat) = some ((ids.filter (sentB list from_ to_ c), ()), ()) := by
    intro j
    induction j with
    | zero => intro i _ hj; omega
    | succ j ih =>
      intro i hi hj
      rw [g_impl_sentAmong.L0_s]
      unfold g_impl_sentAmong.F0
      by_cases hin : i < ids.length
      · have hlen : ((ids.take i).filter (sentB list from_ to_ c)).length ≤ i := by
          refine Nat.le_trans (List.length_filter_le _ _) ?_
          rw [List.length_take]; omega
        have e9 : Nat.ble ((((ids.take i).filter (sentB list from_ to_ c)).length + 1) * 8) 140737488355328 = true := by rw [Nat.ble_eq]; omega
        have := ih (i + 1) hin (by omega)
        rw [take_step (d := 0) hin, List.filter_append] at this
        simp only [ix_lt hin, ix_0, Bool.true_and, cond_true, Int.toNat_natCast, ix_next (show i < 4611686018427387904 by omega), e9, isSent_eq (K := K) (by omega) hN, rb, Option.bind_some]
        cases hs : sentB list from_ to_ c (ids.getD i 0)
        · simp only [cond_false]
          simp only [List.filter_cons, hs, List.filter_nil, Bool.false_eq_true, if_false, List.append_nil] at this
          exact this
        · simp only [cond_true]
          simp only [List.filter_cons, hs, List.filter_nil, if_true] at this
          exact this
      · have : i = ids.length := by omega
        subst this
        simp only [ix_ge, cond_false, List.take_length]
  exact key K 0 (Nat.zero_le _) (by omega)

theorem l22From_eq (ids : List Int) (hK : 1048576 < K) (hN : list.length ≤ 1048576) (hI : ids.length ≤ 1048576) : g_spec_l22From.m K ids list from_ to_ c = some ((ids.filter (sentB list from_ to_ c), ()), ()) := by
  unfold g_spec_l22From.m
  have inner : ∀ (rec0 : List Int → List PK → Int → Int → Int → List Int → Int → Option (((List Int) × Unit) × Unit)) (out : List Int) (i : Nat), i < ids.length → out.length ≤ i → ∀ j x, x ≤ list.length → list.length - x < j →
      g_spec_l22From.L1 K rec0 j ids list from_ to_ c out i (x : Nat) = rec0 ids list from_ to_ c (out ++ (bif ((list.drop x).any fun p => (p.1 == ids.getD i 0) && fits from_ to_ c p) then [ids.getD i 0] else [])) ((i + 1 : Nat) : Int) := by
    intro rec0 out i hi ho j
    induction j with
    | zero => intro x _ hj; omega
    | succ j ih =>
      intro x hx hj
      rw [g_spec_l22From.L1_s]
      unfold g_spec_l22From.F1
      by_cases hin : x < list.length
      · have e9 : Nat.ble ((out.length + 1) * 8) 140737488355328 = true := by rw [Nat.ble_eq]; omega
        simp only [ix_lt hin, ix_lt hi, ix_0, Bool.true_and, cond_true, Int.toNat_natCast, ix_next (show x < 4611686018427387904 by omega), ix_next (show i < 4611686018427387904 by omega), e9, any_drop (d := p0) hin, ih (x + 1) hin (by omega), fits]
        generalize ((list.getD x p0).1 == ids.getD i 0) = x1
        generalize ((list.getD x p0).2.1 == from_) = x2
        generalize ((list.getD x p0).2.2.1 == to_) = x3
        generalize ((list.getD x p0).2.2.2.1 == c) = x4
        cases x1 <;> cases x2 <;> cases x3 <;> cases x4 <;> simp
      · have : x = list.length := by omega
        subst this
        simp only [ix_ge, cond_false, List.drop_length, List.any_nil, List.append_nil, ix_next (show i < 4611686018427387904 by omega)]
  have key : ∀ j i, i ≤ ids.length → ids.length - i < j → g_spec_l22From.L0 K j ids list from_ to_ c ((ids.take i).filter (sentB list from_ to_ c)) (i : Nat) = some ((ids.filter (sentB list from_ to_ c), ()), ()) := by
    intro j
    induction j with
    | zero => intro i _ hj; omega
    | succ j ih =>
      intro i hi hj
      rw [g_spec_l22From.L0_s]
      unfold g_spec_l22From.F0
      by_cases hin : i < ids.length
      · have hlen : ((ids.take i).filter (sentB list from_ to_ c)).length ≤ i := by
          refine Nat.le_trans (List.length_filter_le _ _) ?_
          rw [List.length_take]; omega
        have := ih (i + 1) hin (by omega)
        rw [take_step (d := 0) hin, List.filter_append] at this
        simp only [ix_lt hin, cond_true]
        have h1 := inner (g_spec_l22From.L0 K j) ((ids.take i).filter (sentB list from_ to_ c)) i hin hlen K 0 (Nat.zero_le _) (by omega)
        rw [show ((0 : Nat) : Int) = 0 from rfl] at h1
        rw [h1]
        rw [← this]
        congr 1
      · have : i = ids.length := by omega
        subst this
        simp only [ix_ge, cond_false, List.take_length]
  exact key K 0 (Nat.zero_le _) (by omega)

theorem SentFrom_eq (hK : 1048576 < K) (hN : list.length ≤ 1048576) : g_impl_SentFrom.m K list from_ to_ c = some (((list.filter (fits from_ to_ c)).map (·.1), ()), ()) := by
  unfold g_impl_SentFrom.m
  have key : ∀ j i, i ≤ list.length → list.length - i < j → g_impl_SentFrom.L0 K j from_ to_ c (((list.take i).filter (fits from_ to_ c)).map (·.1)) list list.length (i : Nat) = some (((list.filter (fits from_ to_ c)).map (·.1), ()), ()) := by
    intro j
    induction j with
    | zero => intro i _ hj; omega
    | succ j ih =>
      intro i hi hj
      rw [g_impl_SentFrom.L0_s]
      unfold g_impl_SentFrom.F0
      by_cases hin : i < list.length
      · have hlen : (((list.take i).filter (fits from_ to_ c)).map (·.1)).length ≤ i := by
          rw [List.length_map]
          refine Nat.le_trans (List.length_filter_le _ _) ?_
          rw [List.length_take]; omega
        have e9 : Nat.ble (((((list.take i).filter (fits from_ to_ c)).map (·.1)).length + 1) * 8) 140737488355328 = true := by rw [Nat.ble_eq]; omega
        have := ih (i + 1) hin (by omega)
        rw [take_step (d := p0) hin, List.filter_append, List.map_append] at this
        simp only [ix_lt hin, ix_0, Bool.true_and, cond_true, Int.toNat_natCast, ix_next (show i < 4611686018427387904 by omega), e9]
        have hf : (bif (list.getD i p0).2.1 == from_ then (bif (list.getD i p0).2.2.1 == to_ then some ((list.getD i p0).2.2.2.1 == c) else some false) else some false) = some (fits from_ to_ c (list.getD i p0)) := by
          unfold fits
          cases ((list.getD i p0).2.1 == from_) <;> cases ((list.getD i p0).2.2.1 == to_) <;> simp
        rw [hf]
        cases hs : fits from_ to_ c (list.getD i p0)
        · simp only [cond_false, Option.bind_some]
          simp only [List.filter_cons, hs, List.filter_nil, Bool.false_eq_true, if_false, List.append_nil, List.map_nil] at this
          exact this
        · simp only [cond_true, Option.bind_some]
          simp only [List.filter_cons, hs, List.filter_nil, if_true, List.map_cons, List.map_nil] at this
          exact this
      · have : i = list.length := by omega
        subst this
        simp only [ix_ge, cond_false, List.take_length]
  exact key K 0 (Nat.zero_le _) (by omega)

theorem SentFrom_spec (hK : 1048576 < K) (hN : list.length ≤ 1048576) : g_spec_SentFrom.m K list from_ to_ c = some (((list.filter (fits from_ to_ c)).map (·.1), ()), ()) := by
  unfold g_spec_SentFrom.m
  have key : ∀ j i, i ≤ list.length → list.length - i < j → g_spec_SentFrom.L0 K j list from_ to_ c (((list.take i).filter (fits from_ to_ c)).map (·.1)) (i : Nat) = some (((list.filter (fits from_ to_ c)).map (·.1), ()), ()) := by
    intro j
    induction j with
    | zero => intro i _ hj; omega
    | succ j ih =>
      intro i hi hj
      rw [g_spec_SentFrom.L0_s]
      unfold g_spec_SentFrom.F0
      by_cases hin : i < list.length
      · have hlen : (((list.take i).filter (fits from_ to_ c)).map (·.1)).length ≤ i := by
          rw [List.length_map]
          refine Nat.le_trans (List.length_filter_le _ _) ?_
          rw [List.length_take]; omega
        have e9 : Nat.ble (((((list.take i).filter (fits from_ to_ c)).map (·.1)).length + 1) * 8) 140737488355328 = true := by rw [Nat.ble_eq]; omega
        have := ih (i + 1) hin (by omega)
        rw [take_step (d := p0) hin, List.filter_append, List.map_append] at this
        simp only [ix_lt hin, ix_0, Bool.true_and, cond_true, Int.toNat_natCast, ix_next (show i < 4611686018427387904 by omega), e9]
        have hf : (bif (list.getD i p0).2.1 == from_ then (bif (list.getD i p0).2.2.1 == to_ then some ((list.getD i p0).2.2.2.1 == c) else some false) else some false) = some (fits from_ to_ c (list.getD i p0)) := by
          unfold fits
          cases ((list.getD i p0).2.1 == from_) <;> cases ((list.getD i p0).2.2.1 == to_) <;> simp
        rw [hf]
        cases hs : fits from_ to_ c (list.getD i p0)
        · simp only [cond_false, Option.bind_some]
          simp only [List.filter_cons, hs, List.filter_nil, Bool.false_eq_true, if_false, List.append_nil, List.map_nil] at this
          exact this
        · simp only [cond_true, Option.bind_some]
          simp only [List.filter_cons, hs, List.filter_nil, if_true, List.map_cons, List.map_nil] at this
          exact this
      · have : i = list.length := by omega
        subst this
        simp only [ix_ge, cond_false, List.take_length]
  exact key K 0 (Nat.zero_le _) (by omega)
end

/-! ### Prefixes -/
def pre (a b : List Int) : Prop := a.length ≤ b.length ∧ ∀ t, 0 ≤ t → t < a.length → a.getD t 0 = b.getD t 0

theorem Prefix_spec {K : Nat} {a b : List Int} (hK : 1048576 < K) (ha : a.length ≤ 1048576) (hb : b.length ≤ 1048576) : Ans (g_spec_IsPrefixOf.m K a b) (pre a b) := by
  unfold g_spec_IsPrefixOf.m pre
  rcases loop_all (L := fun j i => g_spec_IsPrefixOf.L0 K j a b i) (n := a.length) (Q := fun t => t < b.length ∧ a.getD t 0 = b.getD t 0) (stop := rb false) (fin := rb true) (fun j i hi => by
      rw [g_spec_IsPrefixOf.L0_s]
      unfold g_spec_IsPrefixOf.F0
      simp only [ix_lt hi, ix_0, Bool.true_and, cond_true, Int.toNat_natCast, ix_next (show i < 4611686018427387904 by omega)]
      by_cases h1 : i < b.length
      · have e1 : decide ((i : Int) ≥ (b.length : Int)) = false := decide_eq_false (by omega)
        simp only [e1, cond_false, ix_lt h1, cond_true]
        by_cases h2 : a.getD i 0 = b.getD i 0
        · exact .inl ⟨⟨h1, h2⟩, by simp only [show (a.getD i 0 != b.getD i 0) = false by simpa using h2, cond_false]⟩
        · exact .inr ⟨fun h => h2 h.2, by simp only [show (a.getD i 0 != b.getD i 0) = true by simpa using h2, cond_true]⟩
      · have e1 : decide ((i : Int) ≥ (b.length : Int)) = true := decide_eq_true (by omega)
        exact .inr ⟨fun h => h1 h.1, by simp only [e1, cond_true]⟩) (fun j => by
      rw [g_spec_IsPrefixOf.L0_s]
      unfold g_spec_IsPrefixOf.F0
      simp only [ix_ge, cond_false]) K 0 (Nat.zero_le _) (by omega) with ⟨h1, h2⟩ | ⟨h1, h2⟩
  · have hle : a.length ≤ b.length := by
      by_cases h0 : a.length = 0
      · omega
      · have := (h1 (a.length - 1) (Nat.zero_le _) (by omega)).1; omega
    exact ⟨true, h2, by simp only [true_iff]; exact ⟨hle, fun t h3 h4 => (h1 t h3 h4).2⟩⟩
  · exact ⟨false, h2, by simp only [Bool.false_eq_true, false_iff]; exact fun h => h1 fun t h3 h4 => ⟨by have := h.1; omega, h.2 t h3 h4⟩⟩

theorem Equal_ans {K : Nat} {a b : List Int} (hK : 1048576 < K) (ha : a.length ≤ 1048576) : Ans (g_slices_Equal_f123.m K a b) (a.length = b.length ∧ ∀ t, 0 ≤ t → t < a.length → a.getD t 0 = b.getD t 0) := by
  unfold g_slices_Equal_f123.m
  by_cases hl : a.length = b.length
  · simp only [bne_nat.2 hl, cond_false]
    rcases loop_all (L := fun j i => g_slices_Equal_f123.L0 K j a b a.length i) (n := a.length) (Q := fun t => a.getD t 0 = b.getD t 0) (stop := rb false) (fin := rb true) (fun j i hi => by
        rw [g_slices_Equal_f123.L0_s]
        unfold g_slices_Equal_f123.F0
        have hi' : i < b.length := by omega
        simp only [ix_lt hi, ix_lt hi', ix_0, Bool.true_and, cond_true, Int.toNat_natCast, ix_next (show i < 4611686018427387904 by omega)]
        by_cases h2 : a.getD i 0 = b.getD i 0
        · exact .inl ⟨h2, by simp only [show (a.getD i 0 != b.getD i 0) = false by simpa using h2, cond_false]⟩
        · exact .inr ⟨h2, by simp only [show (a.getD i 0 != b.getD i 0) = true by simpa using h2, cond_true]⟩) (fun j => by
        rw [g_slices_Equal_f123.L0_s]
        unfold g_slices_Equal_f123.F0
        simp only [ix_ge, cond_false]) K 0 (Nat.zero_le _) (by omega) with ⟨h1, h2⟩ | ⟨h1, h2⟩
    · exact ⟨true, h2, by simp only [true_iff]; exact ⟨hl, h1⟩⟩
    · exact ⟨false, h2, by simp only [Bool.false_eq_true, false_iff]; exact fun h => h1 h.2⟩
  · have e1 : ((a.length : Int) != (b.length : Int)) = true := by simp; omega
    simp only [e1, cond_true]
    exact Ans.no fun h => hl h.1

theorem Prefix_impl {K : Nat} {a b : List Int} (hK : 1048576 < K) (ha : a.length ≤ 1048576) (hb : b.length ≤ 1048576) : Ans (g_impl_IsPrefixOf.m K a b) (pre a b) := by
  unfold g_impl_IsPrefixOf.m pre
  by_cases hl : a.length ≤ b.length
  · have e1 : decide ((a.length : Int) ≤ (b.length : Int)) = true := decide_eq_true (by omega)
    have e5 : decide ((0 : Int) ≤ 0) = true := by decide
    simp only [e1, e5, z0, z0i, ix_0, Bool.and_self, cond_true, Int.toNat_natCast, List.drop_zero]
    rcases (Equal_ans (K := K) (a := a) (b := b.take a.length) hK ha).cases with ⟨h1, e2⟩ | ⟨h1, e2⟩
    · simp only [e2, rb, Option.bind_some]
      refine Ans.yes ⟨hl, fun t h3 h4 => ?_⟩
      have := h1.2 t h3 h4
      simp only [List.getD_eq_getElem?_getD, List.getElem?_take, h4, if_true] at this ⊢
      exact this
    · simp only [e2, rb, Option.bind_some]
      refine Ans.no fun h => h1 ⟨by simp; omega, fun t h3 h4 => ?_⟩
      have := h.2 t h3 h4
      simp only [List.getD_eq_getElem?_getD, List.getElem?_take, h4, if_true] at this ⊢
      exact this
  · have e1 : decide ((a.length : Int) ≤ (b.length : Int)) = false := decide_eq_false (by omega)
    simp only [e1, cond_false, Option.bind_some]
    exact Ans.no fun h => hl h.1

end Go.Proofs.Ytdgnmbhnilidlaa
