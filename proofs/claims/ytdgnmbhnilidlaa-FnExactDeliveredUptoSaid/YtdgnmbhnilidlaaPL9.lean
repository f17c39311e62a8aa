/- The plain law of FnExactDelivered. -/
import Derived.Test.YtdgnmbhnilidlaaPL8
set_option linter.unusedVariables false
set_option linter.unusedSimpArgs false
namespace Go.Proofs.Ytdgnmbhnilidlaa
open Go Go.Proofs.Ytdgnmbhnilidlaa.Ab

section
variable {K : Nat} {g : Int × Int} {cs t u : List Int} {q5 : List (List FL)} {q6 q7 : List Int} {q8 q9 : List (List FL)} {steps : Int} {list : List PK}

theorem PacketOk_node {p : PK} (h : g_impl_PacketOk.m K g p = rb true) : isNode g p.2.2.1 := by
  unfold g_impl_PacketOk.m at h
  simp only [inside_eq, isNode_eq, rb, Option.bind_some] at h
  by_cases hn : isNode g p.2.2.1
  · exact hn
  · exfalso
    revert h
    cases decide (In p.1 1 9999) <;> cases decide (isNode g p.2.1) <;> simp [hn]

theorem Missing_both (B : Lens K cs t u q5 q6 q7 q8) (B9 : ∀ i, (q9.getD i []).length ≤ 1048576) (hL : list.length ≤ 1048576) :
    ∃ r, g_spec_Missing.m K ((g, cs), (t, u), q5, q6, q7, q8, q9, steps) list = some ((r, ()), ()) ∧ g_impl_Missing.m K ((g, cs), (t, u), q5, q6, q7, q8, q9, steps) list = some ((r, ()), ()) := by
  have hK := B.bk
  obtain ⟨N, hN, h16⟩ := nodes_nat g
  unfold g_spec_Missing.m g_impl_Missing.m
  rcases (NetOk_spec (g := g) (q9 := q9) (steps := steps) B).cases with ⟨hn, e⟩ | ⟨hn, e⟩
  rotate_left
  · rcases (NetOk_impl (g := g) (q9 := q9) (steps := steps) B).cases with ⟨hn', e'⟩ | ⟨hn', e'⟩
    · exact absurd hn' hn
    · simp only [e, e', rb, Option.bind_some, Bool.not_false, cond_true]
      refine ⟨[], ?_, rfl⟩
      obtain ⟨K', rfl⟩ : ∃ x, K = x + 1 := ⟨K - 1, by omega⟩
      rw [g_spec_Missing.L0_s]
      unfold g_spec_Missing.F0
      cases decide ((0 : Int) < (list.length : Int)) <;> simp only [cond_true, cond_false, Bool.not_false]
  rcases (NetOk_impl (g := g) (q9 := q9) (steps := steps) B).cases with ⟨hn', e'⟩ | ⟨hn', e'⟩
  rotate_left
  · exact absurd hn hn'
  have l9 : q9.length = N := by have := hn.2.1.2.2.2.2; rw [hN] at this; simpa using this
  simp only [e, e', rb, Option.bind_some, Bool.not_true, cond_false]
  -- is there a bad one
  have hidx : ∃ r, g_slices_IndexFunc_f126.m K list (((g, cs), (t, u), q5, q6, q7, q8, q9, steps), ()) = some ((r, ()), ()) ∧ ((∀ i, 0 ≤ i → i < list.length → g_impl_PacketOk.m K g (list.getD i p0) = rb true) ↔ r = -1) ∧ -1 ≤ r := by
    unfold g_slices_IndexFunc_f126.m
    have key : ∀ j i, i ≤ list.length → list.length - i < j → ∃ r, g_slices_IndexFunc_f126.L0 K j list (((g, cs), (t, u), q5, q6, q7, q8, q9, steps), ()) list.length (i : Nat) = some ((r, ()), ()) ∧ ((∀ x, i ≤ x → x < list.length → g_impl_PacketOk.m K g (list.getD x p0) = rb true) ↔ r = -1) ∧ -1 ≤ r := by
      intro j
      induction j with
      | zero => intro i _ hj; omega
      | succ j ih =>
        intro i hi hj
        rw [g_slices_IndexFunc_f126.L0_s]
        unfold g_slices_IndexFunc_f126.F0
        by_cases hin : i < list.length
        · obtain ⟨b, hb⟩ := PacketOk_total K g (list.getD i p0)
          have hc : g_impl_Missing_1_f94.m K (list.getD i p0) ((g, cs), (t, u), q5, q6, q7, q8, q9, steps) = rb (!b) := by
            unfold g_impl_Missing_1_f94.m
            simp only [hb, rb, Option.bind_some]
          simp only [ix_lt hin, ix_0, Bool.true_and, cond_true, Int.toNat_natCast, hc, rb, Option.bind_some, ix_next (show i < 4611686018427387904 by omega)]
          cases b
          · exact ⟨i, rfl, ⟨fun h => (by have := h i (Nat.le_refl _) hin; rw [hb] at this; cases this), fun h => by omega⟩, by omega⟩
          · obtain ⟨r, h1, h2, h3⟩ := ih (i + 1) hin (by omega)
            refine ⟨r, h1, ⟨fun h => h2.1 fun x hx => h x (by omega), fun h x hx hx' => ?_⟩, h3⟩
            by_cases ex : x = i
            · subst ex; exact hb
            · exact h2.2 h x (by omega) hx'
        · have : i = list.length := by omega
          subst this
          simp only [ix_ge, cond_false]
          exact ⟨-1, rfl, ⟨fun _ => rfl, fun _ x h1 h2 => by omega⟩, by omega⟩
    obtain ⟨r, h1, h2, h3⟩ := key K 0 (Nat.zero_le _) (by omega)
    exact ⟨r, h1, h2, h3⟩
  obtain ⟨r, h1, h2, h3⟩ := hidx
  have hcf : g_slices_ContainsFunc_f93.m K list (((g, cs), (t, u), q5, q6, q7, q8, q9, steps), ()) = rb (decide (r ≥ 0)) := by
    unfold g_slices_ContainsFunc_f93.m
    rw [h1]
    rfl
  simp only [hcf, rb, Option.bind_some]
  by_cases hall : ∀ i, 0 ≤ i → i < list.length → g_impl_PacketOk.m K g (list.getD i p0) = rb true
  · have hr := h2.1 hall
    subst hr
    have e1 : decide ((-1 : Int) ≥ 0) = false := by decide
    simp only [e1, cond_false]
    have key : ∀ d j j' i (out : List Int), i + d = list.length → d + 1 ≤ j → d + 1 ≤ j' → out.length ≤ i →
        ∃ r, g_spec_Missing.L0 K j list out true (i : Nat) g.1 g.2 cs t u q5 q6 q7 q8 q9 steps = some ((r, ()), ()) ∧ g_impl_Missing.L0 K j' out list list.length (i : Nat) g.1 g.2 cs t u q5 q6 q7 q8 q9 steps = some ((r, ()), ()) := by
      intro d
      induction d with
      | zero =>
        intro j j' i out hd hj hj' ho
        obtain ⟨j, rfl⟩ : ∃ x, j = x + 1 := ⟨j - 1, by omega⟩
        obtain ⟨j', rfl⟩ : ∃ x, j' = x + 1 := ⟨j' - 1, by omega⟩
        have : i = list.length := by omega
        subst this
        rw [g_spec_Missing.L0_s, g_impl_Missing.L0_s]
        unfold g_spec_Missing.F0 g_impl_Missing.F0
        simp only [ix_ge, cond_false]
        exact ⟨_, rfl, rfl⟩
      | succ d ih =>
        intro j j' i out hd hj hj' ho
        obtain ⟨j, rfl⟩ : ∃ x, j = x + 1 := ⟨j - 1, by omega⟩
        obtain ⟨j', rfl⟩ : ∃ x, j' = x + 1 := ⟨j' - 1, by omega⟩
        have hi : i < list.length := by omega
        have hp := hall i (Nat.zero_le _) hi
        obtain ⟨a, ha, haN⟩ := node_nat hN (PacketOk_node hp)
        obtain ⟨r, k1, k2, k3⟩ := arrived_both (m := (g, cs)) (tu := (t, u)) (q5 := q5) (q6 := q6) (q7 := q7) (q8 := q8) (q9 := q9) (steps := steps) hK (a := a) (by omega) (list.getD i p0).2.2.2.1 (B9 a)
        have e9 : Nat.ble ((out.length + 1) * 8) 140737488355328 = true := by rw [Nat.ble_eq]; omega
        rw [g_spec_Missing.L0_s, g_impl_Missing.L0_s]
        unfold g_spec_Missing.F0 g_impl_Missing.F0
        simp only [ix_lt hi, ix_0, Bool.true_and, Bool.not_true, cond_true, cond_false, Int.toNat_natCast, pe, PacketOk_same, hp, rb, ha, k1, k2, e9, Option.bind_some, ix_next (show i < 4611686018427387904 by omega)]
        rcases (Find_ans K r.1.1 (list.getD i p0).1 (by omega) k3).cases with ⟨m1, e4⟩ | ⟨m1, e4⟩
        · rcases (Contains_ans K r.1.1 (list.getD i p0).1 (by omega) k3).cases with ⟨m2, e5⟩ | ⟨m2, e5⟩
          · simp only [e4, e5, rb, Option.bind_some, Bool.not_true, cond_false]
            exact ih j j' (i + 1) out (by omega) (by omega) (by omega) (by omega)
          · exact absurd m1 m2
        · rcases (Contains_ans K r.1.1 (list.getD i p0).1 (by omega) k3).cases with ⟨m2, e5⟩ | ⟨m2, e5⟩
          · exact absurd m2 m1
          · simp only [e4, e5, rb, Option.bind_some, Bool.not_false, cond_true]
            exact ih j j' (i + 1) _ (by omega) (by omega) (by omega) (by simp; omega)
    exact key list.length K K 0 [] (by omega) (by omega) (by omega) (by simp)
  · have hr : 0 ≤ r := by
      have : r ≠ -1 := fun h => hall (h2.2 h)
      omega
    have e1 : decide (r ≥ 0) = true := decide_eq_true (by omega)
    simp only [e1, cond_true]
    refine ⟨[], ?_, rfl⟩
    have key : ∀ d j i (out : List Int), i + d = list.length → d + 1 ≤ j → out.length ≤ i → (¬ ∀ x, i ≤ x → x < list.length → g_impl_PacketOk.m K g (list.getD x p0) = rb true) →
        g_spec_Missing.L0 K j list out true (i : Nat) g.1 g.2 cs t u q5 q6 q7 q8 q9 steps = some (([], ()), ()) := by
      intro d
      induction d with
      | zero => intro j i out hd hj ho hbad; exact absurd (fun x h1 h2 => by omega) hbad
      | succ d ih =>
        intro j i out hd hj ho hbad
        obtain ⟨j, rfl⟩ : ∃ x, j = x + 1 := ⟨j - 1, by omega⟩
        have hi : i < list.length := by omega
        rw [g_spec_Missing.L0_s]
        unfold g_spec_Missing.F0
        obtain ⟨b, hp⟩ := PacketOk_total K g (list.getD i p0)
        cases b
        · simp only [ix_lt hi, ix_0, Bool.true_and, Bool.not_true, Bool.not_false, cond_true, cond_false, Int.toNat_natCast, pe, PacketOk_same, hp, rb, Option.bind_some]
        · obtain ⟨a, ha, haN⟩ := node_nat hN (PacketOk_node hp)
          obtain ⟨r, k1, k2, k3⟩ := arrived_both (m := (g, cs)) (tu := (t, u)) (q5 := q5) (q6 := q6) (q7 := q7) (q8 := q8) (q9 := q9) (steps := steps) hK (a := a) (by omega) (list.getD i p0).2.2.2.1 (B9 a)
          have e9 : Nat.ble ((out.length + 1) * 8) 140737488355328 = true := by rw [Nat.ble_eq]; omega
          have hbad' : ¬ ∀ x, i + 1 ≤ x → x < list.length → g_impl_PacketOk.m K g (list.getD x p0) = rb true := fun h => hbad fun x hx hx' => by
            by_cases ex : x = i
            · subst ex; exact hp
            · exact h x (by omega) hx'
          simp only [ix_lt hi, ix_0, Bool.true_and, Bool.not_true, cond_true, cond_false, Int.toNat_natCast, pe, PacketOk_same, hp, rb, ha, k1, e9, Option.bind_some, ix_next (show i < 4611686018427387904 by omega)]
          rcases (Find_ans K r.1.1 (list.getD i p0).1 (by omega) k3).cases with ⟨m1, e4⟩ | ⟨m1, e4⟩
          · simp only [e4, rb, Option.bind_some, Bool.not_true, cond_false]
            exact ih j (i + 1) out (by omega) (by omega) (by omega) hbad'
          · simp only [e4, rb, Option.bind_some, Bool.not_false, cond_true]
            exact ih j (i + 1) _ (by omega) (by omega) (by simp; omega) hbad'
    exact key list.length K 0 [] (by omega) (by omega) (by simp) hall
end

theorem delivered_plain (x : NET × List PK) (h : Sz tChip x ≤ 1048576) : ∃ k, g_laws_FnExactDelivered.m k x = some ((true, ()), ()) := by
  refine ⟨1048577, ?_⟩
  have S : Small 1048577 x := small_of (by omega) x h
  unfold g_laws_FnExactDelivered.m
  obtain ⟨r, hr⟩ := szChip_total S 1048576
  obtain ⟨b, h1, h2⟩ := ChipOk_both (g := x.1.1.1) (q9 := x.1.2.2.2.2.2.2.1) (steps := x.1.2.2.2.2.2.2.2) (list := x.2) S.lens S.i9 S.list
  obtain ⟨r', h3, h4⟩ := Missing_both (g := x.1.1.1) (q9 := x.1.2.2.2.2.2.2.1) (steps := x.1.2.2.2.2.2.2.2) (list := x.2) S.lens S.i9 S.list
  have h1' : g_spec_ChipOk.m 1048577 x = rb b := h1
  have h2' : g_impl_ChipOk.m 1048577 x = rb b := h2
  have h3' : g_spec_Missing.m 1048577 x.1 x.2 = some ((r', ()), ()) := h3
  have h4' : g_impl_Missing.m 1048577 x.1 x.2 = some ((r', ()), ()) := h4
  have d : ∃ v, g_spec_Delivered.m 1048577 x = some ((v, ()), ()) ∧ g_impl_Delivered.m 1048577 x = some ((v, ()), ()) := by
    unfold g_spec_Delivered.m g_impl_Delivered.m
    simp only [h1', h2', rb, Option.bind_some]
    cases b
    · simp only [Bool.not_false, cond_true]; exact ⟨_, rfl, rfl⟩
    · simp only [Bool.not_true, cond_false, h3', h4', Option.bind_some]; exact ⟨_, rfl, rfl⟩
  obtain ⟨v, d1, d2⟩ := d
  have he := eqChip_self S
  simp only [hr, toChip_eq S, Option.bind_some]
  cases decide (r < 0)
  · simp only [cond_false]
    have e1 : (((((x.1.1.1.1, x.1.1.1.2), x.1.1.2), ((x.1.2.1.1, x.1.2.1.2), (x.1.2.2.1, (x.1.2.2.2.1, (x.1.2.2.2.2.1, (x.1.2.2.2.2.2.1, (x.1.2.2.2.2.2.2.1, x.1.2.2.2.2.2.2.2))))))), x.2) : NET × List PK) = x := rfl
    rw [e1, d1, d2, he]
    simp only [rb, Option.bind_some, bne_self_eq_false, Bool.not_true, cond_false]
  · rfl

end Go.Proofs.Ytdgnmbhnilidlaa
