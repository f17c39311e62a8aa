/- Plain laws: walks, tables, classes. -/
import Derived.Test.YtdgnmbhnilidlaaPL2
set_option linter.unusedVariables false
set_option linter.unusedSimpArgs false
namespace Go.Proofs.Ytdgnmbhnilidlaa
open Go Go.Proofs.Ytdgnmbhnilidlaa.Ab

theorem nodes_nat (g : Int × Int) : ∃ N : Nat, nodes g = (N : Int) ∧ N ≤ 16 := by
  have := nodes_le g
  exact ⟨(nodes g).toNat, by omega, by omega⟩

theorem node_nat {g : Int × Int} {N : Nat} (hN : nodes g = (N : Int)) {a : Int} (h : isNode g a) : ∃ i : Nat, a = (i : Int) ∧ i < N := by
  obtain ⟨h1, h2⟩ := h
  exact ⟨a.toNat, by omega, by omega⟩

theorem idx_lt {a b N : Nat} (ha : a < N) (hb : b < N) : a * N + b < N * N := by
  have : (a + 1) * N ≤ N * N := Nat.mul_le_mul_right _ ha
  rw [Nat.add_mul, Nat.one_mul] at this
  omega

theorem idx_eq {a b N : Nat} (ha : a < N) (hb : b < N) (hN : N ≤ 16) : w64 (w64 ((a : Int) * (N : Int)) + (b : Int)) = ((a * N + b : Nat) : Int) := by
  have h1 := idx_lt ha hb
  have h2 : N * N ≤ 16 * 16 := Nat.mul_le_mul hN hN
  have h3 : ((a : Int) * (N : Int)) = ((a * N : Nat) : Int) := by simp
  rw [h3, w64_of (x := ((a * N : Nat) : Int)) (by omega) (by omega), w64_of (by omega) (by omega)]
  simp

section
variable {K : Nat} {g : Int × Int} {cs t : List Int} {N : Nat}

theorem PortAt_eq (hm : meshOk (g, cs)) (hK : cs.length < K) (hc : cs.length ≤ 1048576) (hN : nodes g = (N : Int)) (h16 : N ≤ 16) (ht : t.length = N * N) {a b : Nat} (ha : a < N) (hb : b < N) :
    g_impl_PortAt.m K (g, cs) t a b = some ((if In (t.getD (a * N + b) 0) 0 4 then t.getD (a * N + b) 0 else -1, ()), ()) := by
  have hm' : g_impl_MeshOk.m K (g, cs) = rb true := by
    rcases (MeshOk_ans K (g, cs) hK hc).cases with ⟨_, e⟩ | ⟨h, e⟩
    · exact e
    · exact absurd hm h
  unfold g_impl_PortAt.m
  have h2 : N * N ≤ 16 * 16 := Nat.mul_le_mul h16 h16
  have e1 : In (a : Int) 0 ((N : Int) - 1) := ⟨by omega, by omega⟩
  have e2 : In (b : Int) 0 ((N : Int) - 1) := ⟨by omega, by omega⟩
  have e3 : ((t.length : Int) != w64 ((N : Int) * (N : Int))) = false := by
    have : ((N : Int) * (N : Int)) = ((N * N : Nat) : Int) := by simp
    rw [this, w64_of (by omega) (by omega), ht]
    simp
  have hlt : a * N + b < t.length := by rw [ht]; exact idx_lt ha hb
  have e4 : w64 ((N : Int) - 1) = (N : Int) - 1 := w64_of (by omega) (by omega)
  simp only [NodeCount_eq, hm', rb, Option.bind_some, hN, inside_eq, e4, e1, e2, decide_true, Bool.not_true, cond_false, e3, idx_eq ha hb h16, ix_0, ix_lt hlt, Bool.true_and, cond_true, Int.toNat_natCast]
  by_cases h : In (t.getD (a * N + b) 0) 0 4
  · simp only [h, decide_true, Bool.not_true, cond_false, if_true]
  · simp only [h, decide_false, Bool.not_false, cond_true, if_false]

/-- Both walks, from a node on. -/
theorem walk_both (hm : meshOk (g, cs)) (hK : cs.length < K) (hc : cs.length ≤ 1048576) (hN : nodes g = (N : Int)) (h16 : N ≤ 16) (ht : t.length = N * N) {b : Nat} (hb : b < N) :
    ∀ (d : Nat) (j j' : Nat) (out : List Int) (a : Nat), a < N → out.length + d = N → d + 2 ≤ j → d + 2 ≤ j' →
      ∃ r, g_spec_l04Walk.L0 K j b out N a g.1 g.2 cs t = some ((r, ()), ()) ∧ g_impl_WalkTable.L0 K j' b out a g.1 g.2 cs t = some ((r, ()), ()) := by
  intro d
  induction d with
  | zero =>
    intro j j' out a ha hout hj hj'
    obtain ⟨j, rfl⟩ : ∃ i, j = i + 1 + 1 := ⟨j - 2, by omega⟩
    obtain ⟨j', rfl⟩ : ∃ i, j' = i + 1 := ⟨j' - 1, by omega⟩
    rw [g_spec_l04Walk.L0_s, g_impl_WalkTable.L0_s]
    unfold g_spec_l04Walk.F0 g_impl_WalkTable.F0
    have hlt : a * N + b < t.length := by rw [ht]; exact idx_lt ha hb
    have e0 : decide ((out.length : Int) ≤ (N : Int)) = true := by simp; omega
    simp only [pe, PortAt_eq hm hK hc hN h16 ht ha hb, e0, cond_true, idx_eq ha hb h16, ix_0, ix_lt hlt, Bool.true_and, Int.toNat_natCast, Option.bind_some]
    generalize t.getD (a * N + b) 0 = p
    by_cases h4 : p = 4
    · subst h4
      have e1 : In (4 : Int) 0 4 := by decide
      have e2 : decide ((4 : Int) < 0) = false := by decide
      have e3 : ((4 : Int) == 4) = true := by decide
      simp only [e1, if_true, e2, e3, cond_true, cond_false]
      by_cases hab : (a : Int) != (b : Int)
      · simp only [hab, cond_true]; exact ⟨_, rfl, rfl⟩
      · simp only [hab, cond_false]; exact ⟨_, rfl, rfl⟩
    · have e1 : (p == 4) = false := by simpa using h4
      simp only [e1, cond_false, l01In_eq, rb, Option.bind_some]
      by_cases h3 : In p 0 3
      · have h5 : In p 0 4 := ⟨h3.1, by have := h3.2; omega⟩
        have e2 : decide (p < 0) = false := by have := h3.1; simpa using this
        have hp := h3
        obtain ⟨hp1, hp2⟩ := hp
        have e5 : w64 (w64 (4 * (a : Int)) + p) = 4 * (a : Int) + p := by rw [w64_of (x := 4 * (a : Int)) (by omega) (by omega), w64_of (by omega) (by omega)]
        simp only [h3, h5, if_true, e2, e1, cond_false, decide_true, Bool.not_true, e5]
        rcases (Has_ans K (g, cs) (4 * (a : Int) + p) hK hc).cases with ⟨h6, e6⟩ | ⟨h6, e6⟩
        · rcases (HasChannel_ans K (g, cs) (4 * (a : Int) + p) hK hc).cases with ⟨h7, e7⟩ | ⟨h7, e7⟩
          · have e8 : ((out.length : Int) == (N : Int)) = true := by simp; omega
            have e9 : Nat.ble ((out.length + 1) * 8) 140737488355328 = true := by rw [Nat.ble_eq]; omega
            simp only [e6, e7, rb, Option.bind_some, Bool.not_true, cond_false, NodeCount_eq, hN, e8, cond_true, e9, NextNode_spec, NextNode_eq]
            rw [g_spec_l04Walk.L0_s]
            unfold g_spec_l04Walk.F0
            have e10 : decide (((out ++ [4 * (a : Int) + p]).length : Int) ≤ (N : Int)) = false := by simp; omega
            simp only [e10, cond_false]
            exact ⟨_, rfl, rfl⟩
          · exact absurd ⟨hm, h6⟩ h7
        · rcases (HasChannel_ans K (g, cs) (4 * (a : Int) + p) hK hc).cases with ⟨h7, e7⟩ | ⟨h7, e7⟩
          · exact absurd h7.2 h6
          · simp only [e6, e7, rb, Option.bind_some, Bool.not_false, cond_true]
            exact ⟨_, rfl, rfl⟩
      · have h5 : ¬ In p 0 4 := fun h => h3 ⟨h.1, by have := h.2; omega⟩
        have e2 : decide ((-1 : Int) < 0) = true := by decide
        simp only [h3, h5, if_false, decide_false, Bool.not_false, cond_true, Option.bind_some, e2]
        exact ⟨_, rfl, rfl⟩
  | succ d ih =>
    intro j j' out a ha hout hj hj'
    obtain ⟨j, rfl⟩ : ∃ i, j = i + 1 := ⟨j - 1, by omega⟩
    obtain ⟨j', rfl⟩ : ∃ i, j' = i + 1 := ⟨j' - 1, by omega⟩
    rw [g_spec_l04Walk.L0_s, g_impl_WalkTable.L0_s]
    unfold g_spec_l04Walk.F0 g_impl_WalkTable.F0
    have hlt : a * N + b < t.length := by rw [ht]; exact idx_lt ha hb
    have e0 : decide ((out.length : Int) ≤ (N : Int)) = true := by simp; omega
    simp only [pe, PortAt_eq hm hK hc hN h16 ht ha hb, e0, cond_true, idx_eq ha hb h16, ix_0, ix_lt hlt, Bool.true_and, Int.toNat_natCast, Option.bind_some]
    generalize t.getD (a * N + b) 0 = p
    by_cases h4 : p = 4
    · subst h4
      have e1 : In (4 : Int) 0 4 := by decide
      have e2 : decide ((4 : Int) < 0) = false := by decide
      have e3 : ((4 : Int) == 4) = true := by decide
      simp only [e1, if_true, e2, e3, cond_true, cond_false]
      by_cases hab : (a : Int) != (b : Int)
      · simp only [hab, cond_true]; exact ⟨_, rfl, rfl⟩
      · simp only [hab, cond_false]; exact ⟨_, rfl, rfl⟩
    · have e1 : (p == 4) = false := by simpa using h4
      simp only [e1, cond_false, l01In_eq, rb, Option.bind_some]
      by_cases h3 : In p 0 3
      · have h5 : In p 0 4 := ⟨h3.1, by have := h3.2; omega⟩
        have e2 : decide (p < 0) = false := by have := h3.1; simpa using this
        have hp := h3
        obtain ⟨hp1, hp2⟩ := hp
        have e5 : w64 (w64 (4 * (a : Int)) + p) = 4 * (a : Int) + p := by rw [w64_of (x := 4 * (a : Int)) (by omega) (by omega), w64_of (by omega) (by omega)]
        simp only [h3, h5, if_true, e2, e1, cond_false, decide_true, Bool.not_true, e5]
        rcases (Has_ans K (g, cs) (4 * (a : Int) + p) hK hc).cases with ⟨h6, e6⟩ | ⟨h6, e6⟩
        · rcases (HasChannel_ans K (g, cs) (4 * (a : Int) + p) hK hc).cases with ⟨h7, e7⟩ | ⟨h7, e7⟩
          · have e8 : ((out.length : Int) == (N : Int)) = false := by simp; omega
            have e9 : Nat.ble ((out.length + 1) * 8) 140737488355328 = true := by rw [Nat.ble_eq]; omega
            have e11 : (4 * (a : Int) + p).tdiv 4 = (a : Int) := by rw [Int.tdiv_eq_ediv_of_nonneg (by omega)]; omega
            have e12 : (4 * (a : Int) + p).tmod 4 = p := by rw [Int.tmod_eq_emod_of_nonneg (by omega)]; omega
            have e13 : w64 (a : Int) = (a : Int) := w64_of (by omega) (by omega)
            have hnx : 0 ≤ nextNode g a p := by
              have := h6.1.2
              simp only [e11, e12] at this
              exact this
            obtain ⟨a', ha', hlt'⟩ := node_nat hN ((nextNode_ge g a p).2.2 hnx)
            have hendof : g_impl_endOf.m K (g, cs) (4 * (a : Int) + p) = some ((nextNode g a p, ()), ()) := by
              unfold g_impl_endOf.m
              simp only [e11, e12, e13, NextNode_eq, Option.bind_some]
            simp only [e6, e7, rb, Option.bind_some, Bool.not_true, cond_false, NodeCount_eq, hN, e8, cond_true, e9, NextNode_spec, NextNode_eq, hendof, ha']
            exact ih j j' (out ++ [4 * (a : Int) + p]) a' hlt' (by simp; omega) (by omega) (by omega)
          · exact absurd ⟨hm, h6⟩ h7
        · rcases (HasChannel_ans K (g, cs) (4 * (a : Int) + p) hK hc).cases with ⟨h7, e7⟩ | ⟨h7, e7⟩
          · exact absurd h7.2 h6
          · simp only [e6, e7, rb, Option.bind_some, Bool.not_false, cond_true]
            exact ⟨_, rfl, rfl⟩
      · have h5 : ¬ In p 0 4 := fun h => h3 ⟨h.1, by have := h.2; omega⟩
        have e2 : decide ((-1 : Int) < 0) = true := by decide
        simp only [h3, h5, if_false, decide_false, Bool.not_false, cond_true, Option.bind_some, e2]
        exact ⟨_, rfl, rfl⟩

/-- The two walks agree. -/
theorem Walk_both (hm : meshOk (g, cs)) (hK : cs.length < K) (hK2 : 32 < K) (hc : cs.length ≤ 1048576) (hN : nodes g = (N : Int)) (h16 : N ≤ 16) (ht : t.length = N * N) {a b : Nat} (ha : a < N) (hb : b < N) (hab : a ≠ b) :
    ∃ r, g_spec_l04Walk.m K (g, cs) t a b = some ((r, ()), ()) ∧ g_impl_WalkTable.m K (g, cs) t a b = some ((r, ()), ()) := by
  obtain ⟨r, h1, h2⟩ := walk_both hm hK hc hN h16 ht hb N K K [] a ha (by simp) (by omega) (by omega)
  refine ⟨r, ?_, ?_⟩
  · unfold g_spec_l04Walk.m
    simp only [NodeCount_spec, NodeCount_eq, Option.bind_some, hN]
    exact h1
  · have hm' : g_impl_MeshOk.m K (g, cs) = rb true := by
      rcases (MeshOk_ans K (g, cs) hK hc).cases with ⟨_, e⟩ | ⟨h, e⟩
      · exact e
      · exact absurd hm h
    have e1 : ((a : Int) == (b : Int)) = false := by simp; omega
    have n1 : isNode g a := ⟨by omega, by omega⟩
    have n2 : isNode g b := ⟨by omega, by omega⟩
    unfold g_impl_WalkTable.m
    simp only [e1, cond_false, hm', rb, Option.bind_some, Bool.not_true, isNode_eq, n1, n2, decide_true]
    exact h2

/-- The walk from a to b arrives. -/
def walkNE (K : Nat) (m : (Int × Int) × List Int) (t : List Int) (a b : Nat) : Prop := ∃ r, g_spec_l04Walk.m K m t a b = some ((r, ()), ()) ∧ r ≠ []

theorem walk_spec (hm : meshOk (g, cs)) (hK : cs.length < K) (hK2 : 32 < K) (hc : cs.length ≤ 1048576) (hN : nodes g = (N : Int)) (h16 : N ≤ 16) (ht : t.length = N * N) {a b : Nat} (ha : a < N) (hb : b < N) (hab : a ≠ b) :
    ∃ r, g_spec_l04Walk.m K (g, cs) t a b = some ((r, ()), ()) ∧ g_impl_TableOk_1_f131.m K a b (g, cs) t = rb (decide (r ≠ [])) ∧ (walkNE K (g, cs) t a b ↔ r ≠ []) ∧ (((r.length : Int) == 0) = decide (r = [])) := by
  obtain ⟨r, h1, h2⟩ := Walk_both hm hK hK2 hc hN h16 ht ha hb hab
  refine ⟨r, h1, ?_, ⟨fun ⟨r', h3, h4⟩ => ?_, fun h => ⟨r, h1, h⟩⟩, ?_⟩
  · unfold g_impl_TableOk_1_f131.m
    rw [h2]
    cases r <;> simp
  · rw [h1] at h3
    simp only [Option.some.injEq, Prod.mk.injEq, and_true] at h3
    rw [h3]; exact h4
  · cases r <;> simp
    omega

def tableOk (K : Nat) (m : (Int × Int) × List Int) (t : List Int) : Prop :=
  meshOk m ∧ (t.length : Int) = nodes m.1 * nodes m.1 ∧ ∀ a : Nat, 0 ≤ a → a < (nodes m.1).toNat → ∀ b : Nat, 0 ≤ b → b < (nodes m.1).toNat → (a = b → t.getD (a * (nodes m.1).toNat + a) 0 = 4) ∧ (a ≠ b → walkNE K m t a b)

theorem next16 {i : Nat} (h : i < N) (h16 : N ≤ 16) : w64 ((i : Int) + 1) = ((i + 1 : Nat) : Int) := ix_next (by omega)

theorem TableOk_spec (hK : cs.length < K) (hK2 : 32 < K) (hc : cs.length ≤ 1048576) (hlt : t.length ≤ 1048576) : Ans (g_spec_TableOk.m K (g, cs) t) (tableOk K (g, cs) t) := by
  obtain ⟨N, hN, h16⟩ := nodes_nat g
  have h2 : N * N ≤ 16 * 16 := Nat.mul_le_mul h16 h16
  unfold g_spec_TableOk.m g_spec_l04Sized.m tableOk
  have e3 : w64 ((N : Int) * (N : Int)) = ((N * N : Nat) : Int) := by
    have : ((N : Int) * (N : Int)) = ((N * N : Nat) : Int) := by simp
    rw [this, w64_of (by omega) (by omega)]
  simp only [NodeCount_spec, NodeCount_eq, Option.bind_some, hN, e3, Int.toNat_natCast]
  rcases (MeshOk_spec K (g, cs) hK hc).cases with ⟨hm, e⟩ | ⟨hm, e⟩
  · simp only [e, rb, Option.bind_some, cond_true]
    by_cases hl : t.length = N * N
    · have e4 : ((t.length : Int) == ((N * N : Nat) : Int)) = true := by rw [hl]; simp
      simp only [e4, Bool.not_true, cond_false]
      have inner : ∀ (rec0 : Int → Int → Int → Int → List Int → List Int → OB) (a : Nat), a < N → ((∀ b : Nat, 0 ≤ b → b < N → (a = b → t.getD (a * N + a) 0 = 4) ∧ (a ≠ b → walkNE K (g, cs) t a b)) ∧ g_spec_TableOk.L1 K rec0 K N a 0 g.1 g.2 cs t = rec0 N (w64 ((a : Int) + 1)) g.1 g.2 cs t) ∨
          ((¬ ∀ b : Nat, 0 ≤ b → b < N → (a = b → t.getD (a * N + a) 0 = 4) ∧ (a ≠ b → walkNE K (g, cs) t a b)) ∧ g_spec_TableOk.L1 K rec0 K N a 0 g.1 g.2 cs t = rb false) := by
        intro rec0 a ha
        refine loop_all (L := fun j i => g_spec_TableOk.L1 K rec0 j N a i g.1 g.2 cs t) (n := N) (Q := fun b => (a = b → t.getD (a * N + a) 0 = 4) ∧ (a ≠ b → walkNE K (g, cs) t a b)) ?_ ?_ K 0 (Nat.zero_le _) (by omega)
        · intro j b hb
          rw [g_spec_TableOk.L1_s]
          unfold g_spec_TableOk.F1
          have hla : a * N + a < t.length := by rw [hl]; exact idx_lt ha ha
          simp only [ix_lt hb, cond_true, idx_eq ha ha h16, ix_0, ix_lt hla, Bool.true_and, Int.toNat_natCast, pe, next16 hb h16]
          by_cases hab : a = b
          · subst hab
            have e5 : ((a : Int) == (a : Int)) = true := by simp
            have e6 : ((a : Int) != (a : Int)) = false := by simp
            simp only [e5, e6, cond_true, cond_false]
            by_cases h4 : t.getD (a * N + a) 0 = 4
            · have e7 : (t.getD (a * N + a) 0 != 4) = false := by simpa using h4
              simp only [e7, cond_false]
              exact .inl ⟨⟨fun _ => h4, fun h => absurd rfl h⟩, by trivial⟩
            · have e7 : (t.getD (a * N + a) 0 != 4) = true := by simpa using h4
              simp only [e7, cond_true]
              exact .inr ⟨fun h => h4 (h.1 (by trivial)), by trivial⟩
          · have e5 : ((a : Int) == (b : Int)) = false := by simp; omega
            have e6 : ((a : Int) != (b : Int)) = true := by simp; omega
            obtain ⟨r, h5, _, h6, h7⟩ := walk_spec hm hK hK2 hc hN h16 hl ha hb hab
            simp only [e5, e6, cond_true, cond_false, h5, Option.bind_some, h7]
            by_cases hr : r = []
            · simp only [hr, decide_true, cond_true]
              exact .inr ⟨fun h => (h6.1 (h.2 hab)) hr, by trivial⟩
            · simp only [hr, decide_false, cond_false]
              exact .inl ⟨⟨fun h => absurd h hab, fun _ => h6.2 hr⟩, by trivial⟩
        · intro j
          rw [g_spec_TableOk.L1_s]
          unfold g_spec_TableOk.F1
          simp only [ix_ge, cond_false]
      rcases loop_all (L := fun j i => g_spec_TableOk.L0 K j N i g.1 g.2 cs t) (n := N) (Q := fun a => ∀ b : Nat, 0 ≤ b → b < N → (a = b → t.getD (a * N + a) 0 = 4) ∧ (a ≠ b → walkNE K (g, cs) t a b)) (stop := rb false) (fin := rb true) (fun j a ha => by
          rw [g_spec_TableOk.L0_s]
          unfold g_spec_TableOk.F0
          simp only [ix_lt ha, cond_true]
          rcases inner (g_spec_TableOk.L0 K j) a ha with ⟨h1, h2⟩ | ⟨h1, h2⟩
          · rw [next16 ha h16] at h2; exact .inl ⟨h1, h2⟩
          · exact .inr ⟨h1, h2⟩) (fun j => by
          rw [g_spec_TableOk.L0_s]
          unfold g_spec_TableOk.F0
          simp only [ix_ge, cond_false]) K 0 (Nat.zero_le _) (by omega) with ⟨h1, h2⟩ | ⟨h1, h2⟩
      · exact ⟨true, h2, by simp only [true_iff]; exact ⟨hm, by rw [hl]; simp, h1⟩⟩
      · exact ⟨false, h2, by simp only [Bool.false_eq_true, false_iff]; exact fun h => h1 h.2.2⟩
    · have e4 : ((t.length : Int) == ((N * N : Nat) : Int)) = false := by simpa using fun h => hl (by exact_mod_cast h)
      simp only [e4, Bool.not_false, cond_true]
      exact Ans.no fun h => hl (by have := h.2.1; exact_mod_cast this)
  · simp only [e, rb, Option.bind_some, cond_false, Bool.not_false, cond_true]
    exact Ans.no fun h => hm h.1

theorem TableOk_impl (hK : cs.length < K) (hK2 : 32 < K) (hc : cs.length ≤ 1048576) (hlt : t.length ≤ 1048576) : Ans (g_impl_TableOk.m K (g, cs) t) (tableOk K (g, cs) t) := by
  obtain ⟨N, hN, h16⟩ := nodes_nat g
  have h2 : N * N ≤ 16 * 16 := Nat.mul_le_mul h16 h16
  unfold g_impl_TableOk.m tableOk
  have e3 : w64 ((N : Int) * (N : Int)) = ((N * N : Nat) : Int) := by
    have : ((N : Int) * (N : Int)) = ((N * N : Nat) : Int) := by simp
    rw [this, w64_of (by omega) (by omega)]
  simp only [NodeCount_eq, Option.bind_some, hN, e3, Int.toNat_natCast]
  rcases (MeshOk_ans K (g, cs) hK hc).cases with ⟨hm, e⟩ | ⟨hm, e⟩
  · simp only [e, rb, Option.bind_some, Bool.not_true, cond_false]
    by_cases hl : t.length = N * N
    · have e4 : ((t.length : Int) != ((N * N : Nat) : Int)) = false := by rw [hl]; simp
      simp only [e4, cond_false]
      have inner : ∀ (rec0 : (((Int × Int) × List Int) × (List Int) × Unit) → Int → Int → Int → OB) (a : Nat), a < N → ((∀ b : Nat, 0 ≤ b → b < N → a ≠ b → walkNE K (g, cs) t a b) ∧ g_impl_pairs.L1 K rec0 K ((g, cs), (t, ())) N a N a N 0 = rec0 ((g, cs), (t, ())) N N (w64 ((a : Int) + 1))) ∨
          ((¬ ∀ b : Nat, 0 ≤ b → b < N → a ≠ b → walkNE K (g, cs) t a b) ∧ g_impl_pairs.L1 K rec0 K ((g, cs), (t, ())) N a N a N 0 = rb false) := by
        intro rec0 a ha
        refine loop_all (L := fun j i => g_impl_pairs.L1 K rec0 j ((g, cs), (t, ())) N a N a N i) (n := N) (Q := fun b => a ≠ b → walkNE K (g, cs) t a b) ?_ ?_ K 0 (Nat.zero_le _) (by omega)
        · intro j b hb
          rw [g_impl_pairs.L1_s]
          unfold g_impl_pairs.F1
          simp only [ix_lt hb, cond_true, next16 hb h16]
          by_cases hab : a = b
          · subst hab
            have e6 : ((a : Int) != (a : Int)) = false := by simp
            simp only [e6, cond_false, Option.bind_some]
            exact .inl ⟨fun h => absurd rfl h, by trivial⟩
          · have e6 : ((a : Int) != (b : Int)) = true := by simp; omega
            obtain ⟨r, _, h5, h6, _⟩ := walk_spec hm hK hK2 hc hN h16 hl ha hb hab
            simp only [e6, cond_true, h5, rb, Option.bind_some]
            by_cases hr : r = []
            · simp only [hr, ne_eq, not_true, decide_false, Bool.not_false, cond_true]
              exact .inr ⟨fun h => (h6.1 (h hab)) hr, by trivial⟩
            · simp only [ne_eq, hr, not_false_iff, decide_true, Bool.not_true, cond_false]
              exact .inl ⟨fun _ => h6.2 hr, by trivial⟩
        · intro j
          rw [g_impl_pairs.L1_s]
          unfold g_impl_pairs.F1
          simp only [ix_ge, cond_false]
      have hpairs : Ans (g_impl_pairs.m K g ((g, cs), (t, ()))) (∀ a : Nat, 0 ≤ a → a < N → ∀ b : Nat, 0 ≤ b → b < N → a ≠ b → walkNE K (g, cs) t a b) := by
        unfold g_impl_pairs.m
        simp only [NodeCount_eq, Option.bind_some, hN]
        rcases loop_all (L := fun j i => g_impl_pairs.L0 K j ((g, cs), (t, ())) N N i) (n := N) (Q := fun a => ∀ b : Nat, 0 ≤ b → b < N → a ≠ b → walkNE K (g, cs) t a b) (stop := rb false) (fin := rb true) (fun j a ha => by
            rw [g_impl_pairs.L0_s]
            unfold g_impl_pairs.F0
            simp only [ix_lt ha, cond_true]
            rcases inner (g_impl_pairs.L0 K j) a ha with ⟨h1, h2⟩ | ⟨h1, h2⟩
            · rw [next16 ha h16] at h2; exact .inl ⟨h1, h2⟩
            · exact .inr ⟨h1, h2⟩) (fun j => by
            rw [g_impl_pairs.L0_s]
            unfold g_impl_pairs.F0
            simp only [ix_ge, cond_false]) K 0 (Nat.zero_le _) (by omega) with ⟨h1, h2⟩ | ⟨h1, h2⟩
        · exact ⟨true, h2, by simp only [true_iff]; exact h1⟩
        · exact ⟨false, h2, by simp only [Bool.false_eq_true, false_iff]; exact h1⟩
      rcases loop_all (L := fun j i => g_impl_TableOk.L0 K j N N i g.1 g.2 cs t) (n := N) (Q := fun a => t.getD (a * N + a) 0 = 4) (stop := rb false) (fin := g_impl_pairs.m K g ((g, cs), (t, ()))) (fun j a ha => by
          rw [g_impl_TableOk.L0_s]
          unfold g_impl_TableOk.F0
          have hla : a * N + a < t.length := by rw [hl]; exact idx_lt ha ha
          simp only [ix_lt ha, cond_true, idx_eq ha ha h16, ix_0, ix_lt hla, Bool.true_and, Int.toNat_natCast, next16 ha h16]
          by_cases h4 : t.getD (a * N + a) 0 = 4
          · have e7 : (t.getD (a * N + a) 0 != 4) = false := by simpa using h4
            simp only [e7, cond_false]
            exact .inl ⟨h4, by trivial⟩
          · have e7 : (t.getD (a * N + a) 0 != 4) = true := by simpa using h4
            simp only [e7, cond_true]
            exact .inr ⟨h4, by trivial⟩) (fun j => by
          rw [g_impl_TableOk.L0_s]
          unfold g_impl_TableOk.F0
          simp only [ix_ge, cond_false, pe]
          obtain ⟨b, h1, _⟩ := hpairs
          rw [h1]
          rfl) K 0 (Nat.zero_le _) (by omega) with ⟨h1, h2⟩ | ⟨h1, h2⟩
      · obtain ⟨b, h3, h4⟩ := hpairs
        refine ⟨b, h2.trans h3, h4.trans ⟨fun h => ⟨hm, by rw [hl]; simp, fun a _ ha b _ hb => ⟨fun _ => h1 a (Nat.zero_le _) ha, h a (Nat.zero_le _) ha b (Nat.zero_le _) hb⟩⟩, fun h a _ ha b _ hb => (h.2.2 a (Nat.zero_le _) ha b (Nat.zero_le _) hb).2⟩⟩
      · exact ⟨false, h2, by simp only [Bool.false_eq_true, false_iff]; exact fun h => h1 fun a _ ha => (h.2.2 a (Nat.zero_le _) ha a (Nat.zero_le _) ha).1 rfl⟩
    · have e4 : ((t.length : Int) != ((N * N : Nat) : Int)) = true := by simpa using fun h => hl (by exact_mod_cast h)
      simp only [e4, cond_true]
      exact Ans.no fun h => hl (by have := h.2.1; exact_mod_cast this)
  · simp only [e, rb, Option.bind_some, Bool.not_false, cond_true]
    exact Ans.no fun h => hm h.1

theorem ClassesOk_impl {u : List Int} (hK : cs.length < K) (hK2 : 32 < K) (hc : cs.length ≤ 1048576) (hlt : t.length ≤ 1048576) (hlu : u.length ≤ 1048576) : Ans (g_impl_ClassesOk.m K (g, cs) (t, u)) (tableOk K (g, cs) t ∧ tableOk K (g, cs) u) := by
  unfold g_impl_ClassesOk.m
  rcases (TableOk_impl (g := g) hK hK2 hc hlt).cases with ⟨h1, e1⟩ | ⟨h1, e1⟩
  · rcases (TableOk_impl (g := g) hK hK2 hc hlu).cases with ⟨h2, e2⟩ | ⟨h2, e2⟩
    · simp only [e1, e2, rb, Option.bind_some, cond_true]; exact Ans.yes ⟨h1, h2⟩
    · simp only [e1, e2, rb, Option.bind_some, cond_true]; exact Ans.no fun h => h2 h.2
  · simp only [e1, rb, Option.bind_some, cond_false]; exact Ans.no fun h => h1 h.1

theorem ClassesOk_spec {u : List Int} (hK : cs.length < K) (hK2 : 32 < K) (hc : cs.length ≤ 1048576) (hlt : t.length ≤ 1048576) (hlu : u.length ≤ 1048576) : Ans (g_spec_ClassesOk.m K (g, cs) (t, u)) (tableOk K (g, cs) t ∧ tableOk K (g, cs) u) := by
  unfold g_spec_ClassesOk.m
  rcases (TableOk_spec (g := g) hK hK2 hc hlt).cases with ⟨h1, e1⟩ | ⟨h1, e1⟩
  · rcases (TableOk_spec (g := g) hK hK2 hc hlu).cases with ⟨h2, e2⟩ | ⟨h2, e2⟩
    · simp only [e1, e2, rb, Option.bind_some, cond_true]; exact Ans.yes ⟨h1, h2⟩
    · simp only [e1, e2, rb, Option.bind_some, cond_true]; exact Ans.no fun h => h2 h.2
  · simp only [e1, rb, Option.bind_some, cond_false]; exact Ans.no fun h => h1 h.1
end

end Go.Proofs.Ytdgnmbhnilidlaa
