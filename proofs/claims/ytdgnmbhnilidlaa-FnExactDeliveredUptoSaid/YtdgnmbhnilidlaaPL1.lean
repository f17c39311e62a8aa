/- Plain laws: numbers, loops; grids, nodes, ports. -/
import Derived.Test.YtdgnmbhnilidlaaG3
set_option linter.unusedVariables false
set_option linter.unusedSimpArgs false
namespace Go.Proofs.Ytdgnmbhnilidlaa
open Go Go.Proofs.Ytdgnmbhnilidlaa.Ab

theorem w64_of {x : Int} (h1 : -9223372036854775808 ≤ x) (h2 : x ≤ 9223372036854775807) : w64 x = x := by
  simp [w64, IntKind.wrap, IntKind.signed, IntKind.bits]
  omega

abbrev OB := Option ((Bool × Unit) × Unit)
abbrev rb (b : Bool) : OB := some ((b, ()), ())

theorem rb_inj {a b : Bool} (h : rb a = rb b) : a = b := by cases h; rfl

/-- A loop that stops at the first i that fails. -/
theorem loop_all {ρ : Type} {L : Nat → Int → Option ρ} {n : Nat} {Q : Nat → Prop} {stop fin : Option ρ}
    (h : ∀ j (i : Nat), i < n → (Q i ∧ L (j + 1) i = L j ((i + 1 : Nat) : Int)) ∨ (¬ Q i ∧ L (j + 1) i = stop))
    (hf : ∀ j, L (j + 1) (n : Int) = fin) : ∀ (j i : Nat), i ≤ n → n - i < j →
    ((∀ t, i ≤ t → t < n → Q t) ∧ L j i = fin) ∨ ((¬ ∀ t, i ≤ t → t < n → Q t) ∧ L j i = stop) := by
  intro j
  induction j with
  | zero => intro i _ hj; omega
  | succ j ih =>
    intro i hi hj
    by_cases hin : i < n
    · rcases h j i hin with ⟨hq, hl⟩ | ⟨hq, hl⟩
      · rw [hl]
        rcases ih (i + 1) hin (by omega) with ⟨h1, h2⟩ | ⟨h1, h2⟩
        · refine .inl ⟨fun t h3 h4 => ?_, h2⟩
          by_cases e : t = i
          · subst e; exact hq
          · exact h1 t (by omega) h4
        · exact .inr ⟨fun h3 => h1 fun t h4 h5 => h3 t (by omega) h5, h2⟩
      · exact .inr ⟨fun h3 => hq (h3 i (Nat.le_refl _) hin), hl⟩
    · have : i = n := by omega
      subst this
      exact .inl ⟨fun t h1 h2 => by omega, hf j⟩

/-- A test's answer. -/
def Ans (o : OB) (Q : Prop) : Prop := ∃ b, o = rb b ∧ (b = true ↔ Q)
theorem Ans.mk' {b : Bool} {Q : Prop} (h : b = true ↔ Q) : Ans (rb b) Q := ⟨b, rfl, h⟩
theorem Ans.cases {o : OB} {Q : Prop} (h : Ans o Q) : (Q ∧ o = rb true) ∨ (¬ Q ∧ o = rb false) := by
  obtain ⟨b, h1, h2⟩ := h
  cases b
  · exact .inr ⟨fun q => by simpa using h2.2 q, h1⟩
  · exact .inl ⟨h2.1 rfl, h1⟩
theorem Ans.yes {Q : Prop} (h : Q) : Ans (rb true) Q := ⟨true, rfl, by simp [h]⟩
theorem Ans.no {Q : Prop} (h : ¬ Q) : Ans (rb false) Q := ⟨false, rfl, by simp [h]⟩
theorem Ans.iff {o : OB} {Q R : Prop} (h : Ans o Q) (k : Q ↔ R) : Ans o R := by
  obtain ⟨b, h1, h2⟩ := h
  exact ⟨b, h1, h2.trans k⟩
/-- Two tests of the same thing answer the same. -/
theorem Ans.same {o p : OB} {Q : Prop} (h : Ans o Q) (k : Ans p Q) : ∃ b, o = rb b ∧ p = rb b := by
  obtain ⟨b, h1, h2⟩ := h
  obtain ⟨c, h3, h4⟩ := k
  have : b = c := by cases b <;> cases c <;> simp_all
  subst this
  exact ⟨b, h1, h3⟩

/-! ### Grids, nodes -/
def In (n lo hi : Int) : Prop := lo ≤ n ∧ n ≤ hi
instance (n lo hi : Int) : Decidable (In n lo hi) := inferInstanceAs (Decidable (_ ∧ _))

theorem inside_eq (k : Nat) (n lo hi : Int) : g_impl_inside.m k n lo hi = rb (decide (In n lo hi)) := by
  unfold g_impl_inside.m In
  by_cases h : lo ≤ n <;> simp [h]

theorem l01In_impl : g_spec_l01In.m = g_impl_inside.m := rfl
theorem l01In_eq (k : Nat) (n lo hi : Int) : g_spec_l01In.m k n lo hi = rb (decide (In n lo hi)) := inside_eq k n lo hi

def gridOk (g : Int × Int) : Prop := In g.1 1 4 ∧ In g.2 1 4
instance (g : Int × Int) : Decidable (gridOk g) := inferInstanceAs (Decidable (_ ∧ _))

theorem GridOk_eq (k : Nat) (g : Int × Int) : g_impl_GridOk.m k g = rb (decide (gridOk g)) := by
  unfold g_impl_GridOk.m gridOk
  simp only [inside_eq]
  by_cases h : In g.1 1 4 <;> simp [h]
theorem GridOk_spec : g_spec_GridOk.m = g_impl_GridOk.m := rfl

def nodes (g : Int × Int) : Int := if gridOk g then g.1 * g.2 else 0

theorem nodes_le (g : Int × Int) : 0 ≤ nodes g ∧ nodes g ≤ 16 := by
  unfold nodes
  split
  · rename_i h
    obtain ⟨⟨h1, h2⟩, h3, h4⟩ := h
    constructor
    · exact Int.mul_nonneg (by omega) (by omega)
    · calc g.1 * g.2 ≤ 4 * g.2 := Int.mul_le_mul_of_nonneg_right h2 (by omega)
        _ ≤ 16 := by omega
  · omega

theorem NodeCount_eq (k : Nat) (g : Int × Int) : g_impl_NodeCount.m k g = some ((nodes g, ()), ()) := by
  unfold g_impl_NodeCount.m
  simp only [GridOk_eq]
  have := nodes_le g
  unfold nodes at this ⊢
  by_cases h : gridOk g
  · simp only [h, if_true] at this ⊢
    simp only [decide_true, Option.bind_some, Bool.not_true, cond_false]
    rw [w64_of (by omega) (by omega)]
  · simp [h]
theorem NodeCount_spec : g_spec_NodeCount.m = g_impl_NodeCount.m := rfl

def isNode (g : Int × Int) (n : Int) : Prop := 0 ≤ n ∧ n < nodes g
instance (g : Int × Int) (n : Int) : Decidable (isNode g n) := inferInstanceAs (Decidable (_ ∧ _))
theorem isNode_eq (k : Nat) (g : Int × Int) (n : Int) : g_impl_isNode.m k g n = rb (decide (isNode g n)) := by
  unfold g_impl_isNode.m
  have := nodes_le g
  simp only [NodeCount_eq, Option.bind_some, inside_eq]
  rw [w64_of (by omega) (by omega)]
  simp only [rb, Option.bind_some]
  have e : In n 0 (nodes g - 1) ↔ isNode g n := by unfold In isNode; omega
  rw [decide_eq_decide.2 e]
theorem isNode_spec : g_spec_l02Has.m = g_impl_isNode.m := rfl

def nodeAt (g : Int × Int) (x y : Int) : Int := if gridOk g ∧ In x 0 (g.1 - 1) ∧ In y 0 (g.2 - 1) then y * g.1 + x else -1
theorem NodeAt_eq (k : Nat) (g : Int × Int) (x y : Int) : g_impl_NodeAt.m k g x y = some ((nodeAt g x y, ()), ()) := by
  unfold g_impl_NodeAt.m nodeAt
  simp only [GridOk_eq, inside_eq, rb, Option.bind_some]
  by_cases h : gridOk g
  · obtain ⟨⟨h1, h2⟩, h3, h4⟩ := id h
    rw [w64_of (x := g.1 - 1) (by omega) (by omega), w64_of (x := g.2 - 1) (by omega) (by omega)]
    by_cases hx : In x 0 (g.1 - 1)
    · by_cases hy : In y 0 (g.2 - 1)
      · obtain ⟨h5, h6⟩ := id hx
        obtain ⟨h7, h8⟩ := id hy
        have h9 : 0 ≤ y * g.1 := Int.mul_nonneg (by omega) (by omega)
        have h10 : y * g.1 ≤ 3 * 4 := Int.mul_le_mul (by omega) (by omega) (by omega) (by omega)
        rw [w64_of (x := y * g.1) (by omega) (by omega), w64_of (x := y * g.1 + x) (by omega) (by omega)]
        simp [h, hx, hy]
      · simp [h, hx, hy]
    · simp [h, hx]
  · simp [h]
theorem NodeAt_spec : g_spec_NodeAt.m = g_impl_NodeAt.m := rfl

theorem isNode_grid {g : Int × Int} {n : Int} (h : isNode g n) : gridOk g := by
  obtain ⟨h1, h2⟩ := h
  unfold nodes at h2
  split at h2
  · assumption
  · omega

/-- The next node, whatever it is. -/
theorem NextNode_total (k : Nat) (g : Int × Int) (n p : Int) : ∃ r, (∀ k, g_impl_NextNode.m k g n p = some ((r, ()), ())) ∧ -1 ≤ r ∧ r < 16 ∧ (0 ≤ r → isNode g r) := by
  have hat : ∀ x y, -1 ≤ nodeAt g x y ∧ nodeAt g x y < 16 ∧ (0 ≤ nodeAt g x y → isNode g (nodeAt g x y)) := fun x y => by
    unfold nodeAt
    split
    · rename_i h
      obtain ⟨hg, ⟨h5, h6⟩, h7, h8⟩ := h
      obtain ⟨⟨h1, h2⟩, h3, h4⟩ := id hg
      have h9 : 0 ≤ y * g.1 := Int.mul_nonneg (by omega) (by omega)
      have h10 : y * g.1 ≤ 3 * 4 := Int.mul_le_mul (by omega) (by omega) (by omega) (by omega)
      refine ⟨by omega, by omega, fun _ => ⟨by omega, ?_⟩⟩
      unfold nodes
      rw [if_pos hg]
      have h11 : y * g.1 + g.1 ≤ g.2 * g.1 := by
        have := Int.mul_le_mul_of_nonneg_right (show y + 1 ≤ g.2 by omega) (show 0 ≤ g.1 by omega)
        rw [Int.add_mul] at this
        omega
      rw [Int.mul_comm g.1 g.2]
      omega
    · exact ⟨by omega, by omega, fun h => by omega⟩
  unfold g_impl_NextNode.m
  simp only [isNode_eq, NodeAt_eq, rb, Option.bind_some]
  by_cases h : isNode g n
  · have hg := isNode_grid h
    obtain ⟨⟨h1, h2⟩, h3, h4⟩ := id hg
    have hne : (g.1 == 0) = false := by simp; omega
    have hn16 : 0 ≤ n ∧ n < 16 := by have := nodes_le g; exact ⟨h.1, by have := h.2; omega⟩
    simp only [h, decide_true, Bool.not_true, cond_false, hne]
    by_cases p0 : p = 0
    · exact ⟨_, fun k => by simp [p0]; rfl, hat _ _⟩
    by_cases p1 : p = 1
    · exact ⟨_, fun k => by simp [p1]; rfl, hat _ _⟩
    by_cases p2 : p = 2
    · exact ⟨_, fun k => by simp [p2]; rfl, hat _ _⟩
    by_cases p3 : p = 3
    · exact ⟨_, fun k => by simp [p3]; rfl, hat _ _⟩
    by_cases p4 : p = 4
    · exact ⟨n, fun k => by simp [p4], by omega, by omega, fun _ => h⟩
    · have e0 : (p == 0) = false := by simpa using p0
      have e1 : (p == 1) = false := by simpa using p1
      have e2 : (p == 2) = false := by simpa using p2
      have e3 : (p == 3) = false := by simpa using p3
      have e4 : (p == 4) = false := by simpa using p4
      exact ⟨-1, fun k => by simp only [e0, e1, e2, e3, e4, cond_false], by omega, by omega, fun h => by omega⟩
  · exact ⟨-1, fun k => by simp [h], by omega, by omega, fun h => by omega⟩
theorem NextNode_spec : g_spec_NextNode.m = g_impl_NextNode.m := rfl

noncomputable def nextNode (g : Int × Int) (n p : Int) : Int := (NextNode_total 0 g n p).choose
theorem NextNode_eq (k : Nat) (g : Int × Int) (n p : Int) : g_impl_NextNode.m k g n p = some ((nextNode g n p, ()), ()) := (NextNode_total 0 g n p).choose_spec.1 k
theorem nextNode_ge (g : Int × Int) (n p : Int) : -1 ≤ nextNode g n p ∧ nextNode g n p < 16 ∧ (0 ≤ nextNode g n p → isNode g (nextNode g n p)) := (NextNode_total 0 g n p).choose_spec.2

def leads (g : Int × Int) (c : Int) : Prop := In c 0 (4 * nodes g - 1) ∧ 0 ≤ nextNode g (c.tdiv 4) (c.tmod 4)
theorem leads_ans (k : Nat) (g : Int × Int) (c : Int) : Ans (g_impl_leads.m k g c) (leads g c) := by
  unfold g_impl_leads.m leads
  have := nodes_le g
  simp only [NodeCount_eq, Option.bind_some, inside_eq, NextNode_eq]
  rw [w64_of (x := 4 * nodes g) (by omega) (by omega), w64_of (x := 4 * nodes g - 1) (by omega) (by omega)]
  by_cases h : In c 0 (4 * nodes g - 1)
  · obtain ⟨h1, h2⟩ := id h
    have : -9223372036854775808 ≤ c.tdiv 4 ∧ c.tdiv 4 ≤ 9223372036854775807 := by rw [Int.tdiv_eq_ediv_of_nonneg h1]; omega
    rw [w64_of this.1 this.2]
    simp only [rb, h, decide_true, Option.bind_some, cond_true, true_and]
    exact Ans.mk' (by simp)
  · simp only [rb, h, decide_false, Option.bind_some, cond_false, false_and]
    exact Ans.mk' (by simp)
theorem leads_spec : g_spec_l03Leads.m = g_impl_leads.m := rfl

end Go.Proofs.Ytdgnmbhnilidlaa
