/- Plain laws: meshes, channels. -/
import Derived.Test.YtdgnmbhnilidlaaPL1
set_option linter.unusedVariables false
set_option linter.unusedSimpArgs false
namespace Go.Proofs.Ytdgnmbhnilidlaa
open Go Go.Proofs.Ytdgnmbhnilidlaa.Ab

theorem ix_lt {i n : Nat} (h : i < n) : ((decide ((i : Int) < (n : Int)))) = true := by simpa using h
theorem ix_ge {n : Nat} : ((decide ((n : Int) < (n : Int)))) = false := by simp
theorem ix_in {i n : Nat} (h : i < n) : (decide ((0 : Int) ≤ (i : Int)) && decide ((i : Int) < (n : Int))) = true := by simp; omega
theorem ix_0 {i : Nat} : (decide ((0 : Int) ≤ (i : Int))) = true := by simp
theorem pe {α β : Type} (g : α × β) : (g.1, g.2) = g := rfl
theorem mem_drop_step {α : Type} {l : List α} {d : α} {i : Nat} (h : i < l.length) (v : α) : v ∈ l.drop i ↔ v = l.getD i d ∨ v ∈ l.drop (i + 1) := by
  rw [List.drop_eq_getElem_cons h, List.mem_cons, List.getD_eq_getElem?_getD, List.getElem?_eq_getElem h]
  rfl
theorem ix_next {i : Nat} (h : i < 4611686018427387904) : w64 ((i : Int) + 1) = ((i + 1 : Nat) : Int) := by
  rw [w64_of (by omega) (by omega)]; simp

def meshOk (m : (Int × Int) × List Int) : Prop :=
  gridOk m.1 ∧ ∀ t, 0 ≤ t → t < m.2.length → leads m.1 (m.2.getD t 0) ∧ (0 < t → m.2.getD (t - 1) 0 < m.2.getD t 0)

theorem leads_grid {g : Int × Int} {c : Int} (h : leads g c) : gridOk g := by
  obtain ⟨⟨h1, h2⟩, _⟩ := h
  unfold nodes at h2
  split at h2
  · assumption
  · omega

theorem MeshOk_ans (K : Nat) (m : (Int × Int) × List Int) (hK : m.2.length < K) (hN : m.2.length ≤ 1048576) : Ans (g_impl_MeshOk.m K m) (meshOk m) := by
  obtain ⟨g, cs⟩ := m
  simp only at hK hN
  unfold g_impl_MeshOk.m meshOk
  simp only
  have step : ∀ j (i : Nat), i < cs.length → ((leads g (cs.getD i 0) ∧ (0 < i → cs.getD (i - 1) 0 < cs.getD i 0)) ∧ g_impl_MeshOk.L0 K (j + 1) cs cs.length i g.1 g.2 cs = g_impl_MeshOk.L0 K j cs cs.length ((i + 1 : Nat) : Int) g.1 g.2 cs) ∨
      (¬ (leads g (cs.getD i 0) ∧ (0 < i → cs.getD (i - 1) 0 < cs.getD i 0)) ∧ g_impl_MeshOk.L0 K (j + 1) cs cs.length i g.1 g.2 cs = rb false) := by
    intro j i hi
    rw [g_impl_MeshOk.L0_s]
    unfold g_impl_MeshOk.F0
    simp only [ix_lt hi, ix_0, Bool.true_and, cond_true, Int.toNat_natCast, pe]
    rcases (leads_ans K g (cs.getD i 0)).cases with ⟨h1, e⟩ | ⟨h1, e⟩
    · simp only [e, rb, Option.bind_some, Bool.not_true, cond_false]
      by_cases h0 : 0 < i
      · have e1 : decide ((i : Int) > 0) = true := by simpa using h0
        have e2 : w64 ((i : Int) - 1) = ((i - 1 : Nat) : Int) := by rw [w64_of (by omega) (by omega)]; omega
        have hi' : i - 1 < cs.length := by omega
        simp only [e1, e2, cond_true, ix_lt hi', ix_0, Bool.true_and, Int.toNat_natCast, Option.bind_some]
        by_cases h2 : cs.getD (i - 1) 0 < cs.getD i 0
        · have e3 : decide (cs.getD (i - 1) 0 ≥ cs.getD i 0) = false := by simpa using h2
          simp only [e3, cond_false, ix_next (show i < 4611686018427387904 by omega)]
          exact .inl ⟨⟨h1, fun _ => h2⟩, by trivial⟩
        · have e3 : decide (cs.getD (i - 1) 0 ≥ cs.getD i 0) = true := by simpa using h2
          simp only [e3, cond_true]
          exact .inr ⟨fun h => h2 (h.2 h0), trivial⟩
      · have e1 : decide ((i : Int) > 0) = false := by simpa using h0
        simp only [e1, cond_false, Option.bind_some, ix_next (show i < 4611686018427387904 by omega)]
        exact .inl ⟨⟨h1, fun h => absurd h h0⟩, by trivial⟩
    · simp only [e, rb, Option.bind_some, Bool.not_false, cond_true]
      exact .inr ⟨fun h => h1 h.1, trivial⟩
  have fin : ∀ j, g_impl_MeshOk.L0 K (j + 1) cs cs.length ((cs.length : Nat) : Int) g.1 g.2 cs = rb (decide (gridOk g)) := fun j => by
    rw [g_impl_MeshOk.L0_s]
    unfold g_impl_MeshOk.F0
    simp only [ix_ge, cond_false, pe, GridOk_eq, rb, Option.bind_some]
  rcases loop_all (L := fun j i => g_impl_MeshOk.L0 K j cs cs.length i g.1 g.2 cs) step fin K 0 (Nat.zero_le _) (by omega) with ⟨h1, h2⟩ | ⟨h1, h2⟩
  · exact ⟨decide (gridOk g), h2, by simpa using fun _ => h1⟩
  · exact ⟨false, h2, by simpa using fun _ => by simpa using h1⟩

theorem MeshOk_spec (K : Nat) (m : (Int × Int) × List Int) (hK : m.2.length < K) (hN : m.2.length ≤ 1048576) : Ans (g_spec_MeshOk.m K m) (meshOk m) := by
  obtain ⟨g, cs⟩ := m
  simp only at hK hN
  unfold g_spec_MeshOk.m meshOk
  simp only [GridOk_spec, GridOk_eq, rb, Option.bind_some]
  by_cases hg : gridOk g
  · simp only [hg, decide_true, Bool.not_true, cond_false, true_and]
    have step : ∀ j (i : Nat), i < cs.length → ((leads g (cs.getD i 0) ∧ (0 < i → cs.getD (i - 1) 0 < cs.getD i 0)) ∧ g_spec_MeshOk.L0 K (j + 1) i g.1 g.2 cs = g_spec_MeshOk.L0 K j ((i + 1 : Nat) : Int) g.1 g.2 cs) ∨
        (¬ (leads g (cs.getD i 0) ∧ (0 < i → cs.getD (i - 1) 0 < cs.getD i 0)) ∧ g_spec_MeshOk.L0 K (j + 1) i g.1 g.2 cs = rb false) := by
      intro j i hi
      rw [g_spec_MeshOk.L0_s]
      unfold g_spec_MeshOk.F0
      simp only [ix_lt hi, ix_0, Bool.true_and, cond_true, Int.toNat_natCast, pe, leads_spec]
      rcases (leads_ans K g (cs.getD i 0)).cases with ⟨h1, e⟩ | ⟨h1, e⟩
      · simp only [e, rb, Option.bind_some, Bool.not_true, cond_false]
        by_cases h0 : 0 < i
        · have e1 : decide ((i : Int) > 0) = true := by simpa using h0
          have e2 : w64 ((i : Int) - 1) = ((i - 1 : Nat) : Int) := by rw [w64_of (by omega) (by omega)]; omega
          have hi' : i - 1 < cs.length := by omega
          simp only [e1, e2, cond_true, ix_lt hi', ix_0, Bool.true_and, Int.toNat_natCast, Option.bind_some]
          by_cases h2 : cs.getD (i - 1) 0 < cs.getD i 0
          · have e3 : decide (cs.getD i 0 ≤ cs.getD (i - 1) 0) = false := by simpa using h2
            simp only [e3, cond_false, ix_next (show i < 4611686018427387904 by omega)]
            exact .inl ⟨⟨h1, fun _ => h2⟩, by trivial⟩
          · have e3 : decide (cs.getD i 0 ≤ cs.getD (i - 1) 0) = true := by simpa using h2
            simp only [e3, cond_true]
            exact .inr ⟨fun h => h2 (h.2 h0), trivial⟩
        · have e1 : decide ((i : Int) > 0) = false := by simpa using h0
          simp only [e1, cond_false, Option.bind_some, ix_next (show i < 4611686018427387904 by omega)]
          exact .inl ⟨⟨h1, fun h => absurd h h0⟩, by trivial⟩
      · simp only [e, rb, Option.bind_some, Bool.not_false, cond_true]
        exact .inr ⟨fun h => h1 h.1, trivial⟩
    have fin : ∀ j, g_spec_MeshOk.L0 K (j + 1) ((cs.length : Nat) : Int) g.1 g.2 cs = rb true := fun j => by
      rw [g_spec_MeshOk.L0_s]
      unfold g_spec_MeshOk.F0
      simp only [ix_ge, cond_false]
    rcases loop_all (L := fun j i => g_spec_MeshOk.L0 K j i g.1 g.2 cs) step fin K 0 (Nat.zero_le _) (by omega) with ⟨h1, h2⟩ | ⟨h1, h2⟩
    · exact ⟨true, h2, by simpa using h1⟩
    · exact ⟨false, h2, by simpa using h1⟩
  · simp only [hg, decide_false, Bool.not_false, cond_true, false_and]
    exact Ans.no id

/-! ### Does a list hold a number -/
theorem Index_eq (K : Nat) (l : List Int) (v : Int) (hK : l.length < K) (hN : l.length ≤ 1048576) : ∃ r, g_slices_Index_f127.m K l v = some ((r, ()), ()) ∧ (0 ≤ r ↔ v ∈ l) := by
  unfold g_slices_Index_f127.m
  have key : ∀ j i, i ≤ l.length → l.length - i < j → ∃ r, g_slices_Index_f127.L0 K j l v l.length (i : Nat) = some ((r, ()), ()) ∧ (0 ≤ r ↔ v ∈ l.drop i) := by
    intro j
    induction j with
    | zero => intro i _ hj; omega
    | succ j ih =>
      intro i hi hj
      rw [g_slices_Index_f127.L0_s]
      unfold g_slices_Index_f127.F0
      by_cases hin : i < l.length
      · simp only [ix_lt hin, ix_0, Bool.true_and, cond_true, Int.toNat_natCast]
        rw [mem_drop_step (d := 0) hin]
        by_cases hv : v = l.getD i 0
        · simp only [beq_iff_eq.2 hv, cond_true]
          exact ⟨i, rfl, fun _ => .inl hv, fun _ => by omega⟩
        · have e : (v == l.getD i 0) = false := by simpa using hv
          simp only [e, cond_false, ix_next (show i < 4611686018427387904 by omega)]
          obtain ⟨r, h1, h2⟩ := ih (i + 1) hin (by omega)
          exact ⟨r, h1, h2.trans (by simp only [hv, false_or])⟩
      · have : i = l.length := by omega
        subst this
        simp only [ix_ge, cond_false]
        exact ⟨-1, rfl, by simp⟩
  obtain ⟨r, h1, h2⟩ := key K 0 (Nat.zero_le _) (by omega)
  exact ⟨r, h1, by simpa using h2⟩

theorem Contains_ans (K : Nat) (l : List Int) (v : Int) (hK : l.length < K) (hN : l.length ≤ 1048576) : Ans (g_slices_Contains_f95.m K l v) (v ∈ l) := by
  unfold g_slices_Contains_f95.m
  obtain ⟨r, h1, h2⟩ := Index_eq K l v hK hN
  rw [h1]
  exact Ans.mk' (by simpa using h2)

theorem Find_ans (K : Nat) (l : List Int) (v : Int) (hK : l.length < K) (hN : l.length ≤ 1048576) : Ans (g_spec_l03Find.m K l v) (v ∈ l) := by
  unfold g_spec_l03Find.m
  have key : ∀ j i, i ≤ l.length → l.length - i < j → Ans (g_spec_l03Find.L0 K j l v (i : Nat)) (v ∈ l.drop i) := by
    intro j
    induction j with
    | zero => intro i _ hj; omega
    | succ j ih =>
      intro i hi hj
      rw [g_spec_l03Find.L0_s]
      unfold g_spec_l03Find.F0
      by_cases hin : i < l.length
      · simp only [ix_lt hin, ix_0, Bool.true_and, cond_true, Int.toNat_natCast]
        rw [mem_drop_step (d := 0) hin]
        by_cases hv : l.getD i 0 = v
        · simp only [beq_iff_eq.2 hv, cond_true]
          exact Ans.yes (.inl hv.symm)
        · have e : (l.getD i 0 == v) = false := by simpa using hv
          simp only [e, cond_false, ix_next (show i < 4611686018427387904 by omega)]
          exact (ih (i + 1) hin (by omega)).iff ⟨fun h => .inr h, fun h => h.resolve_left fun e => hv e.symm⟩
      · have : i = l.length := by omega
        subst this
        simp only [ix_ge, cond_false]
        exact Ans.no (by simp)
  simpa using key K 0 (Nat.zero_le _) (by omega)

/-! ### Channels -/
def has (m : (Int × Int) × List Int) (c : Int) : Prop := leads m.1 c ∧ c ∉ m.2

theorem HasChannel_ans (K : Nat) (m : (Int × Int) × List Int) (c : Int) (hK : m.2.length < K) (hN : m.2.length ≤ 1048576) : Ans (g_impl_HasChannel.m K m c) (meshOk m ∧ has m c) := by
  unfold g_impl_HasChannel.m has
  rcases (MeshOk_ans K m hK hN).cases with ⟨h1, e1⟩ | ⟨h1, e1⟩
  · rcases (leads_ans K m.1 c).cases with ⟨h2, e2⟩ | ⟨h2, e2⟩
    · rcases (Contains_ans K m.2 c hK hN).cases with ⟨h3, e3⟩ | ⟨h3, e3⟩
      · simp only [e1, e2, e3, rb, Option.bind_some, cond_true]
        exact Ans.no fun h => h.2.2 h3
      · simp only [e1, e2, e3, rb, Option.bind_some, cond_true]
        exact Ans.yes ⟨h1, h2, h3⟩
    · simp only [e1, e2, rb, Option.bind_some, cond_true, cond_false]
      exact Ans.no fun h => h2 h.2.1
  · simp only [e1, rb, Option.bind_some, cond_false]
    exact Ans.no fun h => h1 h.1

theorem Has_ans (K : Nat) (m : (Int × Int) × List Int) (c : Int) (hK : m.2.length < K) (hN : m.2.length ≤ 1048576) : Ans (g_spec_l03Has.m K m c) (has m c) := by
  unfold g_spec_l03Has.m has
  rw [leads_spec]
  rcases (leads_ans K m.1 c).cases with ⟨h2, e2⟩ | ⟨h2, e2⟩
  · rcases (Find_ans K m.2 c hK hN).cases with ⟨h3, e3⟩ | ⟨h3, e3⟩
    · simp only [e2, e3, rb, Option.bind_some, cond_true]
      exact Ans.no fun h => h.2 h3
    · simp only [e2, e3, rb, Option.bind_some, cond_true]
      exact Ans.yes ⟨h2, h3⟩
  · simp only [e2, rb, Option.bind_some, cond_true, cond_false]
    exact Ans.no fun h => h2 h.1

end Go.Proofs.Ytdgnmbhnilidlaa
