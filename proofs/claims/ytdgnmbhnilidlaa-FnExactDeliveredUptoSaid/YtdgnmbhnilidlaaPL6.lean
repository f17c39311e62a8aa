/- Plain laws: the order of packets, chips. -/
import Derived.Test.YtdgnmbhnilidlaaPL5
set_option linter.unusedVariables false
set_option linter.unusedSimpArgs false
namespace Go.Proofs.Ytdgnmbhnilidlaa
open Go Go.Proofs.Ytdgnmbhnilidlaa.Ab

section
variable {K : Nat} {g : Int × Int} {cs t u : List Int} {q5 : List (List FL)} {q6 q7 : List Int} {q8 q9 : List (List FL)} {steps : Int} {list : List PK}

def arr (K : Nat) (n : NET) (a c : Nat) : List Int := match g_impl_Net_arrived.m K n a c with | some r => r.1.1 | none => []

def ordered (K : Nat) (n : NET) (list : List PK) (a c f : Nat) : Prop :=
  pre ((arr K n a c).filter (sentB list f a c)) ((list.filter (fits f a c)).map (·.1))

theorem arr_spec (hK : 1048576 < K) {a : Nat} (ha : a < q9.length) (c : Nat) (hN : (q9.getD a []).length ≤ 1048576) {m : (Int × Int) × List Int} {tu : (List Int) × List Int} :
    ∃ r, g_spec_l22At.m K (m, tu, q5, q6, q7, q8, q9, steps) a c = some r ∧ g_impl_Net_arrived.m K (m, tu, q5, q6, q7, q8, q9, steps) a c = some r ∧ r.1.1 = arr K (m, tu, q5, q6, q7, q8, q9, steps) a c ∧ (arr K (m, tu, q5, q6, q7, q8, q9, steps) a c).length ≤ 1048576 := by
  obtain ⟨r, h1, h2, h3⟩ := arrived_both (m := m) (tu := tu) (q5 := q5) (q6 := q6) (q7 := q7) (q8 := q8) (steps := steps) hK ha c hN
  have : arr K (m, tu, q5, q6, q7, q8, q9, steps) a c = r.1.1 := by unfold arr; rw [h2]
  exact ⟨r, h1, h2, this.symm, by rw [this]; exact h3⟩

theorem nil_pre (b : List Int) : pre [] b := ⟨Nat.zero_le _, fun t _ h => by simp at h⟩

theorem filter_len {α : Type} {l : List α} {p : α → Bool} {n : Nat} (h : l.length ≤ n) : (l.filter p).length ≤ n := Nat.le_trans (List.length_filter_le _ _) h

theorem KeepsOrder_both (B : Lens K cs t u q5 q6 q7 q8) (B9 : ∀ i, (q9.getD i []).length ≤ 1048576) (hL : list.length ≤ 1048576) :
    ∃ b, g_spec_KeepsOrder.m K ((g, cs), (t, u), q5, q6, q7, q8, q9, steps) list = rb b ∧ g_impl_KeepsOrder.m K ((g, cs), (t, u), q5, q6, q7, q8, q9, steps) list = rb b := by
  obtain ⟨N, hN, h16⟩ := nodes_nat g
  have hK := B.bk
  unfold g_spec_KeepsOrder.m g_impl_KeepsOrder.m
  rcases (NetOk_spec (g := g) (q9 := q9) (steps := steps) B).cases with ⟨hn, e⟩ | ⟨hn, e⟩
  rotate_left
  · rcases (NetOk_impl (g := g) (q9 := q9) (steps := steps) B).cases with ⟨hn', e'⟩ | ⟨hn', e'⟩
    · exact absurd hn' hn
    · simp only [e, e', rb, Option.bind_some, Bool.not_false, cond_true]
      exact ⟨false, rfl, rfl⟩
  rcases (NetOk_impl (g := g) (q9 := q9) (steps := steps) B).cases with ⟨hn', e'⟩ | ⟨hn', e'⟩
  rotate_left
  · exact absurd hn hn'
  have l9 : q9.length = N := by have := hn.2.1.2.2.2.2; rw [hN] at this; simpa using this
  simp only [e, e', rb, Option.bind_some, Bool.not_true, cond_false, NodeCount_spec, NodeCount_eq, hN]
  -- the checks for one node and class
  have checks : ∀ (a c f : Nat), a < N → (∃ b, (b = true ↔ ordered K ((g, cs), (t, u), q5, q6, q7, q8, q9, steps) list a c f) ∧
      g_spec_IsPrefixOf.m K ((arr K ((g, cs), (t, u), q5, q6, q7, q8, q9, steps) a c).filter (sentB list f a c)) ((list.filter (fits f a c)).map (·.1)) = rb b ∧
      g_impl_IsPrefixOf.m K ((arr K ((g, cs), (t, u), q5, q6, q7, q8, q9, steps) a c).filter (sentB list f a c)) ((list.filter (fits f a c)).map (·.1)) = rb b) := fun a c f ha => by
    obtain ⟨r, _, _, _, h4⟩ := arr_spec (K := K) (q5 := q5) (q6 := q6) (q7 := q7) (q8 := q8) (q9 := q9) (steps := steps) (m := (g, cs)) (tu := (t, u)) hK (a := a) (by omega) c (B9 a)
    have h5 := Prefix_spec (K := K) (a := (arr K ((g, cs), (t, u), q5, q6, q7, q8, q9, steps) a c).filter (sentB list f a c)) (b := (list.filter (fits f a c)).map (·.1)) hK (filter_len h4) (by rw [List.length_map]; exact filter_len hL)
    have h6 := Prefix_impl (K := K) (a := (arr K ((g, cs), (t, u), q5, q6, q7, q8, q9, steps) a c).filter (sentB list f a c)) (b := (list.filter (fits f a c)).map (·.1)) hK (filter_len h4) (by rw [List.length_map]; exact filter_len hL)
    obtain ⟨b, h7, h8⟩ := h5
    obtain ⟨b', h9, h10⟩ := h6
    have : b = b' := by
      cases b <;> cases b' <;> simp_all
    subst this
    exact ⟨b, h8, h7, h9⟩
  have hsp : Ans (g_spec_KeepsOrder.L0 K K list N 0 g.1 g.2 cs t u q5 q6 q7 q8 q9 steps) (∀ i, 0 ≤ i → i < 2 * N → ∀ f, 0 ≤ f → f < N → ordered K ((g, cs), (t, u), q5, q6, q7, q8, q9, steps) list (i / 2) (i % 2) f) := by
    have a2 : w64 (2 * (N : Int)) = ((2 * N : Nat) : Int) := by rw [w64_of (by omega) (by omega)]; simp
    rcases loop_all (L := fun j i => g_spec_KeepsOrder.L0 K j list N i g.1 g.2 cs t u q5 q6 q7 q8 q9 steps) (n := 2 * N) (Q := fun i => ∀ f, 0 ≤ f → f < N → ordered K ((g, cs), (t, u), q5, q6, q7, q8, q9, steps) list (i / 2) (i % 2) f) (stop := rb false) (fin := rb true) (fun j i hi => by
        rw [g_spec_KeepsOrder.L0_s]
        unfold g_spec_KeepsOrder.F0
        have e1 : ((i : Nat) : Int).tdiv 2 = ((i / 2 : Nat) : Int) := by rw [Int.tdiv_eq_ediv_of_nonneg (by omega)]; omega
        have e2 : ((i : Nat) : Int).tmod 2 = ((i % 2 : Nat) : Int) := by rw [Int.tmod_eq_emod_of_nonneg (by omega)]; omega
        have e3 : w64 ((i / 2 : Nat) : Int) = ((i / 2 : Nat) : Int) := w64_of (by omega) (by omega)
        obtain ⟨r, h1, _, h3, h4⟩ := arr_spec (K := K) (q5 := q5) (q6 := q6) (q7 := q7) (q8 := q8) (q9 := q9) (steps := steps) (m := (g, cs)) (tu := (t, u)) hK (a := i / 2) (by omega) (i % 2) (B9 _)
        simp only [a2, ix_lt hi, cond_true, pe, e1, e2, e3, h1, Option.bind_some, h3]
        by_cases h0 : (arr K ((g, cs), (t, u), q5, q6, q7, q8, q9, steps) (i / 2) (i % 2)).length = 0
        · have hnil : arr K ((g, cs), (t, u), q5, q6, q7, q8, q9, steps) (i / 2) (i % 2) = [] := List.length_eq_zero_iff.1 h0
          refine .inl ⟨fun f _ _ => by unfold ordered; rw [hnil]; exact nil_pre _, ?_⟩
          obtain ⟨K', rfl⟩ : ∃ x, K = x + 1 := ⟨K - 1, by omega⟩
          rw [g_spec_KeepsOrder.L1_s]
          unfold g_spec_KeepsOrder.F1
          have e4 : decide ((((arr (K' + 1) ((g, cs), (t, u), q5, q6, q7, q8, q9, steps) (i / 2) (i % 2)).length : Nat) : Int) > 0) = false := decide_eq_false (by omega)
          simp only [e4, ix_next (show i < 4611686018427387904 by omega)]
          cases decide ((0 : Int) < (N : Int)) <;> simp only [cond_true, cond_false, Option.bind_some]
        · have e4 : decide ((((arr K ((g, cs), (t, u), q5, q6, q7, q8, q9, steps) (i / 2) (i % 2)).length : Nat) : Int) > 0) = true := decide_eq_true (by omega)
          rcases loop_all (L := fun j' f => g_spec_KeepsOrder.L1 K (g_spec_KeepsOrder.L0 K j) j' list N i (arr K ((g, cs), (t, u), q5, q6, q7, q8, q9, steps) (i / 2) (i % 2)) f g.1 g.2 cs t u q5 q6 q7 q8 q9 steps) (n := N) (Q := fun f => ordered K ((g, cs), (t, u), q5, q6, q7, q8, q9, steps) list (i / 2) (i % 2) f) (stop := rb false) (fin := g_spec_KeepsOrder.L0 K j list N ((i + 1 : Nat) : Int) g.1 g.2 cs t u q5 q6 q7 q8 q9 steps) (fun j' f hf => by
              rw [g_spec_KeepsOrder.L1_s]
              unfold g_spec_KeepsOrder.F1
              obtain ⟨b, hb1, hb2, _⟩ := checks (i / 2) (i % 2) f (by omega)
              simp only [ix_lt hf, cond_true, e4, Option.bind_some, e1, e2, e3, l22From_eq (K := K) (list := list) _ hK hL h4, SentFrom_spec (K := K) (list := list) hK hL, hb2, rb, next16 hf h16]
              cases b
              · exact .inr ⟨fun h => by simpa using hb1.2 h, by simp only [Bool.not_false, cond_true]⟩
              · exact .inl ⟨hb1.1 rfl, by simp only [Bool.not_true, cond_false]⟩) (fun j' => by
              rw [g_spec_KeepsOrder.L1_s]
              unfold g_spec_KeepsOrder.F1
              simp only [ix_ge, cond_false, Option.bind_some, ix_next (show i < 4611686018427387904 by omega)]) K 0 (Nat.zero_le _) (by omega) with ⟨h5, h6⟩ | ⟨h5, h6⟩
          · exact .inl ⟨h5, h6⟩
          · exact .inr ⟨h5, h6⟩) (fun j => by
        rw [g_spec_KeepsOrder.L0_s]
        unfold g_spec_KeepsOrder.F0
        simp only [a2, ix_ge, cond_false]) K 0 (Nat.zero_le _) (by omega) with ⟨h1, h2⟩ | ⟨h1, h2⟩
    · exact ⟨true, h2, by simp only [true_iff]; exact h1⟩
    · exact ⟨false, h2, by simp only [Bool.false_eq_true, false_iff]; exact h1⟩
  have him : Ans (g_impl_KeepsOrder.L0 K K list q9.length 0 g.1 g.2 cs t u q5 q6 q7 q8 q9 steps) (∀ a, 0 ≤ a → a < N → ∀ c, 0 ≤ c → c < 2 → ∀ f, 0 ≤ f → f < N → ordered K ((g, cs), (t, u), q5, q6, q7, q8, q9, steps) list a c f) := by
    rw [l9]
    rcases loop_all (L := fun j i => g_impl_KeepsOrder.L0 K j list N i g.1 g.2 cs t u q5 q6 q7 q8 q9 steps) (n := N) (Q := fun a => ∀ c, 0 ≤ c → c < 2 → ∀ f, 0 ≤ f → f < N → ordered K ((g, cs), (t, u), q5, q6, q7, q8, q9, steps) list a c f) (stop := rb false) (fin := rb true) (fun j a ha => by
        rw [g_impl_KeepsOrder.L0_s]
        unfold g_impl_KeepsOrder.F0
        simp only [ix_lt ha, cond_true]
        rcases loop_all (L := fun j' c => g_impl_KeepsOrder.L1 K (g_impl_KeepsOrder.L0 K j) j' list a N a c g.1 g.2 cs t u q5 q6 q7 q8 q9 steps) (n := 2) (Q := fun c => ∀ f, 0 ≤ f → f < N → ordered K ((g, cs), (t, u), q5, q6, q7, q8, q9, steps) list a c f) (stop := rb false) (fin := g_impl_KeepsOrder.L0 K j list N ((a + 1 : Nat) : Int) g.1 g.2 cs t u q5 q6 q7 q8 q9 steps) (fun j' c hc => by
            rw [g_impl_KeepsOrder.L1_s]
            unfold g_impl_KeepsOrder.F1
            obtain ⟨r, _, h2, h3, h4⟩ := arr_spec (K := K) (q5 := q5) (q6 := q6) (q7 := q7) (q8 := q8) (q9 := q9) (steps := steps) (m := (g, cs)) (tu := (t, u)) hK (a := a) (by omega) c (B9 a)
            have e1 : decide ((c : Int) < 2) = true := decide_eq_true (by omega)
            simp only [e1, cond_true, pe, h2, Option.bind_some, h3]
            rcases loop_all (L := fun j2 f => g_impl_KeepsOrder.L2 K (g_impl_KeepsOrder.L0 K j) (g_impl_KeepsOrder.L1 K (g_impl_KeepsOrder.L0 K j) j') j2 list a c (arr K ((g, cs), (t, u), q5, q6, q7, q8, q9, steps) a c) N a c q9.length f g.1 g.2 cs t u q5 q6 q7 q8 q9 steps) (n := N) (Q := fun f => ordered K ((g, cs), (t, u), q5, q6, q7, q8, q9, steps) list a c f) (stop := rb false) (fin := g_impl_KeepsOrder.L1 K (g_impl_KeepsOrder.L0 K j) j' list a N a ((c + 1 : Nat) : Int) g.1 g.2 cs t u q5 q6 q7 q8 q9 steps) (fun j2 f hf => by
                rw [g_impl_KeepsOrder.L2_s]
                unfold g_impl_KeepsOrder.F2
                obtain ⟨b, hb1, _, hb2⟩ := checks a c f ha
                rw [l9]
                simp only [ix_lt hf, cond_true, Option.bind_some, sentAmong_eq (K := K) (list := list) _ hK hL h4, SentFrom_eq (K := K) (list := list) hK hL, hb2, rb, next16 hf h16]
                cases b
                · exact .inr ⟨fun h => by simpa using hb1.2 h, by simp only [Bool.not_false, cond_true]⟩
                · exact .inl ⟨hb1.1 rfl, by simp only [Bool.not_true, cond_false]⟩) (fun j2 => by
                rw [g_impl_KeepsOrder.L2_s]
                unfold g_impl_KeepsOrder.F2
                rw [l9]
                simp only [ix_ge, cond_false, ix_next (show c < 4611686018427387904 by omega)]) K 0 (Nat.zero_le _) (by omega) with ⟨h5, h6⟩ | ⟨h5, h6⟩
            · exact .inl ⟨h5, h6⟩
            · exact .inr ⟨h5, h6⟩) (fun j' => by
            rw [g_impl_KeepsOrder.L1_s]
            unfold g_impl_KeepsOrder.F1
            have e1 : decide (((2 : Nat) : Int) < 2) = false := by decide
            simp only [e1, cond_false, next16 ha h16]) K 0 (Nat.zero_le _) (by omega) with ⟨h5, h6⟩ | ⟨h5, h6⟩
        · exact .inl ⟨h5, h6⟩
        · exact .inr ⟨h5, h6⟩) (fun j => by
        rw [g_impl_KeepsOrder.L0_s]
        unfold g_impl_KeepsOrder.F0
        simp only [ix_ge, cond_false]) K 0 (Nat.zero_le _) (by omega) with ⟨h1, h2⟩ | ⟨h1, h2⟩
    · exact ⟨true, h2, by simp only [true_iff]; exact h1⟩
    · exact ⟨false, h2, by simp only [Bool.false_eq_true, false_iff]; exact h1⟩
  refine hsp.same (him.iff ⟨fun h i _ hi f _ hf => h (i / 2) (Nat.zero_le _) (by omega) (i % 2) (Nat.zero_le _) (by omega) f (Nat.zero_le _) hf, fun h a _ ha c _ hc f _ hf => ?_⟩)
  have := h (2 * a + c) (Nat.zero_le _) (by omega) f (Nat.zero_le _) hf
  rw [show (2 * a + c) / 2 = a by omega, show (2 * a + c) % 2 = c by omega] at this
  exact this
end

end Go.Proofs.Ytdgnmbhnilidlaa
