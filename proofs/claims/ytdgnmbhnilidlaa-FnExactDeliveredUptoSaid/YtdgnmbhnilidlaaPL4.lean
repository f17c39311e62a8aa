/- Plain laws: flits, networks, packets. -/
import Derived.Test.YtdgnmbhnilidlaaPL3
set_option linter.unusedVariables false
set_option linter.unusedSimpArgs false
namespace Go.Proofs.Ytdgnmbhnilidlaa
open Go Go.Proofs.Ytdgnmbhnilidlaa.Ab

abbrev FL := Int × Int × Int × Bool × Bool
abbrev f0 : FL := (0, 0, 0, false, false)

theorem all_getD {α : Type} {l : List α} {d : α} {P : α → Prop} : (∀ x ∈ l, P x) ↔ ∀ t, 0 ≤ t → t < l.length → P (l.getD t d) := by
  constructor
  · intro h t _ ht
    rw [List.getD_eq_getElem?_getD, List.getElem?_eq_getElem ht]
    exact h _ (List.getElem_mem ht)
  · intro h x hx
    obtain ⟨i, hi, rfl⟩ := List.getElem_of_mem hx
    have := h i (Nat.zero_le _) hi
    rw [List.getD_eq_getElem?_getD, List.getElem?_eq_getElem hi] at this
    exact this

def flitsOk (g : Int × Int) (l : List FL) : Prop := ∀ t, 0 ≤ t → t < l.length → isNode g (l.getD t f0).2.1 ∧ In (l.getD t f0).2.2.1 0 1

section
variable {K : Nat} {g : Int × Int}

theorem Flits_spec {l : List FL} (hK : l.length < K) (hN : l.length ≤ 1048576) : Ans (g_spec_l15Flits.m K g l) (flitsOk g l) := by
  unfold g_spec_l15Flits.m flitsOk
  rcases loop_all (L := fun j i => g_spec_l15Flits.L0 K j l i g.1 g.2) (n := l.length) (Q := fun t => isNode g (l.getD t f0).2.1 ∧ In (l.getD t f0).2.2.1 0 1) (stop := rb false) (fin := rb true) (fun j i hi => by
      rw [g_spec_l15Flits.L0_s]
      unfold g_spec_l15Flits.F0
      simp only [ix_lt hi, ix_0, Bool.true_and, cond_true, Int.toNat_natCast, pe, isNode_spec, isNode_eq, l01In_eq, rb, Option.bind_some, ix_next (show i < 4611686018427387904 by omega)]
      by_cases h1 : isNode g (l.getD i f0).2.1
      · by_cases h2 : In (l.getD i f0).2.2.1 0 1
        · exact .inl ⟨⟨h1, h2⟩, by simp only [h1, h2, decide_true, Bool.not_true, cond_false]⟩
        · exact .inr ⟨fun h => h2 h.2, by simp only [h1, h2, decide_true, decide_false, Bool.not_true, Bool.not_false, cond_false, cond_true]⟩
      · exact .inr ⟨fun h => h1 h.1, by simp only [h1, decide_false, Bool.not_false, cond_true]⟩) (fun j => by
      rw [g_spec_l15Flits.L0_s]
      unfold g_spec_l15Flits.F0
      simp only [ix_ge, cond_false]) K 0 (Nat.zero_le _) (by omega) with ⟨h1, h2⟩ | ⟨h1, h2⟩
  · exact ⟨true, h2, by simp only [true_iff]; exact h1⟩
  · exact ⟨false, h2, by simp only [Bool.false_eq_true, false_iff]; exact h1⟩

theorem Flits_impl {l : List FL} (hK : l.length < K) (hN : l.length ≤ 1048576) : Ans (g_impl_areFlits.m K g l) (flitsOk g l) := by
  unfold g_impl_areFlits.m flitsOk
  rcases loop_all (L := fun j i => g_impl_areFlits.L0 K j l l.length i g.1 g.2) (n := l.length) (Q := fun t => isNode g (l.getD t f0).2.1 ∧ In (l.getD t f0).2.2.1 0 1) (stop := rb false) (fin := rb true) (fun j i hi => by
      rw [g_impl_areFlits.L0_s]
      unfold g_impl_areFlits.F0
      simp only [ix_lt hi, ix_0, Bool.true_and, cond_true, Int.toNat_natCast, pe, isNode_eq, inside_eq, rb, Option.bind_some, ix_next (show i < 4611686018427387904 by omega)]
      by_cases h1 : isNode g (l.getD i f0).2.1
      · by_cases h2 : In (l.getD i f0).2.2.1 0 1
        · exact .inl ⟨⟨h1, h2⟩, by simp only [h1, h2, decide_true, Bool.not_true, cond_false, Option.bind_some]⟩
        · exact .inr ⟨fun h => h2 h.2, by simp only [h1, h2, decide_true, decide_false, Bool.not_true, Bool.not_false, cond_false, cond_true, Option.bind_some]⟩
      · exact .inr ⟨fun h => h1 h.1, by simp only [h1, decide_false, Bool.not_false, cond_true, Option.bind_some]⟩) (fun j => by
      rw [g_impl_areFlits.L0_s]
      unfold g_impl_areFlits.F0
      simp only [ix_ge, cond_false]) K 0 (Nat.zero_le _) (by omega) with ⟨h1, h2⟩ | ⟨h1, h2⟩
  · exact ⟨true, h2, by simp only [true_iff]; exact h1⟩
  · exact ⟨false, h2, by simp only [Bool.false_eq_true, false_iff]; exact h1⟩

theorem areInside_ans {l : List Int} {lo hi : Int} (hK : l.length < K) (hN : l.length ≤ 1048576) : Ans (g_impl_areInside.m K l lo hi) (∀ t, 0 ≤ t → t < l.length → In (l.getD t 0) lo hi) := by
  unfold g_impl_areInside.m
  rcases loop_all (L := fun j i => g_impl_areInside.L0 K j lo hi l l.length i) (n := l.length) (Q := fun t => In (l.getD t 0) lo hi) (stop := rb false) (fin := rb true) (fun j i hi' => by
      rw [g_impl_areInside.L0_s]
      unfold g_impl_areInside.F0
      simp only [ix_lt hi', ix_0, Bool.true_and, cond_true, Int.toNat_natCast, inside_eq, rb, Option.bind_some, ix_next (show i < 4611686018427387904 by omega)]
      by_cases h1 : In (l.getD i 0) lo hi
      · exact .inl ⟨h1, by simp only [h1, decide_true, Bool.not_true, cond_false]⟩
      · exact .inr ⟨h1, by simp only [h1, decide_false, Bool.not_false, cond_true]⟩) (fun j => by
      rw [g_impl_areInside.L0_s]
      unfold g_impl_areInside.F0
      simp only [ix_ge, cond_false]) K 0 (Nat.zero_le _) (by omega) with ⟨h1, h2⟩ | ⟨h1, h2⟩
  · exact ⟨true, h2, by simp only [true_iff]; exact h1⟩
  · exact ⟨false, h2, by simp only [Bool.false_eq_true, false_iff]; exact h1⟩

/-- Take one more element of a list that is gone through. -/
theorem take_step {α : Type} {l : List α} {d : α} {i : Nat} (h : i < l.length) : l.take (i + 1) = l.take i ++ [l.getD i d] := by
  rw [List.take_succ_eq_append_getElem h, List.getD_eq_getElem?_getD, List.getElem?_eq_getElem h]
  rfl

theorem bne_nat {a b : Nat} : (((a : Int) != (b : Int)) = false) ↔ a = b := by simp; omega

def ofClass (c : Int) (l : List FL) : List FL := l.filter fun f => f.2.2.1 == c

theorem ClassOnly_eq {l : List FL} (c : Int) (hK : l.length < K) (hN : l.length ≤ 1048576) : g_impl_ClassOnly.m K l c = some ((ofClass c l, ()), ()) := by
  unfold g_impl_ClassOnly.m
  have key : ∀ j i, i ≤ l.length → l.length - i < j → g_impl_ClassOnly.L0 K j c (ofClass c (l.take i)) l l.length (i : Nat) = some ((ofClass c l, ()), ()) := by
    intro j
    induction j with
    | zero => intro i _ hj; omega
    | succ j ih =>
      intro i hi hj
      rw [g_impl_ClassOnly.L0_s]
      unfold g_impl_ClassOnly.F0
      by_cases hin : i < l.length
      · have hs : ofClass c (l.take (i + 1)) = ofClass c (l.take i) ++ ofClass c [l.getD i f0] := by
          rw [take_step (d := f0) hin]; simp [ofClass]
        have hlen : (ofClass c (l.take i)).length ≤ i := by
          refine Nat.le_trans (List.length_filter_le _ _) ?_
          rw [List.length_take]; omega
        have e9 : Nat.ble (((ofClass c (l.take i)).length + 1) * 32) 140737488355328 = true := by rw [Nat.ble_eq]; omega
        simp only [ix_lt hin, ix_0, Bool.true_and, cond_true, Int.toNat_natCast, ix_next (show i < 4611686018427387904 by omega), e9]
        have := ih (i + 1) hin (by omega)
        rw [hs] at this
        by_cases h : (l.getD i f0).2.2.1 = c
        · have e1 : ((l.getD i f0).2.2.1 == c) = true := by simpa using h
          simp only [e1, cond_true]
          rw [show ofClass c [l.getD i f0] = [l.getD i f0] by simp only [ofClass, List.filter_cons, e1, List.filter_nil, if_true]] at this
          exact this
        · have e1 : ((l.getD i f0).2.2.1 == c) = false := by simpa using h
          simp only [e1, cond_false]
          rw [show ofClass c [l.getD i f0] = [] by simp only [ofClass, List.filter_cons, e1, List.filter_nil, Bool.false_eq_true, if_false], List.append_nil] at this
          exact this
      · have : i = l.length := by omega
        subst this
        simp only [ix_ge, cond_false, List.take_length]
  exact key K 0 (Nat.zero_le _) (by omega)

theorem ClassOnly_len {l : List FL} (c : Int) : ((((ofClass c l).length : Int) != (l.length : Int)) = false) ↔ ∀ t, 0 ≤ t → t < l.length → (l.getD t f0).2.2.1 = c := by
  rw [← all_getD (P := fun f : FL => f.2.2.1 = c)]
  unfold ofClass
  constructor
  · intro h
    have h1 : (l.filter fun f => f.2.2.1 == c).length = l.length := bne_nat.1 h
    intro x hx
    have := List.length_filter_eq_length_iff.1 h1 x hx
    simpa using this
  · intro h
    have : (l.filter fun f => f.2.2.1 == c).length = l.length := List.length_filter_eq_length_iff.2 fun x hx => by simpa using h x hx
    exact bne_nat.2 this
end

/-! ### Networks -/
abbrev NET := ((Int × Int) × List Int) × ((List Int) × List Int) × (List (List FL)) × (List Int) × (List Int) × (List (List FL)) × (List (List FL)) × Int

structure Lens (K : Nat) (cs t u : List Int) (q5 : List (List FL)) (q6 q7 : List Int) (q8 : List (List FL)) : Prop where
  bk : 1048576 < K
  bcs : cs.length ≤ 1048576
  bt : t.length ≤ 1048576
  bu : u.length ≤ 1048576
  b5 : q5.length ≤ 1048576
  b6 : q6.length ≤ 1048576
  b7 : q7.length ≤ 1048576
  b8 : q8.length ≤ 1048576
  i5 : ∀ i, (q5.getD i []).length ≤ 1048576
  i8 : ∀ i, (q8.getD i []).length ≤ 1048576

def buf1 (g : Int × Int) (q6 : List Int) (i : Nat) (l : List FL) : Prop :=
  l.length ≤ 3 ∧ flitsOk g l ∧ In (q6.getD i 0) (-1) 4 ∧ ∀ t, 0 ≤ t → t < l.length → (l.getD t f0).2.2.1 = (i : Int).tmod 2

def netOk (K : Nat) (g : Int × Int) (cs t u : List Int) (q5 : List (List FL)) (q6 q7 : List Int) (q8 q9 : List (List FL)) (steps : Int) : Prop :=
  (tableOk K (g, cs) t ∧ tableOk K (g, cs) u) ∧ (q5.length = 10 * (nodes g).toNat ∧ q6.length = 10 * (nodes g).toNat ∧ q7.length = 5 * (nodes g).toNat ∧ q8.length = (nodes g).toNat ∧ q9.length = (nodes g).toNat) ∧ In steps 0 1000000 ∧
    (∀ i, 0 ≤ i → i < 10 * (nodes g).toNat → buf1 g q6 i (q5.getD i [])) ∧ (∀ i, 0 ≤ i → i < 5 * (nodes g).toNat → In (q7.getD i 0) 0 9) ∧
    ∀ i, 0 ≤ i → i < (nodes g).toNat → (q8.getD i []).length ≤ 60 ∧ flitsOk g (q8.getD i [])

section
variable {K : Nat} {g : Int × Int} {cs t u : List Int} {q5 : List (List FL)} {q6 q7 : List Int} {q8 q9 : List (List FL)} {steps : Int} {N : Nat}

theorem NetOk_spec (B : Lens K cs t u q5 q6 q7 q8) : Ans (g_spec_NetOk.m K ((g, cs), (t, u), q5, q6, q7, q8, q9, steps)) (netOk K g cs t u q5 q6 q7 q8 q9 steps) := by
  obtain ⟨N, hN, h16⟩ := nodes_nat g
  have hK := B.bk
  have hcs := B.bcs
  unfold g_spec_NetOk.m netOk
  have a10 : w64 (10 * (N : Int)) = ((10 * N : Nat) : Int) := by rw [w64_of (by omega) (by omega)]; simp
  have a5 : w64 (5 * (N : Int)) = ((5 * N : Nat) : Int) := by rw [w64_of (by omega) (by omega)]; simp
  simp only [NodeCount_spec, NodeCount_eq, Option.bind_some, hN, a10, a5, Int.toNat_natCast, l01In_eq]
  have ne : ∀ {a b : Nat}, (((a : Int) != (b : Int)) = false) ↔ a = b := fun {a b} => by simp; omega
  have ne' : ∀ {a b : Nat}, a ≠ b → ((a : Int) != (b : Int)) = true := fun {a b} h => by simp; omega
  rcases (ClassesOk_spec (K := K) (g := g) (cs := cs) (t := t) (u := u) (by omega) (by omega) B.bcs B.bt B.bu).cases with ⟨hc, e⟩ | ⟨hc, e⟩
  rotate_left
  · simp only [e, rb, Option.bind_some, Bool.not_false, cond_true]
    exact Ans.no fun h => hc h.1
  simp only [e, rb, Option.bind_some, Bool.not_true, cond_false]
  by_cases l5 : q5.length = 10 * N
  rotate_left
  · simp only [ne' l5, cond_true, Option.bind_some]; exact Ans.no fun h => l5 h.2.1.1
  by_cases l6 : q6.length = 10 * N
  rotate_left
  · simp only [ne.2 l5, ne' l6, cond_true, cond_false, Option.bind_some]; exact Ans.no fun h => l6 h.2.1.2.1
  by_cases l7 : q7.length = 5 * N
  rotate_left
  · simp only [ne.2 l5, ne.2 l6, ne' l7, cond_true, cond_false, Option.bind_some]; exact Ans.no fun h => l7 h.2.1.2.2.1
  by_cases l8 : q8.length = N
  rotate_left
  · simp only [ne.2 l5, ne.2 l6, ne.2 l7, ne' l8, cond_true, cond_false, Option.bind_some]; exact Ans.no fun h => l8 h.2.1.2.2.2.1
  by_cases l9 : q9.length = N
  rotate_left
  · simp only [ne.2 l5, ne.2 l6, ne.2 l7, ne.2 l8, ne' l9, cond_true, cond_false, Option.bind_some]; exact Ans.no fun h => l9 h.2.1.2.2.2.2
  by_cases hs : In steps 0 1000000
  rotate_left
  · simp only [ne.2 l5, ne.2 l6, ne.2 l7, ne.2 l8, ne.2 l9, hs, decide_false, Bool.not_false, cond_true, cond_false, Option.bind_some]; exact Ans.no fun h => (by first | exact hs h.2.2.1 | exact h.2.2.1)
  simp only [ne.2 l5, ne.2 l6, ne.2 l7, ne.2 l8, ne.2 l9, hs, decide_true, Bool.not_true, cond_false, Option.bind_some]
  -- the third loop
  have h3 : Ans (g_spec_NetOk.L3 K K N 0 g.1 g.2 cs t u q5 q6 q7 q8 q9 steps) (∀ i, 0 ≤ i → i < N → (q8.getD i []).length ≤ 60 ∧ flitsOk g (q8.getD i [])) := by
    rcases loop_all (L := fun j i => g_spec_NetOk.L3 K j N i g.1 g.2 cs t u q5 q6 q7 q8 q9 steps) (n := N) (Q := fun i => (q8.getD i []).length ≤ 60 ∧ flitsOk g (q8.getD i [])) (stop := rb false) (fin := rb true) (fun j i hi => by
        rw [g_spec_NetOk.L3_s]
        unfold g_spec_NetOk.F3
        have hi8 : i < q8.length := by omega
        simp only [ix_lt hi, ix_lt hi8, ix_0, Bool.true_and, cond_true, Int.toNat_natCast, pe, next16 hi h16]
        by_cases h60 : (q8.getD i []).length ≤ 60
        · have e1 : decide (((q8.getD i []).length : Int) > 60) = false := decide_eq_false (by omega)
          simp only [e1, cond_false]
          rcases (Flits_spec (K := K) (g := g) (l := q8.getD i []) (by have := B.i8 i; omega) (B.i8 i)).cases with ⟨h1, e2⟩ | ⟨h1, e2⟩
          · exact .inl ⟨⟨h60, h1⟩, by simp only [e2, rb, Option.bind_some, Bool.not_true, cond_false]⟩
          · exact .inr ⟨fun h => h1 h.2, by simp only [e2, rb, Option.bind_some, Bool.not_false, cond_true]⟩
        · have e1 : decide (((q8.getD i []).length : Int) > 60) = true := decide_eq_true (by omega)
          exact .inr ⟨fun h => h60 h.1, by simp only [e1, cond_true]⟩) (fun j => by
        rw [g_spec_NetOk.L3_s]
        unfold g_spec_NetOk.F3
        simp only [ix_ge, cond_false]) K 0 (Nat.zero_le _) (by omega) with ⟨h1, h2⟩ | ⟨h1, h2⟩
    · exact ⟨true, h2, by simp only [true_iff]; exact h1⟩
    · exact ⟨false, h2, by simp only [Bool.false_eq_true, false_iff]; exact h1⟩
  -- the second loop
  have h2 : Ans (g_spec_NetOk.L2 K K N 0 g.1 g.2 cs t u q5 q6 q7 q8 q9 steps) ((∀ i, 0 ≤ i → i < 5 * N → In (q7.getD i 0) 0 9) ∧ ∀ i, 0 ≤ i → i < N → (q8.getD i []).length ≤ 60 ∧ flitsOk g (q8.getD i [])) := by
    rcases loop_all (L := fun j i => g_spec_NetOk.L2 K j N i g.1 g.2 cs t u q5 q6 q7 q8 q9 steps) (n := 5 * N) (Q := fun i => In (q7.getD i 0) 0 9) (stop := rb false) (fin := g_spec_NetOk.L3 K K N 0 g.1 g.2 cs t u q5 q6 q7 q8 q9 steps) (fun j i hi => by
        rw [g_spec_NetOk.L2_s]
        unfold g_spec_NetOk.F2
        have hi7 : i < q7.length := by omega
        simp only [a5, ix_lt hi, ix_lt hi7, ix_0, Bool.true_and, cond_true, Int.toNat_natCast, ix_next (show i < 4611686018427387904 by omega), l01In_eq, rb, Option.bind_some]
        by_cases h1 : In (q7.getD i 0) 0 9
        · exact .inl ⟨h1, by simp only [h1, decide_true, Bool.not_true, cond_false]⟩
        · exact .inr ⟨h1, by simp only [h1, decide_false, Bool.not_false, cond_true]⟩) (fun j => by
        rw [g_spec_NetOk.L2_s]
        unfold g_spec_NetOk.F2
        simp only [a5, ix_ge, cond_false]) K 0 (Nat.zero_le _) (by omega) with ⟨h1, h2⟩ | ⟨h1, h2⟩
    · obtain ⟨b, hb1, hb2⟩ := h3
      exact ⟨b, h2.trans hb1, hb2.trans ⟨fun h => ⟨h1, h⟩, fun h => h.2⟩⟩
    · exact ⟨false, h2, by simp only [Bool.false_eq_true, false_iff]; exact fun h => h1 h.1⟩
  -- the first, with the one within
  rcases loop_all (L := fun j i => g_spec_NetOk.L0 K j N i g.1 g.2 cs t u q5 q6 q7 q8 q9 steps) (n := 10 * N) (Q := fun i => buf1 g q6 i (q5.getD i [])) (stop := rb false) (fin := g_spec_NetOk.L2 K K N 0 g.1 g.2 cs t u q5 q6 q7 q8 q9 steps) (fun j i hi => by
      rw [g_spec_NetOk.L0_s]
      unfold g_spec_NetOk.F0
      have hi5 : i < q5.length := by omega
      have hi6 : i < q6.length := by omega
      have hq := B.i5 i
      simp only [a10, ix_lt hi, ix_lt hi5, ix_lt hi6, ix_0, Bool.true_and, cond_true, Int.toNat_natCast, pe]
      unfold buf1
      by_cases h3 : (q5.getD i []).length ≤ 3
      · have e1 : decide (((q5.getD i []).length : Int) > 3) = false := decide_eq_false (by omega)
        rcases (Flits_spec (K := K) (g := g) (l := q5.getD i []) (by omega) (by omega)).cases with ⟨h1, e2⟩ | ⟨h1, e2⟩
        · by_cases h6 : In (q6.getD i 0) (-1) 4
          · simp only [e1, cond_false, e2, l01In_eq, rb, Option.bind_some, h6, decide_true, Bool.not_true]
            rcases loop_all (L := fun j' x => g_spec_NetOk.L1 K (g_spec_NetOk.L0 K j) j' N i (q5.getD i []) x g.1 g.2 cs t u q5 q6 q7 q8 q9 steps) (n := (q5.getD i []).length) (Q := fun x => ((q5.getD i []).getD x f0).2.2.1 = (i : Int).tmod 2) (stop := rb false) (fin := g_spec_NetOk.L0 K j N ((i + 1 : Nat) : Int) g.1 g.2 cs t u q5 q6 q7 q8 q9 steps) (fun j' x hx => by
                rw [g_spec_NetOk.L1_s]
                unfold g_spec_NetOk.F1
                simp only [ix_lt hx, ix_0, Bool.true_and, cond_true, Int.toNat_natCast, ix_next (show x < 4611686018427387904 by omega)]
                by_cases h : ((q5.getD i []).getD x f0).2.2.1 = (i : Int).tmod 2
                · exact .inl ⟨h, by simp only [show (((q5.getD i []).getD x f0).2.2.1 != (i : Int).tmod 2) = false by simpa using h, cond_false]⟩
                · exact .inr ⟨h, by simp only [show (((q5.getD i []).getD x f0).2.2.1 != (i : Int).tmod 2) = true by simpa using h, cond_true]⟩) (fun j' => by
                rw [g_spec_NetOk.L1_s]
                unfold g_spec_NetOk.F1
                simp only [ix_ge, cond_false, ix_next (show i < 4611686018427387904 by omega)]) K 0 (Nat.zero_le _) (by omega) with ⟨h7, h8⟩ | ⟨h7, h8⟩
            · exact .inl ⟨⟨h3, h1, (by first | exact h6 | trivial), h7⟩, h8⟩
            · exact .inr ⟨fun h => h7 h.2.2.2, h8⟩
          · exact .inr ⟨fun h => h6 h.2.2.1, by simp only [e1, cond_false, e2, l01In_eq, rb, Option.bind_some, h6, decide_false, Bool.not_true, Bool.not_false, cond_true]⟩
        · exact .inr ⟨fun h => h1 h.2.1, by simp only [e1, cond_false, e2, rb, Option.bind_some, Bool.not_false, cond_true]⟩
      · have e1 : decide (((q5.getD i []).length : Int) > 3) = true := decide_eq_true (by omega)
        exact .inr ⟨fun h => h3 h.1, by simp only [e1, cond_true, Option.bind_some]⟩) (fun j => by
      rw [g_spec_NetOk.L0_s]
      unfold g_spec_NetOk.F0
      simp only [a10, ix_ge, cond_false]) K 0 (Nat.zero_le _) (by omega) with ⟨h1, h4⟩ | ⟨h1, h4⟩
  · obtain ⟨b, hb1, hb2⟩ := h2
    exact ⟨b, h4.trans hb1, hb2.trans ⟨fun h => ⟨hc, ⟨l5, l6, l7, l8, l9⟩, (by first | exact hs | trivial), h1, h.1, h.2⟩, fun h => ⟨h.2.2.2.2.1, h.2.2.2.2.2⟩⟩⟩
  · exact ⟨false, h4, by simp only [Bool.false_eq_true, false_iff]; exact fun h => h1 h.2.2.2.1⟩

theorem NetOk_impl (B : Lens K cs t u q5 q6 q7 q8) : Ans (g_impl_NetOk.m K ((g, cs), (t, u), q5, q6, q7, q8, q9, steps)) (netOk K g cs t u q5 q6 q7 q8 q9 steps) := by
  obtain ⟨N, hN, h16⟩ := nodes_nat g
  have hK := B.bk
  have hcs := B.bcs
  unfold g_impl_NetOk.m netOk
  have a10 : w64 (10 * (N : Int)) = ((10 * N : Nat) : Int) := by rw [w64_of (by omega) (by omega)]; simp
  have a5 : w64 (5 * (N : Int)) = ((5 * N : Nat) : Int) := by rw [w64_of (by omega) (by omega)]; simp
  simp only [NodeCount_eq, Option.bind_some, hN, a10, a5, Int.toNat_natCast]
  have ne : ∀ {a b : Nat}, (((a : Int) != (b : Int)) = false) ↔ a = b := fun {a b} => by simp; omega
  have ne' : ∀ {a b : Nat}, a ≠ b → ((a : Int) != (b : Int)) = true := fun {a b} h => by simp; omega
  rcases (ClassesOk_impl (K := K) (g := g) (cs := cs) (t := t) (u := u) (by omega) (by omega) B.bcs B.bt B.bu).cases with ⟨hc, e⟩ | ⟨hc, e⟩
  rotate_left
  · simp only [e, rb, Option.bind_some, Bool.not_false, cond_true]
    exact Ans.no fun h => hc h.1
  simp only [e, rb, Option.bind_some, Bool.not_true, cond_false]
  by_cases l5 : q5.length = 10 * N
  rotate_left
  · simp only [ne' l5, cond_true, Option.bind_some]; exact Ans.no fun h => l5 h.2.1.1
  by_cases l6 : q6.length = 10 * N
  rotate_left
  · simp only [ne.2 l5, ne' l6, cond_true, cond_false, Option.bind_some]; exact Ans.no fun h => l6 h.2.1.2.1
  by_cases l7 : q7.length = 5 * N
  rotate_left
  · simp only [ne.2 l5, ne.2 l6, ne' l7, cond_true, cond_false, Option.bind_some]; exact Ans.no fun h => l7 h.2.1.2.2.1
  by_cases l8 : q8.length = N
  rotate_left
  · simp only [ne.2 l5, ne.2 l6, ne.2 l7, ne' l8, cond_true, cond_false, Option.bind_some]; exact Ans.no fun h => l8 h.2.1.2.2.2.1
  by_cases l9 : q9.length = N
  rotate_left
  · simp only [ne.2 l5, ne.2 l6, ne.2 l7, ne.2 l8, ne' l9, cond_true, cond_false, Option.bind_some]; exact Ans.no fun h => l9 h.2.1.2.2.2.2
  simp only [ne.2 l5, ne.2 l6, ne.2 l7, ne.2 l8, ne.2 l9, cond_false, Option.bind_some]
  -- what stands at the end
  have h4 : Ans (Option.bind ((g_impl_areInside.m K q6 (-1) 4).bind fun r8 => bif r8.1.1 then (g_impl_areInside.m K q7 0 9).bind fun r9 => bif r9.1.1 then (g_impl_inside.m K steps 0 1000000).bind fun r10 => some r10.1.1 else some false else some false) fun b11 => some ((b11, ()), ()))
      ((∀ i, 0 ≤ i → i < 10 * N → In (q6.getD i 0) (-1) 4) ∧ (∀ i, 0 ≤ i → i < 5 * N → In (q7.getD i 0) 0 9) ∧ In steps 0 1000000) := by
    have h6 := areInside_ans (K := K) (l := q6) (lo := -1) (hi := 4) (by have := B.b6; omega) B.b6
    have h7 := areInside_ans (K := K) (l := q7) (lo := 0) (hi := 9) (by have := B.b7; omega) B.b7
    rw [l6] at h6
    rw [l7] at h7
    rcases h6.cases with ⟨h1, e1⟩ | ⟨h1, e1⟩
    · rcases h7.cases with ⟨h2, e2⟩ | ⟨h2, e2⟩
      · simp only [e1, e2, rb, Option.bind_some, cond_true, inside_eq]
        exact Ans.mk' (by simp only [decide_eq_true_eq]; exact ⟨fun h => ⟨h1, h2, h⟩, fun h => h.2.2⟩)
      · simp only [e1, e2, rb, Option.bind_some, cond_true, cond_false]
        exact Ans.no fun h => h2 h.2.1
    · simp only [e1, rb, Option.bind_some, cond_false]
      exact Ans.no fun h => h1 h.1
  -- the second loop
  have h3 : Ans (g_impl_NetOk.L1 K K q8 q8.length 0 g.1 g.2 cs t u q5 q6 q7 q8 q9 steps) ((∀ i, 0 ≤ i → i < N → (q8.getD i []).length ≤ 60 ∧ flitsOk g (q8.getD i [])) ∧
      ((∀ i, 0 ≤ i → i < 10 * N → In (q6.getD i 0) (-1) 4) ∧ (∀ i, 0 ≤ i → i < 5 * N → In (q7.getD i 0) 0 9) ∧ In steps 0 1000000)) := by
    rcases loop_all (L := fun j i => g_impl_NetOk.L1 K j q8 q8.length i g.1 g.2 cs t u q5 q6 q7 q8 q9 steps) (n := N) (Q := fun i => (q8.getD i []).length ≤ 60 ∧ flitsOk g (q8.getD i [])) (stop := rb false) (fin := (Option.bind ((g_impl_areInside.m K q6 (-1) 4).bind fun r8 => bif r8.1.1 then (g_impl_areInside.m K q7 0 9).bind fun r9 => bif r9.1.1 then (g_impl_inside.m K steps 0 1000000).bind fun r10 => some r10.1.1 else some false else some false) fun b11 => some ((b11, ()), ()))) (fun j i hi => by
        rw [g_impl_NetOk.L1_s]
        unfold g_impl_NetOk.F1
        have hi8 : i < q8.length := by omega
        simp only [ix_lt hi8, ix_0, Bool.true_and, cond_true, Int.toNat_natCast, pe, next16 hi h16]
        by_cases h60 : (q8.getD i []).length ≤ 60
        · have e1 : decide (((q8.getD i []).length : Int) > 60) = false := decide_eq_false (by omega)
          simp only [e1, cond_false]
          rcases (Flits_impl (K := K) (g := g) (l := q8.getD i []) (by have := B.i8 i; omega) (B.i8 i)).cases with ⟨h1, e2⟩ | ⟨h1, e2⟩
          · exact .inl ⟨⟨h60, h1⟩, by simp only [e2, rb, Option.bind_some, Bool.not_true, cond_false]⟩
          · exact .inr ⟨fun h => h1 h.2, by simp only [e2, rb, Option.bind_some, Bool.not_false, cond_true]⟩
        · have e1 : decide (((q8.getD i []).length : Int) > 60) = true := decide_eq_true (by omega)
          exact .inr ⟨fun h => h60 h.1, by simp only [e1, cond_true, Option.bind_some]⟩) (fun j => by
        rw [g_impl_NetOk.L1_s]
        unfold g_impl_NetOk.F1
        rw [l8]
        simp only [ix_ge, cond_false]) K 0 (Nat.zero_le _) (by omega) with ⟨h1, h2⟩ | ⟨h1, h2⟩
    · obtain ⟨b, hb1, hb2⟩ := h4
      exact ⟨b, h2.trans hb1, hb2.trans ⟨fun h => ⟨h1, h⟩, fun h => h.2⟩⟩
    · exact ⟨false, h2, by simp only [Bool.false_eq_true, false_iff]; exact fun h => h1 h.1⟩
  -- the first
  rcases loop_all (L := fun j i => g_impl_NetOk.L0 K j q5 q5.length i g.1 g.2 cs t u q5 q6 q7 q8 q9 steps) (n := 10 * N) (Q := fun i => (q5.getD i []).length ≤ 3 ∧ flitsOk g (q5.getD i []) ∧ ∀ t, 0 ≤ t → t < (q5.getD i []).length → ((q5.getD i []).getD t f0).2.2.1 = (i : Int).tmod 2) (stop := rb false) (fin := g_impl_NetOk.L1 K K q8 q8.length 0 g.1 g.2 cs t u q5 q6 q7 q8 q9 steps) (fun j i hi => by
      rw [g_impl_NetOk.L0_s]
      unfold g_impl_NetOk.F0
      have hi5 : i < q5.length := by omega
      have hq := B.i5 i
      simp only [ix_lt hi5, ix_0, Bool.true_and, cond_true, Int.toNat_natCast, pe, ix_next (show i < 4611686018427387904 by omega), ClassOnly_eq (K := K) (l := q5.getD i []) _ (by omega) hq, Option.bind_some]
      by_cases h3 : (q5.getD i []).length ≤ 3
      · have e1 : decide (((q5.getD i []).length : Int) > 3) = false := decide_eq_false (by omega)
        by_cases h6 : ∀ t, 0 ≤ t → t < (q5.getD i []).length → ((q5.getD i []).getD t f0).2.2.1 = (i : Int).tmod 2
        · have e6 := (ClassOnly_len (l := q5.getD i []) ((i : Int).tmod 2)).2 h6
          rcases (Flits_impl (K := K) (g := g) (l := q5.getD i []) (by omega) (by omega)).cases with ⟨h1, e2⟩ | ⟨h1, e2⟩
          · exact .inl ⟨⟨h3, h1, h6⟩, by simp only [e1, cond_false, e6, e2, rb, Option.bind_some, Bool.not_true]⟩
          · exact .inr ⟨fun h => h1 h.2.1, by simp only [e1, cond_false, e6, e2, rb, Option.bind_some, Bool.not_false, cond_true]⟩
        · have e6 : (((ofClass ((i : Int).tmod 2) (q5.getD i [])).length : Int) != ((q5.getD i []).length : Int)) = true := by
            cases he : (((ofClass ((i : Int).tmod 2) (q5.getD i [])).length : Int) != ((q5.getD i []).length : Int)) with
            | true => rfl
            | false => exact absurd ((ClassOnly_len (l := q5.getD i []) ((i : Int).tmod 2)).1 he) h6
          exact .inr ⟨fun h => h6 h.2.2, by simp only [e1, cond_false, e6, cond_true]⟩
      · have e1 : decide (((q5.getD i []).length : Int) > 3) = true := decide_eq_true (by omega)
        exact .inr ⟨fun h => h3 h.1, by simp only [e1, cond_true]⟩) (fun j => by
      rw [g_impl_NetOk.L0_s]
      unfold g_impl_NetOk.F0
      rw [l5]
      simp only [ix_ge, cond_false]) K 0 (Nat.zero_le _) (by omega) with ⟨h1, h2⟩ | ⟨h1, h2⟩
  · obtain ⟨b, hb1, hb2⟩ := h3
    refine ⟨b, h2.trans hb1, hb2.trans ⟨fun h => ⟨hc, ⟨l5, l6, l7, l8, l9⟩, h.2.2.2, fun i hi hi' => ?_, h.2.2.1, h.1⟩, fun h => ⟨h.2.2.2.2.2, fun i hi hi' => (h.2.2.2.1 i hi hi').2.2.1, h.2.2.2.2.1, h.2.2.1⟩⟩⟩
    obtain ⟨k1, k2, k3⟩ := h1 i hi hi'
    exact ⟨k1, k2, h.2.1 i hi hi', k3⟩
  · exact ⟨false, h2, by simp only [Bool.false_eq_true, false_iff]; exact fun h => h1 fun i hi hi' => ⟨(h.2.2.2.1 i hi hi').1, (h.2.2.2.1 i hi hi').2.1, (h.2.2.2.1 i hi hi').2.2.2⟩⟩
end

end Go.Proofs.Ytdgnmbhnilidlaa
