/- Plain laws: chips; copies and comparisons. -/
import Derived.Test.YtdgnmbhnilidlaaPL6
import Derived.Test.YtdgnmbhnilidlaaAbsP
set_option linter.unusedVariables false
set_option linter.unusedSimpArgs false
namespace Go.Proofs.Ytdgnmbhnilidlaa
open Go Go.Proofs.Ytdgnmbhnilidlaa.Ab

theorem PacketOk_total (K : Nat) (g : Int × Int) (p : PK) : ∃ b, g_impl_PacketOk.m K g p = rb b := by
  unfold g_impl_PacketOk.m
  simp only [inside_eq, isNode_eq, rb, Option.bind_some]
  cases decide (In p.1 1 9999) <;> cases decide (isNode g p.2.1) <;> cases decide (isNode g p.2.2.1) <;> cases (p.2.1 != p.2.2.1) <;> cases decide (In p.2.2.2.1 0 1) <;> cases decide (In p.2.2.2.2 1 5) <;>
    simp only [cond_true, cond_false, Option.bind_some] <;> exact ⟨_, rfl⟩

section
variable {K : Nat} {g : Int × Int} {cs t u : List Int} {q5 : List (List FL)} {q6 q7 : List Int} {q8 q9 : List (List FL)} {steps : Int} {list : List PK}

theorem ChipOk_both (B : Lens K cs t u q5 q6 q7 q8) (B9 : ∀ i, (q9.getD i []).length ≤ 1048576) (hL : list.length ≤ 1048576) :
    ∃ b, g_spec_ChipOk.m K (((g, cs), (t, u), q5, q6, q7, q8, q9, steps), list) = rb b ∧ g_impl_ChipOk.m K (((g, cs), (t, u), q5, q6, q7, q8, q9, steps), list) = rb b := by
  have hK := B.bk
  unfold g_spec_ChipOk.m g_impl_ChipOk.m
  obtain ⟨b, e, e'⟩ := (NetOk_spec (g := g) (q9 := q9) (steps := steps) B).same (NetOk_impl (g := g) (q9 := q9) (steps := steps) B)
  simp only [e, e', rb, Option.bind_some]
  cases b
  · simp only [Bool.not_false, cond_true, Option.bind_some]; exact ⟨false, rfl, rfl⟩
  simp only [Bool.not_true, cond_false, Option.bind_some]
  cases decide ((list.length : Int) > 200)
  rotate_left
  · simp only [cond_true]; exact ⟨false, rfl, rfl⟩
  simp only [cond_false]
  obtain ⟨b, k1, k2⟩ := KeepsOrder_both (g := g) (q9 := q9) (steps := steps) (list := list) B B9 hL
  let Q : Nat → Prop := fun i => g_impl_PacketOk.m K g (list.getD i p0) = rb true ∧ (list.getD i p0).1 = ((i + 1 : Nat) : Int)
  have h1 := loop_all (L := fun j i => g_spec_ChipOk.L0 K j i g.1 g.2 cs t u q5 q6 q7 q8 q9 steps list) (n := list.length) (Q := Q) (stop := rb false) (fin := rb b) (fun j i hi => by
      rw [g_spec_ChipOk.L0_s]
      unfold g_spec_ChipOk.F0
      obtain ⟨b, hb⟩ := PacketOk_total K g (list.getD i p0)
      simp only [ix_lt hi, ix_0, Bool.true_and, cond_true, Int.toNat_natCast, pe, PacketOk_same, hb, rb, Option.bind_some, ix_next (show i < 4611686018427387904 by omega)]
      cases b
      · exact .inr ⟨fun h => (by have := h.1; rw [hb] at this; cases this), by simp only [Bool.not_false, cond_true]⟩
      · by_cases h : (list.getD i p0).1 = ((i + 1 : Nat) : Int)
        · exact .inl ⟨⟨hb, h⟩, by simp only [Bool.not_true, cond_false, show ((list.getD i p0).1 != ((i + 1 : Nat) : Int)) = false by simpa using h]⟩
        · exact .inr ⟨fun h' => h h'.2, by simp only [Bool.not_true, cond_false, show ((list.getD i p0).1 != ((i + 1 : Nat) : Int)) = true by simpa using h, cond_true]⟩) (fun j => by
      rw [g_spec_ChipOk.L0_s]
      unfold g_spec_ChipOk.F0
      simp only [ix_ge, cond_false, pe, k1, rb, Option.bind_some]) K 0 (Nat.zero_le _) (by omega)
  have h2 := loop_all (L := fun j i => g_impl_ChipOk.L0 K j list list.length i g.1 g.2 cs t u q5 q6 q7 q8 q9 steps list) (n := list.length) (Q := Q) (stop := rb false) (fin := rb b) (fun j i hi => by
      rw [g_impl_ChipOk.L0_s]
      unfold g_impl_ChipOk.F0
      obtain ⟨b, hb⟩ := PacketOk_total K g (list.getD i p0)
      simp only [ix_lt hi, ix_0, Bool.true_and, cond_true, Int.toNat_natCast, pe, hb, rb, Option.bind_some, ix_next (show i < 4611686018427387904 by omega)]
      cases b
      · exact .inr ⟨fun h => (by have := h.1; rw [hb] at this; cases this), by simp only [Bool.not_false, cond_true, Option.bind_some]⟩
      · by_cases h : (list.getD i p0).1 = ((i + 1 : Nat) : Int)
        · exact .inl ⟨⟨hb, h⟩, by simp only [Bool.not_true, cond_false, Option.bind_some, show ((list.getD i p0).1 != ((i + 1 : Nat) : Int)) = false by simpa using h]⟩
        · exact .inr ⟨fun h' => h h'.2, by simp only [Bool.not_true, cond_false, Option.bind_some, show ((list.getD i p0).1 != ((i + 1 : Nat) : Int)) = true by simpa using h, cond_true]⟩) (fun j => by
      rw [g_impl_ChipOk.L0_s]
      unfold g_impl_ChipOk.F0
      simp only [ix_ge, cond_false, pe, k2, rb, Option.bind_some]) K 0 (Nat.zero_le _) (by omega)
  rcases h1 with ⟨h3, h4⟩ | ⟨h3, h4⟩
  · rcases h2 with ⟨h5, h6⟩ | ⟨h5, h6⟩
    · exact ⟨b, h4, h6⟩
    · exact absurd h3 h5
  · rcases h2 with ⟨h5, h6⟩ | ⟨h5, h6⟩
    · exact absurd h5 h3
    · exact ⟨false, h4, h6⟩
end

/-! ### Copies -/
theorem set_step {α : Type} {l : List α} {d z : α} {i : Nat} (h : i < l.length) : (l.take i ++ List.replicate (l.length - i) z).set i (l.getD i d) = l.take (i + 1) ++ List.replicate (l.length - (i + 1)) z := by
  rw [take_step (d := d) h, show l.length - i = (l.length - (i + 1)) + 1 by omega, List.replicate_succ, List.set_append, if_neg (by simp; omega)]
  rw [show i - (l.take i).length = 0 by simp; omega]
  simp

theorem copy_loop {α : Type} {R : Type} {L : Nat → List α → Int → Option R} {l : List α} {d z : α} {fin : List α → Option R}
    (h : ∀ j out (i : Nat), i < l.length → out.length = l.length → L (j + 1) out i = L j (out.set i (l.getD i d)) ((i + 1 : Nat) : Int)) (hf : ∀ j out, L (j + 1) out l.length = fin out) :
    ∀ j i, i ≤ l.length → l.length - i < j → L j (l.take i ++ List.replicate (l.length - i) z) i = fin l := by
  intro j
  induction j with
  | zero => intro i _ hj; omega
  | succ j ih =>
    intro i hi hj
    by_cases hin : i < l.length
    · rw [h j _ i hin (by simp; omega), set_step hin]
      exact ih (i + 1) hin (by omega)
    · have : i = l.length := by omega
      subst this
      rw [hf]
      simp

section
variable {K : Nat}

theorem toIntS_eq {l : List Int} (hK : 1048576 < K) (hN : l.length ≤ 1048576) : g_laws_toIntS.m K l = some ((l, ()), ()) := by
  unfold g_laws_toIntS.m
  have e1 : decide (((l.length : Int) * 8) ≤ 140737488355328) = true := decide_eq_true (by omega)
  simp only [ix_0, e1, Bool.and_self, cond_true, Int.toNat_natCast]
  have := copy_loop (L := fun j out i => g_laws_toIntS.L0 K j l out i) (l := l) (d := 0) (z := 0) (fin := fun out => some ((out, ()), ())) (fun j out i hi ho => by
      rw [g_laws_toIntS.L0_s]
      unfold g_laws_toIntS.F0
      have ho' : i < out.length := by omega
      simp only [ix_lt hi, ix_lt ho', ix_0, Bool.true_and, cond_true, Int.toNat_natCast, ix_next (show i < 4611686018427387904 by omega)]) (fun j out => by
      rw [g_laws_toIntS.L0_s]
      unfold g_laws_toIntS.F0
      simp only [ix_ge, cond_false]) K 0 (Nat.zero_le _) (by omega)
  simpa using this

theorem toFlitS_eq {l : List FL} (hK : 1048576 < K) (hN : l.length ≤ 1048576) : g_laws_toFlitS.m K l = some ((l, ()), ()) := by
  unfold g_laws_toFlitS.m
  have e1 : decide (((l.length : Int) * 32) ≤ 140737488355328) = true := decide_eq_true (by omega)
  simp only [ix_0, e1, Bool.and_self, cond_true, Int.toNat_natCast]
  have := copy_loop (L := fun j out i => g_laws_toFlitS.L0 K j l out i) (l := l) (d := f0) (z := f0) (fin := fun out => some ((out, ()), ())) (fun j out i hi ho => by
      rw [g_laws_toFlitS.L0_s]
      unfold g_laws_toFlitS.F0 g_laws_toFlit.m
      have ho' : i < out.length := by omega
      simp only [ix_lt hi, ix_lt ho', ix_0, Bool.true_and, cond_true, Int.toNat_natCast, Option.bind_some, ix_next (show i < 4611686018427387904 by omega)]) (fun j out => by
      rw [g_laws_toFlitS.L0_s]
      unfold g_laws_toFlitS.F0
      simp only [ix_ge, cond_false]) K 0 (Nat.zero_le _) (by omega)
  simpa using this

theorem toFlitSS_eq {l : List (List FL)} (hK : 1048576 < K) (hN : l.length ≤ 1048576) (hI : ∀ i, (l.getD i []).length ≤ 1048576) : g_laws_toFlitSS.m K l = some ((l, ()), ()) := by
  unfold g_laws_toFlitSS.m
  have e1 : decide (((l.length : Int) * 24) ≤ 140737488355328) = true := decide_eq_true (by omega)
  simp only [ix_0, e1, Bool.and_self, cond_true, Int.toNat_natCast]
  have := copy_loop (L := fun j out i => g_laws_toFlitSS.L0 K j l out i) (l := l) (d := []) (z := []) (fin := fun out => some ((out, ()), ())) (fun j out i hi ho => by
      rw [g_laws_toFlitSS.L0_s]
      unfold g_laws_toFlitSS.F0
      have ho' : i < out.length := by omega
      simp only [ix_lt hi, ix_lt ho', ix_0, Bool.true_and, cond_true, Int.toNat_natCast, toFlitS_eq hK (hI i), Option.bind_some, ix_next (show i < 4611686018427387904 by omega)]) (fun j out => by
      rw [g_laws_toFlitSS.L0_s]
      unfold g_laws_toFlitSS.F0
      simp only [ix_ge, cond_false]) K 0 (Nat.zero_le _) (by omega)
  simpa using this

theorem toPacketS_eq {l : List PK} (hK : 1048576 < K) (hN : l.length ≤ 1048576) : g_laws_toPacketS.m K l = some ((l, ()), ()) := by
  unfold g_laws_toPacketS.m
  have e1 : decide (((l.length : Int) * 40) ≤ 140737488355328) = true := decide_eq_true (by omega)
  simp only [ix_0, e1, Bool.and_self, cond_true, Int.toNat_natCast]
  have := copy_loop (L := fun j out i => g_laws_toPacketS.L0 K j l out i) (l := l) (d := p0) (z := p0) (fin := fun out => some ((out, ()), ())) (fun j out i hi ho => by
      rw [g_laws_toPacketS.L0_s]
      unfold g_laws_toPacketS.F0 g_laws_toPacket.m
      have ho' : i < out.length := by omega
      simp only [ix_lt hi, ix_lt ho', ix_0, Bool.true_and, cond_true, Int.toNat_natCast, Option.bind_some, ix_next (show i < 4611686018427387904 by omega)]) (fun j out => by
      rw [g_laws_toPacketS.L0_s]
      unfold g_laws_toPacketS.F0
      simp only [ix_ge, cond_false]) K 0 (Nat.zero_le _) (by omega)
  simpa using this

/-! ### Comparisons with oneself -/
theorem eqIntS_self {l : List Int} (hK : 1048576 < K) (hN : l.length ≤ 1048576) : g_laws_eqIntS.m K l l = rb true := by
  unfold g_laws_eqIntS.m
  simp only [bne_nat.2 rfl, cond_false]
  rcases loop_all (L := fun j i => g_laws_eqIntS.L0 K j l l i) (n := l.length) (Q := fun _ => True) (stop := rb false) (fin := rb true) (fun j i hi => by
      rw [g_laws_eqIntS.L0_s]
      unfold g_laws_eqIntS.F0
      simp only [ix_lt hi, ix_0, Bool.true_and, cond_true, Int.toNat_natCast, bne_self_eq_false, cond_false, ix_next (show i < 4611686018427387904 by omega)]
      exact .inl ⟨trivial, by trivial⟩) (fun j => by
      rw [g_laws_eqIntS.L0_s]
      unfold g_laws_eqIntS.F0
      simp only [ix_ge, cond_false]) K 0 (Nat.zero_le _) (by omega) with ⟨_, h⟩ | ⟨h, _⟩
  · exact h
  · exact absurd (fun _ _ _ => trivial) h

theorem eqFlit_self (f : FL) : g_laws_eqFlit.m K f f = rb true := by
  unfold g_laws_eqFlit.m
  simp only [bne_self_eq_false, beq_self_eq_true, Bool.not_true, cond_false]

theorem eqFlitS_self {l : List FL} (hK : 1048576 < K) (hN : l.length ≤ 1048576) : g_laws_eqFlitS.m K l l = rb true := by
  unfold g_laws_eqFlitS.m
  simp only [bne_nat.2 rfl, cond_false]
  rcases loop_all (L := fun j i => g_laws_eqFlitS.L0 K j l l i) (n := l.length) (Q := fun _ => True) (stop := rb false) (fin := rb true) (fun j i hi => by
      rw [g_laws_eqFlitS.L0_s]
      unfold g_laws_eqFlitS.F0
      simp only [ix_lt hi, ix_0, Bool.true_and, cond_true, Int.toNat_natCast, eqFlit_self, rb, Option.bind_some, Bool.not_true, cond_false, ix_next (show i < 4611686018427387904 by omega)]
      exact .inl ⟨trivial, by trivial⟩) (fun j => by
      rw [g_laws_eqFlitS.L0_s]
      unfold g_laws_eqFlitS.F0
      simp only [ix_ge, cond_false]) K 0 (Nat.zero_le _) (by omega) with ⟨_, h⟩ | ⟨h, _⟩
  · exact h
  · exact absurd (fun _ _ _ => trivial) h

theorem eqFlitSS_self {l : List (List FL)} (hK : 1048576 < K) (hN : l.length ≤ 1048576) (hI : ∀ i, (l.getD i []).length ≤ 1048576) : g_laws_eqFlitSS.m K l l = rb true := by
  unfold g_laws_eqFlitSS.m
  simp only [bne_nat.2 rfl, cond_false]
  rcases loop_all (L := fun j i => g_laws_eqFlitSS.L0 K j l l i) (n := l.length) (Q := fun _ => True) (stop := rb false) (fin := rb true) (fun j i hi => by
      rw [g_laws_eqFlitSS.L0_s]
      unfold g_laws_eqFlitSS.F0
      simp only [ix_lt hi, ix_0, Bool.true_and, cond_true, Int.toNat_natCast, eqFlitS_self hK (hI i), rb, Option.bind_some, Bool.not_true, cond_false, ix_next (show i < 4611686018427387904 by omega)]
      exact .inl ⟨trivial, by trivial⟩) (fun j => by
      rw [g_laws_eqFlitSS.L0_s]
      unfold g_laws_eqFlitSS.F0
      simp only [ix_ge, cond_false]) K 0 (Nat.zero_le _) (by omega) with ⟨_, h⟩ | ⟨h, _⟩
  · exact h
  · exact absurd (fun _ _ _ => trivial) h

theorem eqPacket_self (f : PK) : g_laws_eqPacket.m K f f = rb true := by
  unfold g_laws_eqPacket.m
  simp only [bne_self_eq_false, cond_false]

theorem eqPacketS_self {l : List PK} (hK : 1048576 < K) (hN : l.length ≤ 1048576) : g_laws_eqPacketS.m K l l = rb true := by
  unfold g_laws_eqPacketS.m
  simp only [bne_nat.2 rfl, cond_false]
  rcases loop_all (L := fun j i => g_laws_eqPacketS.L0 K j l l i) (n := l.length) (Q := fun _ => True) (stop := rb false) (fin := rb true) (fun j i hi => by
      rw [g_laws_eqPacketS.L0_s]
      unfold g_laws_eqPacketS.F0
      simp only [ix_lt hi, ix_0, Bool.true_and, cond_true, Int.toNat_natCast, eqPacket_self, rb, Option.bind_some, Bool.not_true, cond_false, ix_next (show i < 4611686018427387904 by omega)]
      exact .inl ⟨trivial, by trivial⟩) (fun j => by
      rw [g_laws_eqPacketS.L0_s]
      unfold g_laws_eqPacketS.F0
      simp only [ix_ge, cond_false]) K 0 (Nat.zero_le _) (by omega) with ⟨_, h⟩ | ⟨h, _⟩
  · exact h
  · exact absurd (fun _ _ _ => trivial) h

/-! ### How much there is -/
theorem szIntS_total (l : List Int) (n : Int) : ∃ r, g_laws_szIntS.m K l n = some ((r, ()), ()) := by
  unfold g_laws_szIntS.m
  cases decide (w64 (n - (l.length : Int)) < 0) <;> exact ⟨_, rfl⟩
theorem szFlitS_total (l : List FL) (n : Int) : ∃ r, g_laws_szFlitS.m K l n = some ((r, ()), ()) := by
  unfold g_laws_szFlitS.m
  cases decide (w64 (n - (l.length : Int)) < 0) <;> exact ⟨_, rfl⟩
theorem szPacketS_total (l : List PK) (n : Int) : ∃ r, g_laws_szPacketS.m K l n = some ((r, ()), ()) := by
  unfold g_laws_szPacketS.m
  cases decide (w64 (n - (l.length : Int)) < 0) <;> exact ⟨_, rfl⟩
theorem szFlitSS_total {l : List (List FL)} (hK : 1048576 < K) (hN : l.length ≤ 1048576) (n : Int) : ∃ r, g_laws_szFlitSS.m K l n = some ((r, ()), ()) := by
  unfold g_laws_szFlitSS.m
  have key : ∀ j i (n : Int), i ≤ l.length → l.length - i < j → ∃ r, g_laws_szFlitSS.L0 K j l n (i : Nat) = some ((r, ()), ()) := by
    intro j
    induction j with
    | zero => intro i n _ hj; omega
    | succ j ih =>
      intro i n hi hj
      rw [g_laws_szFlitSS.L0_s]
      unfold g_laws_szFlitSS.F0
      by_cases hin : i < l.length
      · obtain ⟨r, hr⟩ := szFlitS_total (K := K) (l.getD i []) n
        simp only [ix_lt hin, ix_0, Bool.true_and, cond_true, Int.toNat_natCast, hr, Option.bind_some, ix_next (show i < 4611686018427387904 by omega)]
        cases decide (r < 0)
        · exact ih (i + 1) r hin (by omega)
        · exact ⟨_, rfl⟩
      · have : i = l.length := by omega
        subst this
        simp only [ix_ge, cond_false]
        exact ⟨_, rfl⟩
  cases decide (w64 (n - (l.length : Int)) < 0)
  · exact key K 0 _ (Nat.zero_le _) (by omega)
  · exact ⟨_, rfl⟩
end

end Go.Proofs.Ytdgnmbhnilidlaa
