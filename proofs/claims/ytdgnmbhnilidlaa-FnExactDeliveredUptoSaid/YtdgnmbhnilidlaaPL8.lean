/- The plain law of FnExactChipOk. -/
import Derived.Test.YtdgnmbhnilidlaaPL7
set_option linter.unusedVariables false
set_option linter.unusedSimpArgs false
namespace Go.Proofs.Ytdgnmbhnilidlaa
open Go Go.Proofs.Ytdgnmbhnilidlaa.Ab

theorem Sz_pos : ∀ (t : Ty) (x : t.den), 1 ≤ Sz t x
  | .int _, _ => Nat.le_refl _
  | .bool, _ => Nat.le_refl _
  | .str, _ => by simp only [Sz]; omega
  | .pair a b, x => by have := Sz_pos a x.1; simp only [Sz]; omega
  | .sl _, _ => by simp only [Sz]; omega

theorem len_Sz {t : Ty} (xs : List t.den) : xs.length + 1 ≤ Sz (.sl t) xs := by
  simp only [Sz]
  have : ∀ l : List t.den, l.length ≤ (l.map (Sz t)).sum := fun l => by
    induction l with
    | nil => simp
    | cons x l ih => have := Sz_pos t x; simp only [List.length_cons, List.map_cons, List.sum_cons]; omega
  have := this xs
  omega

theorem elem_Sz {t : Ty} (xs : List t.den) (d : t.den) (i : Nat) : Sz t (xs.getD i d) ≤ Sz (.sl t) xs + Sz t d := by
  rw [List.getD_eq_getElem?_getD]
  by_cases h : i < xs.length
  · rw [List.getElem?_eq_getElem h]
    simp only [Option.getD_some, Sz]
    have : Sz t xs[i] ≤ (xs.map (Sz t)).sum := le_sum_mem (List.mem_map.2 ⟨xs[i], List.getElem_mem h, rfl⟩)
    show Sz t xs[i] ≤ (List.map (Sz t) xs).sum + 1 + Sz t d
    omega
  · rw [List.getElem?_eq_none (by omega)]
    simp

abbrev tI : Ty := .int .i64
abbrev tFL : Ty := .pair tI (.pair tI (.pair tI (.pair .bool .bool)))
abbrev tPK : Ty := .pair tI (.pair tI (.pair tI (.pair tI tI)))
abbrev tMesh : Ty := .pair (.pair tI tI) (.sl tI)
abbrev tNET : Ty := .pair tMesh (.pair (.pair (.sl tI) (.sl tI)) (.pair (.sl (.sl tFL)) (.pair (.sl tI) (.pair (.sl tI) (.pair (.sl (.sl tFL)) (.pair (.sl (.sl tFL)) tI))))))
abbrev tChip : Ty := .pair tNET (.sl tPK)

theorem inner_len {q : List (List FL)} {n : Nat} (h : Sz (.sl (.sl tFL)) q ≤ n) (i : Nat) : (q.getD i []).length ≤ n := by
  have h1 := elem_Sz (t := .sl tFL) q [] i
  have h2 := len_Sz (t := tFL) (q.getD i [])
  have h3 : Sz (.sl tFL) [] = 1 := rfl
  have h4 : (q.getD i []).length + 1 ≤ Sz (.sl tFL) (q.getD i []) := h2
  have h5 : Sz (.sl tFL) (q.getD i []) ≤ Sz (.sl (.sl tFL)) q + Sz (.sl tFL) [] := h1
  omega

structure Small (K : Nat) (x : NET × List PK) : Prop where
  lens : Lens K x.1.1.2 x.1.2.1.1 x.1.2.1.2 x.1.2.2.1 x.1.2.2.2.1 x.1.2.2.2.2.1 x.1.2.2.2.2.2.1
  q9 : x.1.2.2.2.2.2.2.1.length ≤ 1048576
  i9 : ∀ i, (x.1.2.2.2.2.2.2.1.getD i []).length ≤ 1048576
  list : x.2.length ≤ 1048576

theorem small_of {K : Nat} (hK : 1048576 < K) (x : NET × List PK) (h : Sz tChip x ≤ 1048576) : Small K x := by
  obtain ⟨⟨⟨g, cs⟩, ⟨t, u⟩, q5, q6, q7, q8, q9, steps⟩, list⟩ := x
  have h0 : Sz (.pair tI tI) g + Sz (.sl tI) cs + (Sz (.sl tI) t + Sz (.sl tI) u + (Sz (.sl (.sl tFL)) q5 + (Sz (.sl tI) q6 + (Sz (.sl tI) q7 + (Sz (.sl (.sl tFL)) q8 + (Sz (.sl (.sl tFL)) q9 + Sz tI steps)))))) + Sz (.sl tPK) list ≤ 1048576 := h
  have a1 := len_Sz (t := tI) cs
  have a2 := len_Sz (t := tI) t
  have a3 := len_Sz (t := tI) u
  have a5 := len_Sz (t := .sl tFL) q5
  have a6 := len_Sz (t := tI) q6
  have a7 := len_Sz (t := tI) q7
  have a8 := len_Sz (t := .sl tFL) q8
  have a9 := len_Sz (t := .sl tFL) q9
  have a10 := len_Sz (t := tPK) list
  refine ⟨⟨hK, ?_, ?_, ?_, ?_, ?_, ?_, ?_, fun i => inner_len (n := 1048576) ?_ i, fun i => inner_len (n := 1048576) ?_ i⟩, ?_, fun i => inner_len (n := 1048576) ?_ i, ?_⟩
  · show cs.length ≤ _; exact Nat.le_trans (Nat.le_of_succ_le a1) (by omega)
  · show t.length ≤ _; exact Nat.le_trans (Nat.le_of_succ_le a2) (by omega)
  · show u.length ≤ _; exact Nat.le_trans (Nat.le_of_succ_le a3) (by omega)
  · show q5.length ≤ _; exact Nat.le_trans (Nat.le_of_succ_le a5) (by omega)
  · show q6.length ≤ _; exact Nat.le_trans (Nat.le_of_succ_le a6) (by omega)
  · show q7.length ≤ _; exact Nat.le_trans (Nat.le_of_succ_le a7) (by omega)
  · show q8.length ≤ _; exact Nat.le_trans (Nat.le_of_succ_le a8) (by omega)
  · show Sz (.sl (.sl tFL)) q5 ≤ _; omega
  · show Sz (.sl (.sl tFL)) q8 ≤ _; omega
  · show q9.length ≤ _; exact Nat.le_trans (Nat.le_of_succ_le a9) (by omega)
  · show Sz (.sl (.sl tFL)) q9 ≤ _; omega
  · show list.length ≤ _; exact Nat.le_trans (Nat.le_of_succ_le a10) (by omega)

section
variable {K : Nat} {x : NET × List PK}

theorem toChip_eq (S : Small K x) : g_laws_toChip.m K x = some ((x.1.1.1.1, (x.1.1.1.2, (x.1.1.2, (x.1.2.1.1, (x.1.2.1.2, (x.1.2.2.1, (x.1.2.2.2.1, (x.1.2.2.2.2.1, (x.1.2.2.2.2.2.1, (x.1.2.2.2.2.2.2.1, (x.1.2.2.2.2.2.2.2, (x.2, ())))))))))))), ()) := by
  have B := S.lens
  have hK := B.bk
  unfold g_laws_toChip.m g_laws_toNet.m g_laws_toMesh.m g_laws_toClasses.m g_laws_toTable.m g_laws_toGrid.m
  simp only [toIntS_eq hK B.bcs, toIntS_eq hK B.bt, toIntS_eq hK B.bu, toIntS_eq hK B.b6, toIntS_eq hK B.b7, toFlitSS_eq hK B.b5 B.i5, toFlitSS_eq hK B.b8 B.i8, toFlitSS_eq hK S.q9 S.i9, toPacketS_eq hK S.list, Option.bind_some]

theorem eqChip_self (S : Small K x) : g_laws_eqChip.m K x x = rb true := by
  have B := S.lens
  have hK := B.bk
  unfold g_laws_eqChip.m g_laws_eqNet.m g_laws_eqMesh.m g_laws_eqClasses.m g_laws_eqTable.m g_laws_eqGrid.m
  simp only [eqIntS_self hK B.bcs, eqIntS_self hK B.bt, eqIntS_self hK B.bu, eqIntS_self hK B.b6, eqIntS_self hK B.b7, eqFlitSS_self hK B.b5 B.i5, eqFlitSS_self hK B.b8 B.i8, eqFlitSS_self hK S.q9 S.i9, eqPacketS_self hK S.list, rb, Option.bind_some, bne_self_eq_false, cond_false, Bool.not_true]

theorem szChip_total (S : Small K x) (n : Int) : ∃ r, g_laws_szChip.m K x n = some ((r, ()), ()) := by
  have B := S.lens
  have hK := B.bk
  have neg : ∀ {o : Option ((Int × Unit) × Unit)} (f : Int → Option ((Int × Unit) × Unit)), (∃ r, o = some ((r, ()), ())) → (∀ r, ∃ s, f r = some ((s, ()), ())) → ∃ s, (o.bind fun r => bif decide (r.1.1 < 0) then some (((-1 : Int), ()), ()) else f r.1.1) = some ((s, ()), ()) := by
    intro o f ⟨r, ho⟩ hf
    subst ho
    simp only [Option.bind_some]
    cases decide (r < 0)
    · exact hf r
    · exact ⟨_, rfl⟩
  have one : ∀ r : Int, ∃ s, (some ((r, ()), ()) : Option ((Int × Unit) × Unit)) = some ((s, ()), ()) := fun r => ⟨r, rfl⟩
  have mesh : ∀ n, ∃ r, g_laws_szMesh.m K x.1.1 n = some ((r, ()), ()) := fun n => neg _ (szIntS_total _ _) one
  have table : ∀ l n, ∃ r, g_laws_szTable.m K l n = some ((r, ()), ()) := fun l n => neg _ (szIntS_total _ _) one
  have classes : ∀ n, ∃ r, g_laws_szClasses.m K x.1.2.1 n = some ((r, ()), ()) := fun n => neg (fun r => (g_laws_szTable.m K x.1.2.1.2 r).bind fun r2 => bif decide (r2.1.1 < 0) then some (((-1 : Int), ()), ()) else some ((r2.1.1, ()), ())) (table _ _) fun r => neg (fun r => some ((r, ()), ())) (table _ _) one
  have net : ∃ r, g_laws_szNet.m K x.1 n = some ((r, ()), ()) := by
    unfold g_laws_szNet.m
    obtain ⟨r1, e1⟩ := mesh n
    simp only [e1, Option.bind_some]
    cases decide (r1 < 0)
    rotate_left
    · exact ⟨_, rfl⟩
    simp only [cond_false]
    obtain ⟨r2, e2⟩ := classes r1
    simp only [e2, Option.bind_some]
    cases decide (r2 < 0)
    rotate_left
    · exact ⟨_, rfl⟩
    simp only [cond_false]
    obtain ⟨r3, e3⟩ := szFlitSS_total hK B.b5 r2
    simp only [e3, Option.bind_some]
    cases decide (r3 < 0)
    rotate_left
    · exact ⟨_, rfl⟩
    simp only [cond_false]
    obtain ⟨r4, e4⟩ := szIntS_total (K := K) x.1.2.2.2.1 r3
    simp only [e4, Option.bind_some]
    cases decide (r4 < 0)
    rotate_left
    · exact ⟨_, rfl⟩
    simp only [cond_false]
    obtain ⟨r5, e5⟩ := szIntS_total (K := K) x.1.2.2.2.2.1 r4
    simp only [e5, Option.bind_some]
    cases decide (r5 < 0)
    rotate_left
    · exact ⟨_, rfl⟩
    simp only [cond_false]
    obtain ⟨r6, e6⟩ := szFlitSS_total hK B.b8 r5
    simp only [e6, Option.bind_some]
    cases decide (r6 < 0)
    rotate_left
    · exact ⟨_, rfl⟩
    simp only [cond_false]
    obtain ⟨r7, e7⟩ := szFlitSS_total hK S.q9 r6
    simp only [e7, Option.bind_some]
    cases decide (r7 < 0)
    rotate_left
    · exact ⟨_, rfl⟩
    simp only [cond_false]
    exact ⟨_, rfl⟩
  unfold g_laws_szChip.m
  obtain ⟨r1, e1⟩ := net
  simp only [e1, Option.bind_some]
  cases decide (r1 < 0)
  rotate_left
  · exact ⟨_, rfl⟩
  simp only [cond_false]
  obtain ⟨r2, e2⟩ := szPacketS_total (K := K) x.2 r1
  simp only [e2, Option.bind_some]
  cases decide (r2 < 0) <;> exact ⟨_, rfl⟩

theorem chipOk_plain (x : NET × List PK) (h : Sz tChip x ≤ 1048576) : ∃ k, g_laws_FnExactChipOk.m k x = some ((true, ()), ()) := by
  refine ⟨1048577, ?_⟩
  have S : Small 1048577 x := small_of (by omega) x h
  unfold g_laws_FnExactChipOk.m
  obtain ⟨r, hr⟩ := szChip_total S 1048576
  obtain ⟨b, h1, h2⟩ := ChipOk_both (g := x.1.1.1) (q9 := x.1.2.2.2.2.2.2.1) (steps := x.1.2.2.2.2.2.2.2) (list := x.2) S.lens S.i9 S.list
  have h1' : g_spec_ChipOk.m 1048577 x = rb b := h1
  have h2' : g_impl_ChipOk.m 1048577 x = rb b := h2
  have he := eqChip_self S
  simp only [hr, toChip_eq S, Option.bind_some]
  cases decide (r < 0)
  · simp only [cond_false]
    have e1 : (((((x.1.1.1.1, x.1.1.1.2), x.1.1.2), ((x.1.2.1.1, x.1.2.1.2), (x.1.2.2.1, (x.1.2.2.2.1, (x.1.2.2.2.2.1, (x.1.2.2.2.2.2.1, (x.1.2.2.2.2.2.2.1, x.1.2.2.2.2.2.2.2))))))), x.2) : NET × List PK) = x := rfl
    rw [e1, h1', h2', he]
    simp only [rb, Option.bind_some, beq_self_eq_true, Bool.not_true, cond_false]
  · rfl
end

end Go.Proofs.Ytdgnmbhnilidlaa
