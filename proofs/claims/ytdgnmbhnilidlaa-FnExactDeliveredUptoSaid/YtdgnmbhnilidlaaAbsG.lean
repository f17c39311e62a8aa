/- Memory: reading typed data out of cells, letting go of rows, new blocks, changes of one's own. -/
import Derived.Test.YtdgnmbhnilidlaaAbsF
set_option linter.unusedVariables false
set_option linter.unusedSimpArgs false
set_option linter.unusedSectionVars false
namespace Go.Proofs.Ytdgnmbhnilidlaa.Ab
open Go Go.RowKit

section
variable {P : Program} {R : Type}
variable {w0 : World} {S0 : Nat → Prop} {st : St} {rho : Nat → Value} {a : Act} {w : World} {B : Nat} {hp : List Blk}

/-- Where trees may lead to, and the rows of these handles besides. -/
def SpOf (B : Nat) (S0 : Nat → Prop) (hp : List Blk) (rho : Nat → Value) (w : World) (hs : List Nat) (b : Nat) : Prop :=
  Sof B S0 hp rho w b ∨ ∃ h, h ∈ hs ∧ liveAt hp h ∧ blkOf (rho h) = some b

theorem cast_some {t u : Ty} {x : t.den} {y : u.den} (h : Ty.cast t u x = some y) : ∃ e : t = u, y = e ▸ x := by
  unfold Ty.cast at h
  split at h
  · rename_i e
    exact ⟨e, by simpa using h.symm⟩
  · cases h

theorem rdC_sound (H : HInv B S0 hp rho w) {t : Ty} {c : CV} {x : t.den} (h : rdC hp t c = some x) {v : Value} (hv : CVR w (Sof B S0 hp rho w) hp rho c v) {hs : List Nat} (hh : ∀ g, g ∈ ownsC c → g ∈ hs) :
    Rep w (SpOf B S0 hp rho w hs) t x [v] := by
  have up : ∀ {t : Ty} {x : t.den} {cs : List Value}, Rep w (Sof B S0 hp rho w) t x cs → Rep w (SpOf B S0 hp rho w hs) t x cs := fun k => Rep_mono (fun b hb => .inl hb) (fun _ _ => rfl) k
  unfold rdC at h
  split at h
  · rename_i u y
    obtain ⟨e, rfl⟩ := cast_some h
    subst e
    exact up hv.2
  · rename_i t'
    simp only [Option.some.injEq] at h
    subst h
    have h2 : v = .slice none 0 0 := hv.2
    subst h2
    simp only [Rep]
    exact ⟨none, 0, rfl, Nat.le_refl _, Nat.zero_le _, fun h0 => absurd rfl h0⟩
  · rename_i g
    split at h
    · rename_i e u xs hrow
      obtain ⟨e', rfl⟩ := cast_some h
      subst e'
      have h2 := hv.2.2 _ _ _ hrow
      subst h2
      obtain ⟨us, hown, hl, hrep⟩ := H.blk _ _ hrow
      obtain ⟨A, cap, hs', hle⟩ := own_shape hown
      simp only [Rep]
      refine ⟨A, cap, by rw [hs'], hle, hl, fun hne => ?_⟩
      have hpos : 0 < xs.length := List.length_pos_iff.2 hne
      obtain ⟨g', cap', hsl, hgl⟩ := own_form hown hpos
      have hA : A = some ⟨g', 0, none⟩ := by rw [hsl] at hs'; cases hs'; rfl
      refine ⟨⟨g', 0, none⟩, hA, .inr ⟨g, hh g (by simp [ownsC]), ⟨_, hrow, rfl⟩, by rw [hsl]; rfl⟩, rfl, fun i hi => ⟨_, up (hrep i hi), ?_⟩⟩
      have := cellsAt_elem (w := w) (w' := w) (hsl ▸ hown) i rfl
      rw [Addr.add_lit, Nat.zero_add]
      exact this
    · cases h
  · cases h

theorem rdCs_sound (H : HInv B S0 hp rho w) : ∀ {t : Ty} {cs : List CV} {x : t.den}, rdCs hp t cs = some x → ∀ {us : List Value}, All2 (CVR w (Sof B S0 hp rho w) hp rho) cs us →
    ∀ {hs : List Nat}, (∀ g, g ∈ cs.flatMap ownsC → g ∈ hs) → Rep w (SpOf B S0 hp rho w hs) t x us
  | .pair t u, cs, x, h, us, hr, hs, hh => by
    simp only [rdCs] at h
    obtain ⟨y, hy, h1⟩ := Option.bind_eq_some_iff.1 h
    obtain ⟨z, hz, h2⟩ := Option.bind_eq_some_iff.1 h1
    simp only [Option.some.injEq] at h2
    subst h2
    have sub1 : ∀ g, g ∈ (cs.take t.size).flatMap ownsC → g ∈ hs := fun g hg => hh g (by
      rw [List.mem_flatMap] at hg ⊢
      obtain ⟨c, hc, hg⟩ := hg
      exact ⟨c, List.mem_of_mem_take hc, hg⟩)
    have sub2 : ∀ g, g ∈ (cs.drop t.size).flatMap ownsC → g ∈ hs := fun g hg => hh g (by
      rw [List.mem_flatMap] at hg ⊢
      obtain ⟨c, hc, hg⟩ := hg
      exact ⟨c, List.mem_of_mem_drop hc, hg⟩)
    simp only [Rep]
    exact ⟨us.take t.size, us.drop t.size, (List.take_append_drop _ _).symm, rdCs_sound H hy (hr.take _) sub1, rdCs_sound H hz (hr.drop _) sub2⟩
  | .int k, [c], x, h, [v], hr, hs, hh => rdC_sound H (by simpa [rdCs] using h) hr.1 (fun g hg => hh g (by simpa using hg))
  | .bool, [c], x, h, [v], hr, hs, hh => rdC_sound H (by simpa [rdCs] using h) hr.1 (fun g hg => hh g (by simpa using hg))
  | .str, [c], x, h, [v], hr, hs, hh => rdC_sound H (by simpa [rdCs] using h) hr.1 (fun g hg => hh g (by simpa using hg))
  | .sl t, [c], x, h, [v], hr, hs, hh => rdC_sound H (by simpa [rdCs] using h) hr.1 (fun g hg => hh g (by simpa using hg))
  | .int k, [c], x, h, [], hr, hs, hh => hr.elim
  | .bool, [c], x, h, [], hr, hs, hh => hr.elim
  | .str, [c], x, h, [], hr, hs, hh => hr.elim
  | .sl t, [c], x, h, [], hr, hs, hh => hr.elim
  | .int k, [c], x, h, _ :: _ :: _, hr, hs, hh => hr.2.elim
  | .bool, [c], x, h, _ :: _ :: _, hr, hs, hh => hr.2.elim
  | .str, [c], x, h, _ :: _ :: _, hr, hs, hh => hr.2.elim
  | .sl t, [c], x, h, _ :: _ :: _, hr, hs, hh => hr.2.elim
  | .int k, [], x, h, us, hr, hs, hh => by simp [rdCs] at h
  | .bool, [], x, h, us, hr, hs, hh => by simp [rdCs] at h
  | .str, [], x, h, us, hr, hs, hh => by simp [rdCs] at h
  | .sl t, [], x, h, us, hr, hs, hh => by simp [rdCs] at h
  | .int k, _ :: _ :: _, x, h, us, hr, hs, hh => by simp [rdCs] at h
  | .bool, _ :: _ :: _, x, h, us, hr, hs, hh => by simp [rdCs] at h
  | .str, _ :: _ :: _, x, h, us, hr, hs, hh => by simp [rdCs] at h
  | .sl t, _ :: _ :: _, x, h, us, hr, hs, hh => by simp [rdCs] at h

/-! ### Rows let go of -/
theorem kill_len : ∀ (hs : List Nat) (hp : List Blk), (St.kill hp hs).length = hp.length
  | [], _ => rfl
  | h :: hs, hp => by simp [St.kill, kill_len hs]

theorem kill_get : ∀ (hs : List Nat) (hp : List Blk) (g : Nat) (k : Blk), (St.kill hp hs)[g]? = some k → k.live = true → hp[g]? = some k ∧ g ∉ hs
  | [], hp, g, k, h, _ => ⟨h, by simp⟩
  | h :: hs, hp, g, k, hk, hl => by
    simp only [St.kill] at hk
    obtain ⟨h1, h2⟩ := kill_get hs _ g k hk hl
    rw [List.getElem?_set] at h1
    split at h1
    · split at h1
      · simp only [Option.some.injEq] at h1; subst h1; simp [Blk.live] at hl
      · cases h1
    · rename_i hne
      exact ⟨h1, by simp only [List.mem_cons, not_or]; exact ⟨fun e => hne e.symm, h2⟩⟩

theorem kill_live {hs : List Nat} {g : Nat} (h : liveAt (St.kill hp hs) g) : liveAt hp g ∧ g ∉ hs := by
  obtain ⟨k, hk, hl⟩ := h
  obtain ⟨h1, h2⟩ := kill_get hs hp g k hk hl
  exact ⟨⟨k, h1, hl⟩, h2⟩

theorem kill_sub (H : HInv B S0 hp rho w) (hs : List Nat) : ∀ b, SpOf B S0 hp rho w hs b → Sof B S0 (St.kill hp hs) rho w b := by
  intro b hb
  rcases hb with hb | ⟨h, hm, hl, hb⟩
  · exact ⟨hb.1, hb.2.1, fun g hg => hb.2.2 g (kill_live hg).1⟩
  · obtain ⟨k, hk, hkl⟩ := hl
    obtain ⟨h1, h2⟩ := BlkR_block hkl (H.blk _ _ hk) hb
    refine ⟨.inr h1, h2, fun g hg he => ?_⟩
    obtain ⟨hgl, hgn⟩ := kill_live hg
    have := H.dist g h b hgl ⟨k, hk, hkl⟩ he hb
    subst this
    exact hgn hm

theorem kill_chg (H : HInv B S0 hp rho w) (hs : List Nat) : Chg (Sof B S0 hp rho w) hp rho w (Sof B S0 (St.kill hp hs) rho w) (St.kill hp hs) rho w where
  sub b hb := kill_sub H hs b (.inl hb)
  agree _ _ := rfl
  len := by rw [kill_len]; exact Nat.le_refl _
  same g k' _ hk' hl := ⟨k', (kill_get hs hp g k' hk' hl).1, sameKind_refl hl, rfl⟩

theorem kill_inv (H : HInv B S0 hp rho w) (hs : List Nat) : HInv B S0 (St.kill hp hs) rho w where
  blk g k hk := by
    by_cases hl : k.live = true
    · exact BlkR_chg (kill_chg H hs) rfl (fun _ _ => rfl) (H.blk g k (kill_get hs hp g k hk hl).1)
    · cases k <;> first | exact trivial | exact absurd rfl hl
  dist g g' b hg hg' h1 h2 := H.dist g g' b (kill_live hg).1 (kill_live hg').1 h1 h2

theorem InvR.kill (I : InvR w0 S0 st rho a w) (hs : List Nat) : InvR w0 S0 ⟨st.fr, St.kill st.hp hs⟩ rho a w where
  s0 := I.s0
  below := I.below
  heap := kill_inv I.heap hs
  fr i v hv := by
    obtain ⟨u, hu, hr⟩ := I.fr i v hv
    exact ⟨u, hu, AVR_chg (kill_chg I.heap hs) hr⟩
  len := I.len
  dfr := I.dfr

/-! ### The frame -/
theorem InvR.put (I : InvR w0 S0 st rho a w) (dst : Option Tmp) {av : AV} {v : Value} (hv : AVR w (Sof w0.heap.size S0 st.hp rho w) st.hp rho av v) : InvR w0 S0 (st.put dst av) rho (a.put dst v) w := by
  cases dst with
  | none => exact I
  | some d =>
    refine ⟨I.s0, I.below, I.heap, fun i u hu => ?_, by simp [St.put, Act.put, I.len], I.dfr⟩
    simp only [St.put, List.getElem?_set] at hu
    simp only [Act.put]
    by_cases hd : d = i
    · subst hd
      rw [if_pos rfl] at hu
      split at hu
      · rename_i hlt
        simp only [Option.some.injEq] at hu
        subst hu
        exact ⟨v, by rw [Array.getElem?_setIfInBounds_self_of_lt (by rw [I.len]; exact hlt)], hv⟩
      · cases hu
    · rw [if_neg hd] at hu
      obtain ⟨u', hu', hr⟩ := I.fr i u hu
      exact ⟨u', by rw [Array.getElem?_setIfInBounds_ne hd]; exact hu', hr⟩

/-- A change of the blocks, the frame as it was. -/
theorem InvR.step (I : InvR w0 S0 st rho a w) {hp' : List Blk} {rho' : Nat → Value} {w' : World}
    (C : Chg (Sof w0.heap.size S0 st.hp rho w) st.hp rho w (Sof w0.heap.size S0 hp' rho' w') hp' rho' w') (HB : Below w0.heap.size w0 w') (HH : HInv w0.heap.size S0 hp' rho' w') :
    InvR w0 S0 ⟨st.fr, hp'⟩ rho' a w' where
  s0 := I.s0
  below := HB
  heap := HH
  fr i v hv := by
    obtain ⟨u, hu, hr⟩ := I.fr i v hv
    exact ⟨u, hu, AVR_chg C hr⟩
  len := I.len
  dfr := I.dfr

/-! ### New blocks -/
def bump (rho : Nat → Value) (n : Nat) (v : Value) : Nat → Value := fun h => if h = n then v else rho h

theorem live_append {hp : List Blk} {k : Blk} {h : Nat} (hl : liveAt (hp ++ [k]) h) : liveAt hp h ∨ (h = hp.length ∧ k.live = true) := by
  obtain ⟨k', hk, hkl⟩ := hl
  rw [List.getElem?_append] at hk
  split at hk
  · exact .inl ⟨k', hk, hkl⟩
  · rename_i hge
    have : h - hp.length = 0 := by
      rcases Nat.eq_zero_or_pos (h - hp.length) with h0 | h0
      · exact h0
      · rw [List.getElem?_eq_none (by simp; omega)] at hk; cases hk
    rw [this] at hk
    simp only [List.getElem?_cons_zero, Option.some.injEq] at hk
    subst hk
    exact .inr ⟨by omega, hkl⟩

theorem live_lt {hp : List Blk} {h : Nat} (hl : liveAt hp h) : h < hp.length := by
  obtain ⟨k, hk, _⟩ := hl
  exact (List.getElem?_eq_some_iff.1 hk).1

theorem bump_old {n h : Nat} {v : Value} (hn : h < n) : bump rho n v h = rho h := by
  unfold bump; rw [if_neg (by omega)]
theorem bump_new {n : Nat} {v : Value} : bump rho n v n = v := by
  unfold bump; rw [if_pos rfl]

theorem new_chg {w' : World} {k : Blk} {v : Value} (hold : ∀ b, Sof B S0 hp rho w b → w'.heap[b]? = w.heap[b]?) (hs : w.heap.size ≤ w'.heap.size) (hv : ∀ b, blkOf v = some b → ¬ Sof B S0 hp rho w b) :
    Chg (Sof B S0 hp rho w) hp rho w (Sof B S0 (hp ++ [k]) (bump rho hp.length v) w') (hp ++ [k]) (bump rho hp.length v) w' where
  sub b hb := ⟨hb.1, Nat.lt_of_lt_of_le hb.2.1 hs, fun h hl he => by
    rcases live_append hl with h1 | ⟨rfl, _⟩
    · rw [bump_old (live_lt h1)] at he; exact hb.2.2 h h1 he
    · rw [bump_new] at he; exact hv b he hb⟩
  agree b hb := hold b hb
  len := by simp
  same h k' hlt hk' hl := by
    rw [List.getElem?_append_left hlt] at hk'
    exact ⟨k', hk', sameKind_refl hl, bump_old hlt⟩

/-- One block more, its own block new or a dead one's. -/
theorem new_inv (H : HInv B S0 hp rho w) {w' : World} {k : Blk} {v : Value} (C : Chg (Sof B S0 hp rho w) hp rho w (Sof B S0 (hp ++ [k]) (bump rho hp.length v) w') (hp ++ [k]) (bump rho hp.length v) w')
    (hblk : ∀ h b, liveAt hp h → blkOf (rho h) = some b → w'.heap[b]? = w.heap[b]?) (hv : ∀ h b, liveAt hp h → blkOf (rho h) = some b → blkOf v ≠ some b)
    (hk : BlkR B S0 (hp ++ [k]) (bump rho hp.length v) w' hp.length k) : HInv B S0 (hp ++ [k]) (bump rho hp.length v) w' where
  blk h k' hk' := by
    rw [List.getElem?_append] at hk'
    split at hk'
    · rename_i hlt
      by_cases hl : k'.live = true
      · exact BlkR_chg C (bump_old hlt) (fun b hb => hblk h b ⟨k', hk', hl⟩ hb) (H.blk h k' hk')
      · cases k' <;> first | exact trivial | exact absurd rfl hl
    · rename_i hge
      have h0 : h - hp.length = 0 := by
        rcases Nat.eq_zero_or_pos (h - hp.length) with h0 | h0
        · exact h0
        · rw [List.getElem?_eq_none (by simp; omega)] at hk'; cases hk'
      rw [h0] at hk'
      simp only [List.getElem?_cons_zero, Option.some.injEq] at hk'
      subst hk'
      have : h = hp.length := by omega
      subst this
      exact hk
  dist h h' b hl hl' h1 h2 := by
    rcases live_append hl with g | ⟨rfl, _⟩ <;> rcases live_append hl' with g' | ⟨rfl, _⟩
    · rw [bump_old (live_lt g)] at h1; rw [bump_old (live_lt g')] at h2; exact H.dist h h' b g g' h1 h2
    · rw [bump_old (live_lt g)] at h1; rw [bump_new] at h2; exact absurd h2 (hv h b g h1)
    · rw [bump_new] at h1; rw [bump_old (live_lt g')] at h2; exact absurd h1 (hv h' b g' h2)
    · rfl

theorem own_lt_size (H : HInv B S0 hp rho w) {h b : Nat} (hl : liveAt hp h) (hb : blkOf (rho h) = some b) : B ≤ b ∧ b < w.heap.size := by
  obtain ⟨k, hk, hkl⟩ := hl
  exact BlkR_block hkl (H.blk _ _ hk) hb

/-- A block just made: cells in a world that has grown by it. -/
theorem InvR.fresh (I : InvR w0 S0 st rho a w) (o : Obj) (k : Blk) (v : Value) (hv : blkOf v = some w.heap.size)
    (hk : ∀ C : Chg (Sof w0.heap.size S0 st.hp rho w) st.hp rho w (Sof w0.heap.size S0 (st.hp ++ [k]) (bump rho st.hp.length v) (w.alloc o)) (st.hp ++ [k]) (bump rho st.hp.length v) (w.alloc o),
      BlkR w0.heap.size S0 (st.hp ++ [k]) (bump rho st.hp.length v) (w.alloc o) st.hp.length k) :
    InvR w0 S0 ⟨st.fr, st.hp ++ [k]⟩ (bump rho st.hp.length v) a (w.alloc o) := by
  have C := new_chg (B := w0.heap.size) (S0 := S0) (hp := st.hp) (rho := rho) (w := w) (w' := w.alloc o) (k := k) (v := v) (fun b hb => Below.heap_alloc w o b hb.2.1) (by simp)
    (fun b hb hs => by rw [hv] at hb; simp only [Option.some.injEq] at hb; subst hb; exact Nat.lt_irrefl _ hs.2.1)
  refine I.step C (I.below.alloc I.below.size o) (new_inv I.heap C (fun h b hl hb => Below.heap_alloc w o b (own_lt_size I.heap hl hb).2) (fun h b hl hb he => ?_) (hk C))
  rw [hv] at he
  simp only [Option.some.injEq] at he
  subst he
  exact Nat.lt_irrefl _ (own_lt_size I.heap hl hb).2

end
end Go.Proofs.Ytdgnmbhnilidlaa.Ab
