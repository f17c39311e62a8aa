/- Calls. -/
import Derived.Test.YtdgnmbhnilidlaaAbsI
set_option linter.unusedVariables false
set_option linter.unusedSimpArgs false
set_option linter.unusedSectionVars false
namespace Go.Proofs.Ytdgnmbhnilidlaa.Ab
open Go Go.RowKit

section
variable {P : Program} {R : Type}
variable {w0 : World} {S0 : Nat → Prop} {st : St} {rho : Nat → Value} {a : Act} {w : World} {B : Nat} {hp : List Blk}

theorem withEntry_sound : ∀ {Γ : List (Entry P)} {f : FuncId} {hp : List Blk} {avs : List AV} {K : Entry P → Option R} {r : R}, withEntry Γ f hp avs K = some r → ∃ E : Entry P, E.f = f ∧ K E = some r
  | [], _, _, _, _, _, h => by cases h
  | E :: Γ, f, hp, avs, K, r, h => by
    simp only [withEntry] at h
    cases hb : (Nat.beq E.f f && (getArgs hp E.ks avs).isSome) with
    | true =>
      rw [hb] at h
      simp only [Bool.and_eq_true] at hb
      exact ⟨E, Nat.eq_of_beq_eq_true hb.1, h⟩
    | false => rw [hb] at h; exact withEntry_sound h

/-! ### Arguments -/
theorem SpOf_mono {hs hs' : List Nat} (h : ∀ g, g ∈ hs → g ∈ hs') : ∀ b, SpOf B S0 hp rho w hs b → SpOf B S0 hp rho w hs' b := fun b hb => by
  rcases hb with hb | ⟨g, h1, h2, h3⟩
  · exact .inl hb
  · exact .inr ⟨g, h g h1, h2, h3⟩

theorem rdCs_nil {hp : List Blk} : ∀ {t : Ty}, rdCs hp t [] = none
  | .int _ => rfl
  | .bool => rfl
  | .str => rfl
  | .pair a b => by simp only [rdCs, List.take_nil, rdCs_nil, Option.bind_none]
  | .sl _ => rfl

theorem cellsAt_take {A : Addr} {us : List Value} (h : cellsAt w A us) (n : Nat) : cellsAt w A (us.take n) := by
  intro j u hu
  rw [List.getElem?_take] at hu
  split at hu
  · exact h j u hu
  · cases hu

/-- A pointer to a variable, borrowed. -/
theorem borrow_ptr (H : HInv B S0 hp rho w) {g j : Nat} {t : Ty} {x : t.den} (h : rdCs hp t (boxCells hp g j t.size) = some x) {v : Value} (hv : PtrR hp rho g j v) {hs : List Nat}
    (hh : ∀ q, q ∈ (g :: boxOwns hp g) → q ∈ hs) : TP w (SpOf B S0 hp rho w hs) t x 0 v := by
  unfold boxCells at h
  split at h
  · rename_i cs hcs
    unfold boxOwns at hh
    rw [hcs] at hh
    obtain ⟨b, hb, hv⟩ := hv.2 cs hcs
    obtain ⟨b', us, T, hb', hB, hh', hall⟩ := H.blk _ _ hcs
    have : b = b' := by rw [hb] at hb'; cases hb'; rfl
    subst this
    have hr := rdCs_sound H h ((hall.drop j).take t.size) (hs := hs) (fun q hq => hh q (List.mem_cons_of_mem _ (mem_drop_owns (mem_take_owns hq))))
    refine ⟨⟨b, j, none⟩, _, by rw [Addr.add_zero']; exact hv, rfl, .inr ⟨g, hh g (by simp), ⟨_, hcs, rfl⟩, by rw [hb]; rfl⟩, hr, cellsAt_take ?_ _⟩
    have := cellsAt_drop (w := w) (A := ⟨b, 0, none⟩) rfl (cellsAt_row hh') j
    rwa [Addr.add_lit, Nat.zero_add] at this
  · rw [rdCs_nil] at h; cases h

theorem borrow_tp (H : HInv B S0 hp rho w) {u : Ty} {y : u.den} {j : Nat} {t : Ty} {x : t.den} (h : rdCs hp t (((expl u y).drop j).take t.size) = some x) {v : Value} (hv : TP w (Sof B S0 hp rho w) u y j v) {hs : List Nat} :
    TP w (SpOf B S0 hp rho w hs) t x 0 v := by
  obtain ⟨A, d, e, hsp, hS, hrep, hc⟩ := hv
  have hr := rdCs_sound H h (((expl_sound (hp := hp) (rho := rho) hrep).drop j).take t.size) (hs := hs) (fun q hq => by
    have := mem_drop_owns (mem_take_owns hq)
    rw [ownsC_expl] at this
    cases this)
  exact ⟨A.add j, _, by rw [Addr.add_zero']; exact e, Addr.add_spot _ hsp _, .inl (by rw [Addr.add_block]; exact hS), hr, cellsAt_take (cellsAt_drop hsp hc j) _⟩

theorem getCaps_sound (H : HInv B S0 hp rho w) {hs : List Nat} : ∀ {ks : List CK} {cs : List Cap} {x : CKs ks}, getCaps hp ks cs = some x → ∀ {us : List Value}, All2 (CapR w (Sof B S0 hp rho w) hp rho) cs us →
    (∀ q, q ∈ cs.flatMap (capOwns hp) → q ∈ hs) → CapsR w (SpOf B S0 hp rho w hs) ks x us
  | [], [], x, h, [], _, _ => rfl
  | [], [], x, h, _ :: _, hr, _ => hr.elim
  | [], _ :: _, x, h, _, _, _ => by simp [getCaps] at h
  | _ :: _, [], x, h, _, _, _ => by simp [getCaps] at h
  | k :: ks, c :: cs, x, h, [], hr, _ => hr.elim
  | k :: ks, c :: cs, x, h, u :: us, hr, hh => by
    simp only [getCaps] at h
    obtain ⟨y, hy, h1⟩ := Option.bind_eq_some_iff.1 h
    obtain ⟨z, hz, h2⟩ := Option.bind_eq_some_iff.1 h1
    simp only [Option.some.injEq] at h2
    subst h2
    have ih := getCaps_sound H hz hr.2 (fun q hq => hh q (by rw [List.flatMap_cons]; exact List.mem_append_right _ hq))
    have hh1 : ∀ q, q ∈ capOwns hp c → q ∈ hs := fun q hq => hh q (by rw [List.flatMap_cons]; exact List.mem_append_left _ hq)
    have hc := hr.1.2
    unfold getCap at hy
    split at hy
    · rename_i t g j
      exact ⟨u, us, rfl, borrow_ptr H hy hc hh1, ih⟩
    · rename_i t u' y' j
      exact ⟨u, us, rfl, borrow_tp H hy hc, ih⟩
    · rename_i t u' y'
      obtain ⟨e, rfl⟩ := cast_some hy
      subst e
      exact ⟨u, us, rfl, Rep_mono (fun b hb => .inl hb) (fun _ _ => rfl) hc, ih⟩
    · cases hy

theorem getArg_sound (H : HInv B S0 hp rho w) {hs : List Nat} {k : AK} {av : AV} {x : k.den} (h : getArg hp k av = some x) {v : Value} (hv : AVR w (Sof B S0 hp rho w) hp rho av v) (hh : ∀ q, q ∈ argOwns hp av → q ∈ hs) :
    ArgR w (SpOf B S0 hp rho w hs) k x v := by
  unfold getArg at h
  split at h
  · rename_i t c
    refine rdCs_sound H h (us := [v]) ⟨hv, trivial⟩ (fun q hq => hh q ?_)
    cases c <;> simp [ownsC] at hq ⊢
    subst hq
    simp [argOwns]
  · rename_i t cs
    obtain ⟨us, e, hall⟩ := hv
    exact ⟨us, e, rdCs_sound H h hall (fun q hq => hh q (by simpa [argOwns] using hq))⟩
  · rename_i t g j
    exact borrow_ptr H h hv.2 (fun q hq => hh q (by simpa [argOwns] using hq))
  · rename_i t u y j
    exact borrow_tp H h hv.2
  · rename_i fid ks g cs
    cases hb : Nat.beq g fid with
    | false => rw [hb] at h; cases h
    | true =>
      rw [hb] at h
      have := Nat.eq_of_beq_eq_true hb
      subst this
      obtain ⟨us, e, hall⟩ := hv.2
      exact ⟨us, e, getCaps_sound H h hall (fun q hq => hh q (by simpa [argOwns] using hq))⟩
  · cases h

theorem getArgs_sound (H : HInv B S0 hp rho w) {hs : List Nat} : ∀ {ks : List AK} {avs : List AV} {x : AKs ks}, getArgs hp ks avs = some x → ∀ {vs : List Value}, All2 (AVR w (Sof B S0 hp rho w) hp rho) avs vs →
    (∀ q, q ∈ avs.flatMap (argOwns hp) → q ∈ hs) → ArgsR w (SpOf B S0 hp rho w hs) ks x vs
  | [], [], x, h, [], _, _ => rfl
  | [], [], x, h, _ :: _, hr, _ => hr.elim
  | [], _ :: _, x, h, _, _, _ => by simp [getArgs] at h
  | _ :: _, [], x, h, _, _, _ => by simp [getArgs] at h
  | k :: ks, c :: cs, x, h, [], hr, _ => hr.elim
  | k :: ks, c :: cs, x, h, u :: us, hr, hh => by
    simp only [getArgs] at h
    obtain ⟨y, hy, h1⟩ := Option.bind_eq_some_iff.1 h
    obtain ⟨z, hz, h2⟩ := Option.bind_eq_some_iff.1 h1
    simp only [Option.some.injEq] at h2
    subst h2
    exact ⟨u, us, rfl, getArg_sound H hy hr.1 (fun q hq => hh q (by rw [List.flatMap_cons]; exact List.mem_append_left _ hq)),
      getArgs_sound H hz hr.2 (fun q hq => hh q (by rw [List.flatMap_cons]; exact List.mem_append_right _ hq))⟩

/-! ### Results -/
theorem cellsRK_rows : ∀ (l : List RK) (x : RKs l) (n m : Nat), (cellsRK l x n).2 = (cellsRK l x m).2
  | [], _, _, _ => rfl
  | .v t :: l, x, n, m => cellsRK_rows l x.2 n m
  | .o e t :: l, x, n, m => by simp only [cellsRK]; rw [cellsRK_rows l x.2 (n + 1) (m + 1)]

theorem cellsRes_rows : ∀ (rs : List (Bool × List RK)) (x : Res rs) (n m : Nat), (cellsRes rs x n).2 = (cellsRes rs x m).2
  | [], _, _, _ => rfl
  | (b, l) :: rs, x, n, m => by simp only [cellsRes]; rw [cellsRK_rows l x.1 n m, cellsRes_rows rs x.2 _ _]

/-- The one state's rows stand in the other's, from n on. -/
structure Shift (n : Nat) (hp1 : List Blk) (rho1 : Nat → Value) (hp2 : List Blk) (rho2 : Nat → Value) : Prop where
  get : ∀ i, i < hp1.length → hp2[n + i]? = hp1[i]?
  rho : ∀ i, i < hp1.length → rho2 (n + i) = rho1 i
  len : n + hp1.length ≤ hp2.length

section
variable {hp1 hp2 : List Blk} {rho1 rho2 : Nat → Value} {S1 S2 : Nat → Prop} {n : Nat}

theorem expl_CVR {t : Ty} {x : t.den} {us : List Value} (h : All2 (CVR w S1 hp1 rho1) (expl t x) us) : Rep w S1 t x us := by
  revert us
  induction t with
  | int k => intro us h; match us, h with | [u], h => exact h.1.2
  | bool => intro us h; match us, h with | [u], h => exact h.1.2
  | str => intro us h; match us, h with | [u], h => exact h.1.2
  | sl t _ => intro us h; match us, h with | [u], h => exact h.1.2
  | pair t u iht ihu =>
    intro us h
    simp only [expl] at h
    have e : us = us.take (expl t x.1).length ++ us.drop (expl t x.1).length := (List.take_append_drop _ _).symm
    have h1 := h.take (expl t x.1).length
    have h2 := h.drop (expl t x.1).length
    rw [List.take_left] at h1
    rw [List.drop_left] at h2
    simp only [Rep]
    exact ⟨_, _, e, iht h1, ihu h2⟩

theorem expl_move {t : Ty} {x : t.den} {us : List Value} (hS : (∀ b, S1 b → S2 b) ∨ t.flat = true) (h : All2 (CVR w S1 hp1 rho1) (expl t x) us) : All2 (CVR w S2 hp2 rho2) (expl t x) us := by
  have hr := expl_CVR h
  refine expl_sound ?_
  rcases hS with hS | hf
  · exact Rep_mono hS (fun _ _ => rfl) hr
  · exact Rep_flat hf hr

theorem cellsRK_move (Sh : Shift n hp1 rho1 hp2 rho2) : ∀ (l : List RK) (x : RKs l) (m : Nat), ((∀ b, S1 b → S2 b) ∨ l.all RK.flat = true) →
    ∀ {us : List Value}, All2 (CVR w S1 hp1 rho1) (cellsRK l x m).1 us → All2 (CVR w S2 hp2 rho2) (cellsRK l x (n + m)).1 us
  | [], _, _, _, [], h => trivial
  | [], _, _, _, _ :: _, h => h.elim
  | .v t :: l, x, m, hS, us, h => by
    simp only [cellsRK] at h ⊢
    have e : us = us.take (expl t x.1).length ++ us.drop (expl t x.1).length := (List.take_append_drop _ _).symm
    have h1 := h.take (expl t x.1).length
    have h2 := h.drop (expl t x.1).length
    rw [List.take_left] at h1
    rw [List.drop_left] at h2
    rw [e]
    refine All2.append (expl_move ?_ h1) (cellsRK_move Sh l x.2 m ?_ h2)
    · rcases hS with hS | hf
      · exact .inl hS
      · simp only [List.all_cons, Bool.and_eq_true] at hf; exact .inr hf.1
    · rcases hS with hS | hf
      · exact .inl hS
      · simp only [List.all_cons, Bool.and_eq_true] at hf; exact .inr hf.2
  | .o e t :: l, x, m, hS, us, h => by
    simp only [cellsRK] at h ⊢
    match us, h with
    | u :: us, h =>
      have hlt := h.1.2.1
      refine ⟨⟨h.1.1, by have := Sh.len; omega, fun e' t' xs' hx => ?_⟩, ?_⟩
      · rw [Sh.get m hlt] at hx
        rw [Sh.rho m hlt]
        exact h.1.2.2 _ _ _ hx
      · have := cellsRK_move Sh l x.2 (m + 1) (by
          rcases hS with hS | hf
          · exact .inl hS
          · simp only [List.all_cons, Bool.and_eq_true] at hf; exact .inr hf.2) h.2
        exact this

theorem cellsRes_move (Sh : Shift n hp1 rho1 hp2 rho2) : ∀ (rs : List (Bool × List RK)) (x : Res rs) (m : Nat), ((∀ b, S1 b → S2 b) ∨ resFlat rs = true) →
    ∀ {us : List Value}, All2 (CompR w S1 hp1 rho1) (cellsRes rs x m).1 us → All2 (CompR w S2 hp2 rho2) (cellsRes rs x (n + m)).1 us
  | [], _, _, _, [], h => trivial
  | [], _, _, _, _ :: _, h => h.elim
  | (b, l) :: rs, x, m, hS, us, h => by
    simp only [cellsRes] at h ⊢
    match us, h with
    | u :: us, h =>
      have hS1 : (∀ b, S1 b → S2 b) ∨ l.all RK.flat = true := by
        rcases hS with hS | hf
        · exact .inl hS
        · simp only [resFlat, List.all_cons, Bool.and_eq_true] at hf; exact .inr hf.1
      have hS2 : (∀ b, S1 b → S2 b) ∨ resFlat rs = true := by
        rcases hS with hS | hf
        · exact .inl hS
        · simp only [resFlat, List.all_cons, Bool.and_eq_true] at hf; exact .inr hf.2
      refine ⟨?_, ?_⟩
      · have h1 := h.1
        cases b with
        | true => obtain ⟨us', e, ha⟩ := h1; exact ⟨us', e, cellsRK_move Sh l x.1 m hS1 ha⟩
        | false => exact cellsRK_move Sh l x.1 m hS1 h1
      · have := cellsRes_move Sh rs x.2 (m + (cellsRK l x.1 m).2.length) hS2 h.2
        rw [cellsRK_rows l x.1 (n + m) m, Nat.add_assoc]
        exact this

theorem avOf_comp {cs : List (Bool × List CV)} {v : Value} (h : AVR w S1 hp1 rho1 (avOf cs) v) (hone : ∀ c, cs = [c] → (c.1 = true ∨ ∃ d, c.2 = [d])) :
    (∃ c, cs = [c] ∧ CompR w S1 hp1 rho1 c v) ∨ (cs.length ≠ 1 ∧ ∃ us : List Value, v = .tuple us.toArray ∧ All2 (CompR w S1 hp1 rho1) cs us) := by
  unfold avOf at h
  split at h
  · rename_i c
    refine .inl ⟨c, rfl, ?_⟩
    obtain ⟨b, l⟩ := c
    cases b with
    | true => exact h
    | false =>
      rcases hone _ rfl with hb | ⟨d, hd⟩
      · cases hb
      · simp only at hd; subst hd; exact ⟨h, trivial⟩
  · rename_i hne
    exact .inr ⟨fun hl => by
      match cs, hl with
      | [c], _ => exact hne c rfl, h⟩

theorem comp_avOf {cs : List (Bool × List CV)} {v : Value}
    (h : (∃ c, cs = [c] ∧ CompR w S1 hp1 rho1 c v) ∨ (cs.length ≠ 1 ∧ ∃ us : List Value, v = .tuple us.toArray ∧ All2 (CompR w S1 hp1 rho1) cs us)) : AVR w S1 hp1 rho1 (avOf cs) v := by
  rcases h with ⟨⟨b, l⟩, rfl, hc⟩ | ⟨hl, hv⟩
  · cases b with
    | true => exact hc
    | false =>
      match l, hc with
      | [d], hc => exact hc.1
      | [], hc => exact hc.elim
      | _ :: _ :: _, hc => exact hc.2.elim
  · unfold avOf
    split
    · simp at hl
    · exact hv

end

end
end Go.Proofs.Ytdgnmbhnilidlaa.Ab
