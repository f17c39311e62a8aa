/- Operations that make or change memory. -/
import Derived.Test.YtdgnmbhnilidlaaAbsG
set_option linter.unusedVariables false
set_option linter.unusedSimpArgs false
set_option linter.unusedSectionVars false
namespace Go.Proofs.Ytdgnmbhnilidlaa.Ab
open Go Go.RowKit

section
variable {P : Program} {R : Type}
variable {w0 : World} {S0 : Nat → Prop} {st : St} {rho : Nat → Value} {a : Act} {w : World} {B : Nat} {hp : List Blk}

/-- What is behind an operation: some value, some blocks, at which the evaluator goes on to r. -/
def EffOk (P : Program) (w0 : World) (S0 : Nat → Prop) (st : St) (a : Act) (w : World) (o : Oper) (K : AV → List Blk → Option R) (r : R) : Prop :=
  ∀ (next : Act → World → Prop) (Q : Exit → Act → World → Prop),
    (∀ av hp' rho' v w', K av hp' = some r → InvR w0 S0 ⟨st.fr, hp'⟩ rho' a w' → AVR w' (Sof w0.heap.size S0 hp' rho' w') hp' rho' av v → next (a.put o.dst v) w') → o.wp P a w next Q

theorem EffOk.value {K : AV → List Blk → Option R} {r : R} {o : Oper} {av : AV} {hp' : List Blk} {rho' : Nat → Value} {v : Value} {w' : World} (hK : K av hp' = some r)
    (hrun : (execOp a.eval o).run P w = .ok (.value v) w') (I : InvR w0 S0 ⟨st.fr, hp'⟩ rho' a w') (hv : AVR w' (Sof w0.heap.size S0 hp' rho' w') hp' rho' av v) : EffOk P w0 S0 st a w o K r := by
  intro next Q h
  unfold Oper.wp
  rw [hrun]
  exact h av hp' rho' v w' hK I hv

theorem EffOk.skip {K : AV → List Blk → Option R} {r : R} {o : Oper} {hp' : List Blk} {rho' : Nat → Value} {w' : World} (hK : K .junk hp' = some r)
    (hrun : (execOp a.eval o).run P w = .ok .skip w') (I : InvR w0 S0 ⟨st.fr, hp'⟩ rho' a w') : EffOk P w0 S0 st a w o K r := by
  intro next Q h
  unfold Oper.wp
  rw [hrun]
  exact h .junk hp' rho' undef w' hK I trivial

theorem All2.one {S : Nat → Prop} {cs : List CV} {us : List Value} (h : All2 (CVR w S hp rho) cs us) : ∀ u ∈ us, u.oneCell' = true := by
  intro u hu
  obtain ⟨i, hi⟩ := List.mem_iff_getElem?.1 hu
  obtain ⟨c, _, hr⟩ := h.get' i u hi
  exact hr.1

/-- A new block of one's own, of cells. -/
theorem new_box (I : InvR w0 S0 st rho a w) (cs : List CV) (us : List Value) (T : TypeId) (h : All2 (CVR w (Sof w0.heap.size S0 st.hp rho w) st.hp rho) cs us) :
    InvR w0 S0 ⟨st.fr, st.hp ++ [.box cs]⟩ (bump rho st.hp.length (.pointer (some ⟨w.heap.size, 0, none⟩))) a (w.alloc (.cells us.toArray T)) ∧
    AVR (w.alloc (.cells us.toArray T)) (Sof w0.heap.size S0 (st.hp ++ [.box cs]) (bump rho st.hp.length (.pointer (some ⟨w.heap.size, 0, none⟩))) (w.alloc (.cells us.toArray T))) (st.hp ++ [.box cs])
      (bump rho st.hp.length (.pointer (some ⟨w.heap.size, 0, none⟩))) (.one (.ptr st.hp.length 0)) (.pointer (some ⟨w.heap.size, 0, none⟩)) := by
  refine ⟨I.fresh _ _ _ rfl fun C => ⟨w.heap.size, us, T, bump_new, I.below.size, heap_alloc_new w _, h.mono fun _ _ k => CVR_chg C k⟩, rfl, by simp, fun cs' _ => ⟨w.heap.size, bump_new, rfl⟩⟩

theorem eff_alloc {Δ : List (TE P)} {K : AV → List Blk → Option R} {r : R} {o : Oper} (T : TypeId) (ho : o.op = .alloc T) (I : InvR w0 S0 st rho a w) (h0 : opAlloc Δ st T K = some r) :
    EffOk P w0 S0 st a w o K r := by
  unfold opAlloc at h0
  obtain ⟨e, he, h⟩ := Option.bind_eq_some_iff.1 h0
  clear h0
  have hT := TE.find_sound he
  subst hT
  cases hc : e.zero.cells.toList.all Value.oneCell' with
  | false => rw [hc] at h; simp at h
  | true =>
    rw [hc] at h
    simp only [cond_true] at h
    obtain ⟨i, hi, hz, _, _⟩ := e.info
    obtain ⟨I', hv⟩ := new_box I _ _ e.T (constCs_sound e.zero.cells.toList fun u hu => List.all_eq_true.1 hc u hu)
    refine EffOk.value h ?_ I' hv
    simp [execOp, ho, Instr.alloc, zeroValue, typeInfo, hi, hz, newVar, newRow]

theorem eff_box {K : AV → List Blk → Option R} {r : R} {o : Oper} (T : TypeId) (x : Operand) (ho : o.op = .box T x) (I : InvR w0 S0 st rho a w) (h0 : opBox st x K = some r) :
    EffOk P w0 S0 st a w o K r := by
  unfold opBox at h0
  obtain ⟨cs, hcs, h⟩ := Option.bind_eq_some_iff.1 h0
  clear h0
  have hx := cells_sound hcs (ev_sound I x)
  obtain ⟨I', hv⟩ := new_box I _ _ T hx
  refine EffOk.value h ?_ I' hv
  simp [execOp, ho, Instr.box, newVar, newRow]

/-! ### A block of one's own changed -/
theorem set_live {k0 k' : Blk} {h g : Nat} (hk0 : hp[h]? = some k0) (hl0 : k0.live = true) (hl : liveAt (hp.set h k') g) : liveAt hp g := by
  obtain ⟨k, hk, hkl⟩ := hl
  rw [List.getElem?_set] at hk
  split at hk
  · rename_i e; subst e; exact ⟨k0, hk0, hl0⟩
  · exact ⟨k, hk, hkl⟩

theorem sameKind_live {k k' : Blk} (h : sameKind k k') : k.live = true := by
  cases k <;> cases k' <;> first | rfl | exact h.elim

theorem set_chg {k0 k' : Blk} {h : Nat} {w' : World} (hk0 : hp[h]? = some k0) (hsk : sameKind k0 k') (hw : ∀ b, blkOf (rho h) ≠ some b → w'.heap[b]? = w.heap[b]?) (hs : w.heap.size ≤ w'.heap.size) :
    Chg (Sof B S0 hp rho w) hp rho w (Sof B S0 (hp.set h k') rho w') (hp.set h k') rho w' where
  sub b hb := ⟨hb.1, Nat.lt_of_lt_of_le hb.2.1 hs, fun g hg => hb.2.2 g (set_live hk0 (sameKind_live hsk) hg)⟩
  agree b hb := hw b (hb.2.2 h ⟨k0, hk0, sameKind_live hsk⟩)
  len := by simp
  same g k1 hlt hk1 hl := by
    rw [List.getElem?_set] at hk1
    split at hk1
    · rename_i e
      subst e
      rw [if_pos hlt] at hk1
      simp only [Option.some.injEq] at hk1
      subst hk1
      exact ⟨k0, hk0, hsk, rfl⟩
    · exact ⟨k1, hk1, sameKind_refl hl, rfl⟩

theorem set_inv (H : HInv B S0 hp rho w) {k0 k' : Blk} {h : Nat} {w' : World} (hk0 : hp[h]? = some k0) (hsk : sameKind k0 k') (hw : ∀ b, blkOf (rho h) ≠ some b → w'.heap[b]? = w.heap[b]?) (hs : w.heap.size ≤ w'.heap.size)
    (hk : BlkR B S0 (hp.set h k') rho w' h k') : HInv B S0 (hp.set h k') rho w' where
  blk g k1 hk1 := by
    rw [List.getElem?_set] at hk1
    split at hk1
    · rename_i e
      subst e
      split at hk1
      · simp only [Option.some.injEq] at hk1; subst hk1; exact hk
      · cases hk1
    · rename_i hne
      by_cases hl : k1.live = true
      · refine BlkR_chg (set_chg hk0 hsk hw hs) rfl (fun b hb => hw b fun he => ?_) (H.blk g k1 hk1)
        exact hne (H.dist h g b ⟨k0, hk0, sameKind_live hsk⟩ ⟨k1, hk1, hl⟩ he hb)
      · cases k1 <;> first | exact trivial | exact absurd rfl hl
  dist g g' b hg hg' h1 h2 := H.dist g g' b (set_live hk0 (sameKind_live hsk) hg) (set_live hk0 (sameKind_live hsk) hg') h1 h2

theorem below_setRow {b : Nat} {cs : Array Value} (H : Below B w0 w) (hb : B ≤ b) : Below B w0 (w.setRow b cs) :=
  H.trans ⟨rfl, rfl, rfl, by simp, fun k hk => setRow_other w b k cs (by omega)⟩

/-! ### Lists spliced -/
def lsp {α : Type} (us : List α) (o : Nat) (vs : List α) : List α := us.take o ++ vs ++ us.drop (o + vs.length)

theorem lsp_len {α : Type} {us vs : List α} {o : Nat} (h : o + vs.length ≤ us.length) : (lsp us o vs).length = us.length := by
  simp [lsp]; omega

theorem lsp_get {α : Type} {us vs : List α} {o : Nat} (h : o + vs.length ≤ us.length) (k : Nat) :
    (lsp us o vs)[k]? = if k < o then us[k]? else if k < o + vs.length then vs[k - o]? else us[k]? := by
  unfold lsp
  by_cases h1 : k < o
  · rw [if_pos h1, List.append_assoc, List.getElem?_append_left (by simp; omega), List.getElem?_take, if_pos h1]
  · rw [if_neg h1]
    by_cases h2 : k < o + vs.length
    · rw [if_pos h2, List.append_assoc, List.getElem?_append_right (by simp; omega), List.getElem?_append_left (by simp; omega)]
      congr 1
      simp; omega
    · rw [if_neg h2, List.getElem?_append_right (by simp; omega), List.getElem?_drop]
      congr 1
      simp; omega

theorem lsp_all2 {α β : Type} {Rl : α → β → Prop} {as vs : List α} {bs us : List β} (h : All2 Rl as bs) (k : All2 Rl vs us) (o : Nat) : All2 Rl (lsp as o vs) (lsp bs o us) := by
  unfold lsp
  rw [k.len]
  exact ((h.take o).append k).append (h.drop _)

theorem storeVar_run (e : TE P) (b j : Nat) (v : Value) (cur : Array Value) (T : TypeId) (hb : w.heap[b]? = some (.cells cur T (0, 0))) (hl : v.cells.size = e.size) (hfit : j + v.cells.size ≤ cur.size)
    (h1 : ∀ u ∈ v.cells.toList, u.oneCell' = true) : (Instr.storeAt e.T (.pointer (some ⟨b, j, none⟩)) v).run P w = .ok () (w.setRow b (lsp cur.toList j v.cells.toList).toArray) := by
  have hr := run_storeCells_at P b j T v.cells.toList 0 cur w hb (by simpa using hfit) h1
  simp only [Nat.add_zero] at hr
  simp only [Instr.storeAt, Instr.sureAddr, storeVar, Sem.run_bind, Sem.run_pure, Result.andThen_ok, e.sizeOf_run w, hl]
  simpa [lsp] using hr

theorem ownsC_expl : ∀ {t : Ty} {x : t.den}, (expl t x).flatMap ownsC = []
  | .int _, _ => rfl
  | .bool, _ => rfl
  | .str, _ => rfl
  | .pair a b, x => by simp only [expl, List.flatMap_append, ownsC_expl (t := a), ownsC_expl (t := b), List.append_nil]
  | .sl _, _ => rfl

theorem mem_take_owns {cs : List CV} {n g : Nat} (h : g ∈ (cs.take n).flatMap ownsC) : g ∈ cs.flatMap ownsC := by
  rw [List.mem_flatMap] at h ⊢
  obtain ⟨c, hc, hg⟩ := h
  exact ⟨c, List.mem_of_mem_take hc, hg⟩
theorem mem_drop_owns {cs : List CV} {n g : Nat} (h : g ∈ (cs.drop n).flatMap ownsC) : g ∈ cs.flatMap ownsC := by
  rw [List.mem_flatMap] at h ⊢
  obtain ⟨c, hc, hg⟩ := h
  exact ⟨c, List.mem_of_mem_drop hc, hg⟩

/-- Element i of a row, of elements of 'size' cells, one element's cells changed. -/
theorem elem_lsp {us vs : List Value} {n size i i' j : Nat} (hlen : us.length = n * size) (hi : i < n) (hi' : i' < n) (hj : j + vs.length ≤ size) :
    ((lsp us (i * size + j) vs).drop (i' * size)).take size = if i' = i then lsp ((us.drop (i * size)).take size) j vs else (us.drop (i' * size)).take size := by
  have hb : i * size + size ≤ n * size := by rw [← Nat.succ_mul]; exact Nat.mul_le_mul_right _ hi
  have hb' : i' * size + size ≤ n * size := by rw [← Nat.succ_mul]; exact Nat.mul_le_mul_right _ hi'
  have hfit : i * size + j + vs.length ≤ us.length := by omega
  apply List.ext_getElem?
  intro k
  rw [List.getElem?_take]
  by_cases hk : k < size
  · rw [if_pos hk, List.getElem?_drop, lsp_get hfit]
    by_cases e : i' = i
    · subst e
      rw [if_pos rfl, lsp_get (by simp; omega)]
      by_cases h1 : k < j
      · rw [if_pos (by omega), if_pos h1, List.getElem?_take, if_pos hk, List.getElem?_drop]
      · rw [if_neg (by omega), if_neg h1]
        by_cases h2 : k < j + vs.length
        · rw [if_pos (by omega), if_pos h2]
          congr 1
          omega
        · rw [if_neg (by omega), if_neg h2, List.getElem?_take, if_pos hk, List.getElem?_drop]
    · rw [if_neg e, List.getElem?_take, if_pos hk, List.getElem?_drop]
      rcases Nat.lt_or_gt_of_ne e with hlt | hgt
      · have : i' * size + size ≤ i * size := by rw [← Nat.succ_mul]; exact Nat.mul_le_mul_right _ hlt
        rw [if_pos (by omega)]
      · have : i * size + size ≤ i' * size := by rw [← Nat.succ_mul]; exact Nat.mul_le_mul_right _ hgt
        rw [if_neg (by omega), if_neg (by omega)]
  · rw [if_neg hk]
    by_cases e : i' = i
    · rw [if_pos e, List.getElem?_eq_none]
      rw [lsp_len (by simp; omega)]
      simp; omega
    · rw [if_neg e, List.getElem?_take, if_neg hk]

theorem eff_store {Δ : List (TE P)} {K : AV → List Blk → Option R} {r : R} {o : Oper} (T : TypeId) (x y : Operand) (ho : o.op = .store T x y) (I : InvR w0 S0 st rho a w)
    (h0 : opStore Δ st T x y K = some r) : EffOk P w0 S0 st a w o K r := by
  unfold opStore at h0
  obtain ⟨e, he, h1⟩ := Option.bind_eq_some_iff.1 h0
  obtain ⟨cs, hcs, h⟩ := Option.bind_eq_some_iff.1 h1
  clear h0 h1
  have hT := TE.find_sound he
  subst hT
  have hx := ev_sound I x
  have hy := cells_sound hcs (ev_sound I y)
  have hlen := hy.len
  cases hsz : Nat.beq cs.length e.size with
  | false => rw [hsz] at h; simp at h
  | true =>
    rw [hsz] at h
    simp only [cond_true] at h
    have hsize : (a.eval y).cells.size = e.size := by rw [← Nat.eq_of_beq_eq_true hsz, hlen]; simp
    split at h
    · rename_i g j hev
      rw [hev] at hx
      split at h
      · rename_i old hold
        cases hle : Nat.ble (j + cs.length) old.length with
        | false => rw [hle] at h; simp at h
        | true =>
          rw [hle] at h
          simp only [cond_true] at h
          have hle' := Nat.le_of_ble_eq_true hle
          obtain ⟨b, hb, hv⟩ := hx.2.2 old hold
          obtain ⟨b', us, T', hb', hB, hh, hall⟩ := I.heap.blk _ _ hold
          have : b = b' := by rw [hb] at hb'; cases hb'; rfl
          subst this
          have hul := hall.len
          have hrun := storeVar_run (P := P) e b j (a.eval y) us.toArray T' hh hsize (by rw [hsize, ← Nat.eq_of_beq_eq_true hsz]; simp; omega) hy.one
          have hw : ∀ b1, blkOf (rho g) ≠ some b1 → (w.setRow b (lsp us j (a.eval y).cells.toList).toArray).heap[b1]? = w.heap[b1]? := fun b1 hne => setRow_other w b b1 _ (fun e => hne (by rw [hb, e]; rfl))
          have C := set_chg (B := w0.heap.size) (S0 := S0) (k' := .box (spl old j cs)) hold trivial hw (by simp)
          refine EffOk.skip h ?_ (I.step C (below_setRow I.below hB) (set_inv I.heap hold trivial hw (by simp) ⟨b, lsp us j (a.eval y).cells.toList, T', hb, hB, setRow_heap w b _ _ T' _ hh, ?_⟩))
          · simp only [execOp, ho, hv, Sem.run_bind, hrun, Result.andThen_ok, Sem.run_pure]
          · exact lsp_all2 (hall.mono fun _ _ k => CVR_chg C k) (hy.mono fun _ _ k => CVR_chg C k) j
      · cases h
    · rename_i g i j hev
      rw [hev] at hx
      split at h
      · rename_i E t xs hrow
        cases hc : (Nat.ble (j + cs.length) t.size && !((cs.flatMap ownsC).elem g)) with
        | false => rw [hc] at h; simp at h
        | true =>
          rw [hc] at h
          simp only [cond_true] at h
          obtain ⟨z, hz, h⟩ := Option.bind_eq_some_iff.1 h
          simp only [Bool.and_eq_true, Bool.not_eq_true', List.elem_eq_mem, decide_eq_false_iff_not] at hc
          obtain ⟨hfit0, hnot⟩ := hc
          have hfit := Nat.le_of_ble_eq_true hfit0
          obtain ⟨b, n, c, hr, hv, hi⟩ := hx.2.2 _ _ _ hrow
          obtain ⟨us, hown, hl, hrep⟩ := I.heap.blk _ _ hrow
          rw [hr] at hown
          have hn : n = xs.length := by
            obtain ⟨A, cap, hs, _⟩ := own_shape hown
            injection hs
          subst hn
          rw [getD_at xs i _ hi] at hz
          -- the rows that go in are let go of
          have I1 := I.kill (cs.flatMap ownsC)
          have C1 := kill_chg I.heap (cs.flatMap ownsC)
          have hrow1 : (St.kill st.hp (cs.flatMap ownsC))[g]? = some (.row E t xs) := by
            have aux : ∀ (hs : List Nat) (hp : List Blk), g ∉ hs → hp[g]? = some (.row E t xs) → (St.kill hp hs)[g]? = some (.row E t xs) := by
              intro hs
              induction hs with
              | nil => intro hp _ h; exact h
              | cons h hs ih =>
                intro hp hn hh
                simp only [List.mem_cons, not_or] at hn
                exact ih _ hn.2 (by rw [List.getElem?_set, if_neg (fun e => hn.1 e.symm)]; exact hh)
            exact aux _ _ hnot hrow
          obtain ⟨us1, hown1, hl1, hrep1⟩ := I1.heap.blk _ _ hrow1
          rw [hr] at hown1
          rcases hown1.2 with ⟨hbad, _⟩ | ⟨b', cap, cur, hsl, hbB, hh, hnc, hcm, hcs1, htake⟩
          · cases hbad
          · cases hsl
            have hulen := hown1.1
            have hct : cur.toList.length = cur.size := Array.length_toList
            have hvn : xs.length * t.size ≤ c * t.size := Nat.mul_le_mul_right _ hnc
            have hcurl : us1.length ≤ cur.size := by rw [← htake]; simp; omega
            have hb2 : i * t.size + t.size ≤ xs.length * t.size := by rw [← Nat.succ_mul]; exact Nat.mul_le_mul_right _ hi
            have hvl : (a.eval y).cells.toList.length = cs.length := hlen.symm
            have hvl2 : (a.eval y).cells.size = cs.length := by rw [← hvl]; simp
            have hfit2 : i * t.size + j + (a.eval y).cells.toList.length ≤ us1.length := by rw [hulen, hvl]; omega
            have hrun := storeVar_run (P := P) e b (i * t.size + j) (a.eval y) cur E hh hsize (by rw [hvl2]; omega) hy.one
            have hw : ∀ b1, blkOf (rho g) ≠ some b1 → (w.setRow b (lsp cur.toList (i * t.size + j) (a.eval y).cells.toList).toArray).heap[b1]? = w.heap[b1]? :=
              fun b1 hne => setRow_other w b b1 _ (fun e => hne (by rw [hr, e]; rfl))
            have hsk : sameKind (.row E t xs) (.row E t (xs.set i z)) := ⟨rfl, rfl, by simp⟩
            have C := set_chg (B := w0.heap.size) (S0 := S0) (k' := .row E t (xs.set i z)) hrow1 hsk hw (by simp)
            -- the new element
            have hz2 : Rep w (SpOf w0.heap.size S0 st.hp rho w (cs.flatMap ownsC)) t z (lsp ((us.drop (i * t.size)).take t.size) j (a.eval y).cells.toList) := by
              refine rdCs_sound I.heap hz (lsp_all2 (expl_sound (hrep i hi)) hy j) ?_
              intro q hq
              unfold spl at hq
              rw [List.flatMap_append, List.flatMap_append, List.mem_append, List.mem_append] at hq
              rcases hq with (hq | hq) | hq
              · have := mem_take_owns hq; rw [ownsC_expl] at this; cases this
              · exact hq
              · have := mem_drop_owns hq; rw [ownsC_expl] at this; cases this
            have hus : us = us1 := by
              rcases hown.2 with ⟨hbad, _⟩ | ⟨b2, cap2, cur2, hsl2, _, hh2, _, _, _, htake2⟩
              · cases hbad
              · cases hsl2
                rw [hh] at hh2
                cases hh2
                rw [← htake, ← htake2]
            subst hus
            refine EffOk.skip h ?_ (I1.step C (below_setRow I.below hbB) (set_inv I1.heap hrow1 hsk hw (by simp)
              ⟨lsp us (i * t.size + j) (a.eval y).cells.toList, ⟨?_, .inr ⟨b, c, (lsp cur.toList (i * t.size + j) (a.eval y).cells.toList).toArray, ?_, hbB, setRow_heap w b _ _ E _ hh, ?_, hcm, ?_, ?_⟩⟩, by simpa using hl1, fun i' hi' => ?_⟩))
            · simp only [execOp, ho, hv, Sem.run_bind, hrun, Result.andThen_ok, Sem.run_pure]
            · rw [lsp_len hfit2, hulen]; simp
            · rw [hr]; simp
            · simpa using hnc
            · simp only [List.size_toArray]
              rw [lsp_len (by omega), Array.length_toList, hcs1]
            · simp only [List.length_set]
              apply List.ext_getElem?
              intro k
              rw [List.getElem?_take, lsp_get hfit2]
              by_cases hk : k < xs.length * t.size
              · rw [if_pos hk]
                rw [lsp_get (by omega)]
                have hke : us[k]? = cur.toList[k]? := by rw [← htake, List.getElem?_take, if_pos hk]
                rw [hke]
              · rw [if_neg hk]
                rw [if_neg (by omega), if_neg (by omega), List.getElem?_eq_none (by omega)]
            · simp only [List.length_set] at hi'
              rw [elem_lsp hulen hi hi' (by rw [hvl]; exact hfit)]
              by_cases e1 : i' = i
              · subst e1
                rw [if_pos rfl]
                have : (xs.set i' z)[i']'(by simpa using hi') = z := by simp
                rw [this]
                exact Rep_mono C.sub C.agree (Rep_mono (kill_sub I.heap _) (fun _ _ => rfl) hz2)
              · rw [if_neg e1]
                have : (xs.set i z)[i']'(by simpa using hi') = xs[i'] := by simp [List.getElem_set, Ne.symm e1]
                rw [this]
                exact Rep_mono C.sub C.agree (hrep1 i' hi')
      · cases h
    · cases h

end
end Go.Proofs.Ytdgnmbhnilidlaa.Ab
