/- Calls: the whole; and one operation, whatever it is. -/
import Derived.Test.YtdgnmbhnilidlaaAbsJ
set_option linter.unusedVariables false
set_option linter.unusedSimpArgs false
set_option linter.unusedSectionVars false
namespace Go.Proofs.Ytdgnmbhnilidlaa.Ab
open Go Go.RowKit

section
variable {P : Program} {R : Type}
variable {w0 : World} {S0 : Nat → Prop} {st : St} {rho : Nat → Value} {a : Act} {w : World} {B : Nat} {hp : List Blk}

theorem cellsRK_len : ∀ (l : List RK) (x : RKs l) (n m : Nat), (cellsRK l x n).1.length = (cellsRK l x m).1.length
  | [], _, _, _ => rfl
  | .v t :: l, x, n, m => by simp only [cellsRK, List.length_append]; rw [cellsRK_len l x.2 n m]
  | .o e t :: l, x, n, m => by simp only [cellsRK, List.length_cons]; rw [cellsRK_len l x.2 (n + 1) (m + 1)]

theorem cellsRes_len : ∀ (rs : List (Bool × List RK)) (x : Res rs) (n m : Nat), (cellsRes rs x n).1.length = (cellsRes rs x m).1.length
  | [], _, _, _ => rfl
  | (b, l) :: rs, x, n, m => by simp only [cellsRes, List.length_cons]; rw [cellsRes_len rs x.2 (n + (cellsRK l x.1 n).2.length) (m + (cellsRK l x.1 m).2.length)]

/-- The rows of a result. -/
theorem rows_RK : ∀ (l : List RK) (x : RKs l) (n : Nat) (k : Blk), k ∈ (cellsRK l x n).2 → ∃ e t xs, k = .row e t xs ∧ (l.all RK.flat = true → t.flat = true)
  | [], _, _, _, h => by cases h
  | .v t :: l, x, n, k, h => by
    obtain ⟨e, u, xs, h1, h2⟩ := rows_RK l x.2 n k h
    exact ⟨e, u, xs, h1, fun hf => h2 (by simp only [List.all_cons, Bool.and_eq_true] at hf; exact hf.2)⟩
  | .o e t :: l, x, n, k, h => by
    simp only [cellsRK, List.mem_cons] at h
    rcases h with rfl | h
    · exact ⟨e, t, x.1, rfl, fun hf => by simp only [List.all_cons, Bool.and_eq_true] at hf; exact hf.1⟩
    · obtain ⟨e', u, xs, h1, h2⟩ := rows_RK l x.2 (n + 1) k h
      exact ⟨e', u, xs, h1, fun hf => h2 (by simp only [List.all_cons, Bool.and_eq_true] at hf; exact hf.2)⟩

theorem rows_Res : ∀ (rs : List (Bool × List RK)) (x : Res rs) (n : Nat) (k : Blk), k ∈ (cellsRes rs x n).2 → ∃ e t xs, k = .row e t xs ∧ (resFlat rs = true → t.flat = true)
  | [], _, _, _, h => by cases h
  | (b, l) :: rs, x, n, k, h => by
    simp only [cellsRes, List.mem_append] at h
    rcases h with h | h
    · obtain ⟨e, u, xs, h1, h2⟩ := rows_RK l x.1 n k h
      exact ⟨e, u, xs, h1, fun hf => h2 (by simp only [resFlat, List.all_cons, Bool.and_eq_true] at hf; exact hf.1)⟩
    · obtain ⟨e, u, xs, h1, h2⟩ := rows_Res rs x.2 _ k h
      exact ⟨e, u, xs, h1, fun hf => h2 (by simp only [resFlat, List.all_cons, Bool.and_eq_true] at hf; exact hf.2)⟩

theorem AVR_move {hp1 hp2 : List Blk} {rho1 rho2 : Nat → Value} {S1 S2 : Nat → Prop} {n : Nat} (Sh : Shift n hp1 rho1 hp2 rho2) (rs : List (Bool × List RK)) (x : Res rs) (hS : (∀ b, S1 b → S2 b) ∨ resFlat rs = true)
    {v : Value} (h : AVR w S1 hp1 rho1 (avOf (cellsRes rs x 0).1) v) : AVR w S2 hp2 rho2 (avOf (cellsRes rs x n).1) v := by
  match rs, x, hS, h with
  | [], x, hS, h =>
    obtain ⟨us, e, ha⟩ := h
    match us, ha with
    | [], _ => exact ⟨[], e, trivial⟩
    | _ :: _, ha => exact ha.elim
  | [(b, l)], x, hS, h =>
    have hS1 : (∀ b, S1 b → S2 b) ∨ l.all RK.flat = true := by
      rcases hS with hS | hf
      · exact .inl hS
      · simp only [resFlat, List.all_cons, Bool.and_eq_true] at hf; exact .inr hf.1
    simp only [cellsRes, avOf] at h ⊢
    cases b with
    | true =>
      obtain ⟨us, e, ha⟩ := h
      exact ⟨us, e, cellsRK_move Sh l x.1 0 hS1 ha⟩
    | false =>
      have hl := cellsRK_len l x.1 n 0
      have hm := fun us => cellsRK_move (w := w) (S1 := S1) (S2 := S2) Sh l x.1 0 hS1 (us := us)
      rw [Nat.add_zero] at hm
      generalize (cellsRK l x.1 n).1 = c1 at *
      generalize (cellsRK l x.1 0).1 = c0 at *
      match c0, c1, hl, h, hm with
      | [d0], [d1], _, h, hm => exact (hm [v] ⟨h, trivial⟩).1
      | [], [], _, _, _ => exact trivial
      | _ :: _ :: _, _ :: _ :: _, _, _, _ => exact trivial
  | c1 :: c2 :: rs, x, hS, h =>
    obtain ⟨b1, l1⟩ := c1
    obtain ⟨b2, l2⟩ := c2
    have := fun us => cellsRes_move (w := w) (S1 := S1) (S2 := S2) Sh ((b1, l1) :: (b2, l2) :: rs) x 0 hS (us := us)
    rw [Nat.add_zero] at this
    have h' : AVR w S1 hp1 rho1 (.tup (cellsRes ((b1, l1) :: (b2, l2) :: rs) x 0).1) v := h
    obtain ⟨us, e, ha⟩ := h'
    show AVR w S2 hp2 rho2 (.tup (cellsRes ((b1, l1) :: (b2, l2) :: rs) x n).1) v
    exact ⟨us, e, this us ha⟩

def glue (rho : Nat → Value) (n : Nat) (rho1 : Nat → Value) : Nat → Value := fun h => if h < n then rho h else rho1 (h - n)
theorem glue_old {n h : Nat} {rho1 : Nat → Value} (hl : h < n) : glue rho n rho1 h = rho h := by unfold glue; rw [if_pos hl]
theorem glue_new {n i : Nat} {rho1 : Nat → Value} : glue rho n rho1 (n + i) = rho1 i := by unfold glue; rw [if_neg (by omega), Nat.add_sub_cancel_left]

theorem live_glue {rows : List Blk} {h : Nat} (hl : liveAt (hp ++ rows) h) : (liveAt hp h ∧ h < hp.length) ∨ ∃ i, h = hp.length + i ∧ liveAt rows i := by
  obtain ⟨k, hk, hkl⟩ := hl
  rw [List.getElem?_append] at hk
  split at hk
  · rename_i hlt; exact .inl ⟨⟨k, hk, hkl⟩, hlt⟩
  · rename_i hge; exact .inr ⟨h - hp.length, by omega, ⟨k, hk, hkl⟩⟩

/-- The rows that a call hands over. -/
theorem InvR.rows (I : InvR w0 S0 st rho a w) {Sq : Nat → Prop} {rows : List Blk} {rho1 : Nat → Value} {w' : World} (HB : Below w.heap.size w w') (H : HInv w.heap.size Sq rows rho1 w')
    (hrows : ∀ k, k ∈ rows → ∃ e t xs, k = .row e t xs ∧
      ((∀ b, Sof w.heap.size Sq rows rho1 w' b → Sof w0.heap.size S0 (st.hp ++ rows) (glue rho st.hp.length rho1) w' b) ∨ t.flat = true)) :
    InvR w0 S0 ⟨st.fr, st.hp ++ rows⟩ (glue rho st.hp.length rho1) a w' := by
  have newb : ∀ i b, liveAt rows i → blkOf (rho1 i) = some b → w.heap.size ≤ b := fun i b hl hb => by
    obtain ⟨k, hk, hkl⟩ := hl
    exact (BlkR_block hkl (H.blk _ _ hk) hb).1
  have C : Chg (Sof w0.heap.size S0 st.hp rho w) st.hp rho w (Sof w0.heap.size S0 (st.hp ++ rows) (glue rho st.hp.length rho1) w') (st.hp ++ rows) (glue rho st.hp.length rho1) w' := by
    refine ⟨fun b hb => ⟨hb.1, Nat.lt_of_lt_of_le hb.2.1 HB.size, fun g hg he => ?_⟩, fun b hb => HB.block b hb.2.1, by simp, fun g k' hlt hk' hkl => ?_⟩
    · rcases live_glue hg with ⟨h1, h2⟩ | ⟨i, rfl, hi⟩
      · rw [glue_old h2] at he; exact hb.2.2 g h1 he
      · rw [glue_new] at he; have := newb i b hi he; have := hb.2.1; omega
    · rw [List.getElem?_append_left hlt] at hk'
      exact ⟨k', hk', sameKind_refl hkl, glue_old hlt⟩
  refine I.step C (below_then' I.below I.below.size HB) ⟨fun g k hk => ?_, fun g g' b hg hg' h1 h2 => ?_⟩
  · rw [List.getElem?_append] at hk
    split at hk
    · rename_i hlt
      by_cases hkl : k.live = true
      · exact BlkR_chg C (glue_old hlt) (fun b hb => HB.block b (own_lt_size I.heap ⟨k, hk, hkl⟩ hb).2) (I.heap.blk g k hk)
      · cases k <;> first | exact trivial | exact absurd rfl hkl
    · rename_i hge
      obtain ⟨e, t, xs, rfl, hS⟩ := hrows k (List.mem_iff_getElem?.2 ⟨_, hk⟩)
      obtain ⟨us, hown, hl, hrep⟩ := H.blk _ _ hk
      have e1 : glue rho st.hp.length rho1 g = rho1 (g - st.hp.length) := by
        have := glue_new (rho := rho) (n := st.hp.length) (i := g - st.hp.length) (rho1 := rho1)
        rwa [show st.hp.length + (g - st.hp.length) = g by omega] at this
      refine ⟨us, ?_, hl, fun i hi => ?_⟩
      · rw [e1]
        refine ⟨hown.1, ?_⟩
        rcases hown.2 with hn | ⟨q, cap, cur, hv, hq, rest⟩
        · exact .inl hn
        · exact .inr ⟨q, cap, cur, hv, Nat.le_trans I.below.size hq, rest⟩
      · rcases hS with hS | hf
        · exact Rep_mono hS (fun _ _ => rfl) (hrep i hi)
        · exact Rep_flat hf (hrep i hi)
  · rcases live_glue hg with ⟨a1, a2⟩ | ⟨i, rfl, hi⟩ <;> rcases live_glue hg' with ⟨b1, b2⟩ | ⟨j, rfl, hj⟩
    · rw [glue_old a2] at h1; rw [glue_old b2] at h2; exact I.heap.dist g g' b a1 b1 h1 h2
    · rw [glue_old a2] at h1; rw [glue_new] at h2; have := newb j b hj h2; have := (own_lt_size I.heap a1 h1).2; omega
    · rw [glue_new] at h1; rw [glue_old b2] at h2; have := newb i b hi h1; have := (own_lt_size I.heap b1 h2).2; omega
    · rw [glue_new] at h1 h2; have := H.dist i j b hi hj h1 h2; omega
where
  below_then' {B : Nat} {w w1 w2 : World} (h : Below B w w1) (hB : B ≤ w1.heap.size) (k : Below w1.heap.size w1 w2) : Below B w w2 :=
    h.trans ⟨k.os, k.tape, k.output, k.size, fun i hi => k.block i (Nat.lt_of_lt_of_le hi hB)⟩

theorem caps_AVR {S : Nat → Prop} : ∀ {caps : List Cap} {us : List Value}, All2 (CapR w S hp rho) caps us → All2 (AVR w S hp rho) (caps.map capAV) us
  | [], [], _ => trivial
  | [], _ :: _, h => h.elim
  | _ :: _, [], h => h.elim
  | c :: caps, u :: us, h => by
    refine ⟨?_, caps_AVR h.2⟩
    have h1 := h.1
    cases c with
    | ref g j => exact ⟨h1.1, h1.2⟩
    | tp t x j => exact ⟨h1.1, h1.2⟩
    | val t x => exact ⟨h1.1, h1.2⟩

theorem args_AVR (I : InvR w0 S0 st rho a w) : ∀ (l : List Operand), All2 (AVR w (Sof w0.heap.size S0 st.hp rho w) st.hp rho) (l.map (ev st)) (l.map a.eval)
  | [] => trivial
  | x :: l => ⟨ev_sound I x, args_AVR I l⟩

theorem call_run {o : Oper} {fv : Operand} {args : Array Operand} {argTypes : Array TypeId} (ho : o.op = .call { callee := .value fv, args, argTypes }) {f : FuncId} {us : List Value}
    (hf : a.eval fv = .func (.func f) #[] us.toArray) {F : Func} (hF : P.funcs[f]? = some F) (hn : (F.name == "runtime.NumGoroutine") = false) (hb : F.body.isNone = false) :
    (execOp a.eval o).run P w = .ok (.enter f (args.toList.map a.eval ++ us).toArray) w := by
  have e : (args.toList.map a.eval ++ us).toArray = args.map a.eval ++ us.toArray := Array.ext' (by simp)
  rw [e]
  simp only [execOp, ho, resolve, hf, Deferred.ofValue, invoke, callFunc, Sem.run_bind, Sem.run_pure, Result.andThen_ok, run_program, hF, hn, hb, Bool.false_eq_true, if_false, Array.empty_append]

theorem SpOf_lt (H : HInv B S0 hp rho w) {hs : List Nat} : ∀ b, SpOf B S0 hp rho w hs b → b < w.heap.size := fun b hb => by
  rcases hb with hb | ⟨g, _, h2, h3⟩
  · exact hb.2.1
  · exact (own_lt_size H h2 h3).2

/-- What a call needs and gives, whatever is done with it. -/
theorem call_sound (I : InvR w0 S0 st rho a w) {o : Oper} {fv : Operand} {args : Array Operand} {argTypes : Array TypeId} (ho : o.op = .call { callee := .value fv, args, argTypes }) {f : FuncId} {caps : List Cap}
    (hev : ev st fv = .one (.fn f caps)) (E : Entry P) (hE : E.f = f) (k : Nat) {x : AKs E.ks} (hx : getArgs st.hp E.ks (args.toList.map (ev st) ++ caps.map capAV) = some x) {res : Res E.rs} (hr : E.fn k x = some res) :
    ∃ vs : List Value, (execOp a.eval o).run P w = .ok (.enter f vs.toArray) w ∧
      Calls P f vs.toArray w fun e w' => ∃ v, e = .returned v ∧ Below w.heap.size w w' ∧
        ResR w.heap.size (SpOf w0.heap.size S0 st.hp rho w ((args.toList.map (ev st) ++ caps.map capAV).flatMap (argOwns st.hp))) w' E.rs res v := by
  have hf := ev_sound I fv
  rw [hev] at hf
  obtain ⟨us, hv, hcaps⟩ := hf.2
  obtain ⟨F, hF, hn, hb⟩ := E.hf
  subst hE
  refine ⟨args.toList.map a.eval ++ us, call_run ho hv hF hn hb, ?_⟩
  exact E.ok k x res hr _ w _ (SpOf_lt I.heap) (getArgs_sound I.heap hx ((args_AVR I _).append (caps_AVR hcaps)) (fun q hq => hq))

theorem eff_callX {Γ : List (Entry P)} {k : Nat} {K : AV → List Blk → Option R} {r : R} {o : Oper} (fv : Operand) (args : Array Operand) (argTypes : Array TypeId) (ho : o.op = .call { callee := .value fv, args, argTypes })
    (I : InvR w0 S0 st rho a w) (h0 : opCall Γ k st fv args.toList K = some r) (next : Act → World → Prop) (Q : Exit → Act → World → Prop)
    (hnext : ∀ av hp' rho' v w', K av hp' = some r → InvR w0 S0 ⟨st.fr, hp'⟩ rho' a w' → AVR w' (Sof w0.heap.size S0 hp' rho' w') hp' rho' av v → Below w.heap.size w w' → next (a.put o.dst v) w') : o.wp P a w next Q := by
  unfold opCall at h0
  split at h0
  · rename_i f caps hev
    obtain ⟨E, hE, h1⟩ := withEntry_sound h0
    obtain ⟨x, hx, h2⟩ := Option.bind_eq_some_iff.1 h1
    obtain ⟨res, hr, h3⟩ := Option.bind_eq_some_iff.1 h2
    clear h0 h1 h2
    obtain ⟨vs, hrun, hc⟩ := call_sound I ho hev E hE k hx hr
    unfold Oper.wp
    rw [hrun]
    refine hc.mono fun e w' he => ?_
    obtain ⟨v, rfl, HB, rho1, H1, hv⟩ := he
    show next (a.put o.dst v) w'
    have hrows := rows_Res E.rs res 0
    cases hfl : resFlat E.rs with
    | true =>
      simp only [hfl, cond_true] at h3
      rw [cellsRes_rows E.rs res _ 0] at h3
      have I2 := I.rows HB H1 (fun k hk => by
        obtain ⟨e, t, xs, h1, h2⟩ := hrows k hk
        exact ⟨e, t, xs, h1, .inr (h2 hfl)⟩)
      refine hnext _ _ _ v w' h3 I2 (AVR_move ⟨fun i hi => ?_, fun i hi => glue_new, by simp⟩ E.rs res (.inr hfl) hv) HB
      rw [List.getElem?_append_right (by omega), Nat.add_sub_cancel_left]
    | false =>
      simp only [hfl, cond_false] at h3
      rw [cellsRes_rows E.rs res _ 0] at h3
      have I1 := I.kill ((args.toList.map (ev st) ++ caps.map capAV).flatMap (argOwns st.hp))
      have hsub : ∀ b, Sof w.heap.size (SpOf w0.heap.size S0 st.hp rho w ((args.toList.map (ev st) ++ caps.map capAV).flatMap (argOwns st.hp))) (cellsRes E.rs res 0).2 rho1 w' b →
          Sof w0.heap.size S0 (St.kill st.hp ((args.toList.map (ev st) ++ caps.map capAV).flatMap (argOwns st.hp)) ++ (cellsRes E.rs res 0).2)
            (glue rho (St.kill st.hp ((args.toList.map (ev st) ++ caps.map capAV).flatMap (argOwns st.hp))).length rho1) w' b := fun b hb => by
        refine ⟨?_, hb.2.1, fun g hg he => ?_⟩
        · rcases hb.1 with h1 | h1
          · exact (kill_sub I.heap _ b h1).1
          · exact .inr (Nat.le_trans I.below.size h1)
        · rcases live_glue hg with ⟨a1, a2⟩ | ⟨i, rfl, hi⟩
          · rw [glue_old a2] at he
            rcases hb.1 with h1 | h1
            · exact (kill_sub I.heap _ b h1).2.2 g a1 he
            · have := (own_lt_size I1.heap a1 he).2; omega
          · rw [glue_new] at he; exact hb.2.2 i hi he
      have I2 := I1.rows HB H1 (fun k hk => by
        obtain ⟨e, t, xs, h1, h2⟩ := hrows k hk
        exact ⟨e, t, xs, h1, .inl hsub⟩)
      refine hnext _ _ _ v w' h3 I2 (AVR_move ⟨fun i hi => ?_, fun i hi => glue_new, by simp⟩ E.rs res (.inl hsub) hv) HB
      show (St.kill st.hp _ ++ _)[(St.kill st.hp _).length + i]? = _
      rw [List.getElem?_append_right (by omega), Nat.add_sub_cancel_left]
  · cases h0

theorem eff_call {Γ : List (Entry P)} {k : Nat} {K : AV → List Blk → Option R} {r : R} {o : Oper} (fv : Operand) (args : Array Operand) (argTypes : Array TypeId) (ho : o.op = .call { callee := .value fv, args, argTypes })
    (I : InvR w0 S0 st rho a w) (h0 : opCall Γ k st fv args.toList K = some r) : EffOk P w0 S0 st a w o K r := fun next Q hnext =>
  eff_callX fv args argTypes ho I h0 next Q fun av hp' rho' v w' h1 h2 h3 _ => hnext av hp' rho' v w' h1 h2 h3

theorem eff_sound {Δ : List (TE P)} {Γ : List (Entry P)} {k : Nat} {K : AV → List Blk → Option R} {r : R} {o : Oper} (I : InvR w0 S0 st rho a w) (h : effOp Δ Γ k st o.op K = some r) : EffOk P w0 S0 st a w o K r := by
  unfold effOp at h
  split at h
  · rename_i T ho; exact eff_alloc T ho I h
  · rename_i T x ho; exact eff_box T x ho I h
  · rename_i T x y ho; exact eff_store T x y ho I h
  · rename_i T n parts ho; exact eff_buildSlice T n parts ho I h
  · rename_i T l c ho; exact eff_makeSlice T l c ho I h
  · rename_i c ho
    obtain ⟨callee, args, argTypes⟩ := c
    split at h
    · rename_i hb
      simp only at hb
      subst hb
      split at h
      · rename_i s x T U ha hT
        cases hTU : Nat.beq T U with
        | false => rw [hTU] at h; cases h
        | true =>
          rw [hTU] at h
          have := Nat.eq_of_beq_eq_true hTU
          subst this
          have ha' : args = #[s, x] := Array.ext' (by simpa using ha)
          have hT' : argTypes = #[T, T] := Array.ext' (by simpa using hT)
          subst ha' hT'
          exact eff_append T s x ho I h
      · cases h
    · rename_i f hb
      simp only at hb
      subst hb
      exact eff_call f args argTypes ho I h
    · cases h
  · cases h

/-- One operation. -/
theorem step_sound {Δ : List (TE P)} {Γ : List (Entry P)} {k : Nat} {K : St → Option R} {r : R} {o : Oper} (I : InvR w0 S0 st rho a w) (h : stepOp Δ Γ k st o K = some r)
    (next : Act → World → Prop) (Q : Exit → Act → World → Prop) (hn : ∀ st' a' w', K st' = some r → Inv w0 S0 st' a' w' → next a' w') : o.wp P a w next Q := by
  unfold stepOp at h
  cases he : isEff o.op with
  | true =>
    rw [he] at h
    simp only [cond_true] at h
    refine eff_sound I h next Q fun av hp' rho' v w' hK I' hv => ?_
    exact hn _ _ _ hK ⟨rho', I'.put o.dst hv⟩
  | false =>
    rw [he] at h
    simp only [cond_false] at h
    obtain ⟨av, v, hK, hv, hrun⟩ := pure_sound I h
    unfold Oper.wp
    rw [hrun w (fun _ _ => rfl)]
    exact hn _ _ _ hK ⟨rho, I.put o.dst hv⟩

end
end Go.Proofs.Ytdgnmbhnilidlaa.Ab
