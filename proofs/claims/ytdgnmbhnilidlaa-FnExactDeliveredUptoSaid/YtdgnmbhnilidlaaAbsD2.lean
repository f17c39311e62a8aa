/- Struct literals and comparisons of structs. -/
import Derived.Test.YtdgnmbhnilidlaaAbsD
set_option linter.unusedVariables false
set_option linter.unusedSimpArgs false
set_option linter.unusedSectionVars false
namespace Go.Proofs.Ytdgnmbhnilidlaa.Ab
open Go Go.RowKit

section
variable {P : Program} {R : Type}
variable {w0 : World} {S0 : Nat → Prop} {st : St} {rho : Nat → Value} {a : Act} {w : World} {hp : List Blk} {S : Nat → Prop}

theorem cells_sound {av : AV} {cs : List CV} (h : cells av = some cs) {v : Value} (hv : AVR w S hp rho av v) : All2 (CVR w S hp rho) cs v.cells.toList := by
  unfold cells at h
  split at h
  · rename_i c
    simp only [Option.some.injEq] at h
    subst h
    have h1 := hv.1
    have e : v.cells = #[v] := by cases v <;> first | rfl | simp [Value.oneCell'] at h1
    rw [e]
    exact ⟨hv, trivial⟩
  · simp only [Option.some.injEq] at h
    subst h
    obtain ⟨us, rfl, hall⟩ := hv
    exact hall
  · cases h


/-- Cells laid over cells. -/
theorem fold_spl (off : Nat) : ∀ (vs : List Value) (j : Nat) (cells : Array Value), off + j + vs.length ≤ cells.size →
    ((vs.zipIdx j).foldl (fun cs (p : Value × Nat) => cs.setIfInBounds (off + p.2) p.1) cells).toList = cells.toList.take (off + j) ++ vs ++ cells.toList.drop (off + j + vs.length)
  | [], j, cells, h => by simp
  | v :: vs, j, cells, h => by
    simp only [List.zipIdx_cons, List.foldl_cons]
    simp only [List.length_cons] at h
    rw [fold_spl off vs (j + 1) _ (by simp; omega)]
    simp only [Array.toList_setIfInBounds]
    rw [List.drop_set, if_pos (by omega), show off + (j + 1) = off + j + 1 from rfl]
    have hlt : off + j < cells.toList.length := by simp; omega
    rw [List.take_set, List.take_succ_eq_append_getElem hlt, List.set_append, if_neg (by simp; omega)]
    simp only [List.length_take, Nat.min_eq_left (Nat.le_of_lt hlt), Nat.sub_self, List.set_cons_zero, List.append_assoc, List.singleton_append, List.length_cons]
    rw [show off + j + 1 + vs.length = off + j + (vs.length + 1) by omega]

theorem spl_all2 {cs vs : List CV} {us ws : List Value} (h : All2 (CVR w S hp rho) cs us) (k : All2 (CVR w S hp rho) vs ws) (o : Nat) :
    All2 (CVR w S hp rho) (spl cs o vs) (us.take o ++ ws ++ us.drop (o + ws.length)) := by
  unfold spl
  rw [← k.len]
  exact ((h.take o).append k).append (h.drop _)

theorem fill_sound (I : InvR w0 S0 st rho a w) {fs : List (Nat × TypeId × Nat)} {pl : List (Nat × Nat)} (hpl : pl = fs.map fun f => (f.1, f.2.2)) : ∀ (parts : List (Nat × Operand)) {cs cs' : List CV} {cells : Array Value}, buildFill fs st parts cs = some cs' →
    All2 (CVR w (Sof w0.heap.size S0 st.hp rho w) st.hp rho) cs cells.toList →
    ∃ cells', Instr.fill (pl.toArray[·]?) cells (parts.map fun p => (p.1, a.eval p.2)) = some cells' ∧ All2 (CVR w (Sof w0.heap.size S0 st.hp rho w) st.hp rho) cs' cells'.toList
  | [], cs, cs', cells, h, hr => by
    simp only [buildFill, Option.some.injEq] at h
    subst h
    exact ⟨cells, rfl, hr⟩
  | (i, x) :: rest, cs, cs', cells, h, hr => by
    simp only [buildFill] at h
    split at h
    · cases h
    · rename_i off T n hf
      obtain ⟨vs, hvs, h1⟩ := Option.bind_eq_some_iff.1 h
      cases hb : (Nat.beq vs.length n && Nat.ble (off + vs.length) cs.length) with
      | false => rw [hb] at h1; cases h1
      | true =>
        rw [hb] at h1
        simp only [cond_true] at h1
        simp only [Bool.and_eq_true] at hb
        have hn := Nat.eq_of_beq_eq_true hb.1
        have hle := Nat.le_of_ble_eq_true hb.2
        have hc := cells_sound hvs (ev_sound I x)
        have hl := hc.len
        have hlen := hr.len
        obtain ⟨cells', hfill, hr'⟩ := fill_sound I hpl rest (cells := ((a.eval x).cells.zipIdx.foldl (fun cs (p : Value × Nat) => cs.setIfInBounds (off + p.2) p.1) cells)) h1 (by
          have e := fold_spl off (a.eval x).cells.toList 0 cells (by simp only [Array.length_toList] at hl hlen; simp; omega)
          rw [← Array.foldl_toList, Array.toList_zipIdx, e]
          exact spl_all2 hr hc off)
        refine ⟨cells', ?_, hr'⟩
        have hp : pl.toArray[i]? = some (off, n) := by subst hpl; simp [hf]
        simp only [Array.length_toList] at hl hlen
        simp only [List.map_cons, Instr.fill, hp]
        rw [if_neg]
        · exact hfill
        · simp; omega

theorem shOf_st {d : TypeDesc} {l : List (Nat × TypeId × Nat)} (h : shOf P d = .st l) : ∃ fs, d = .struct fs ∧ l = fs.toList.map fun f => (f.offset, f.type, P.cellsOf f.type) := by
  cases d <;> simp [shOf] at h
  rename_i fs
  exact ⟨fs, rfl, h.symm⟩

theorem mapM_places : ∀ (fs : List Field) (hne : ∀ f ∈ fs, P.cellsOf f.type ≠ 0), fs.mapM (fun f => (P.info? f.type).map fun i => (f.offset, i.size)) = some (fs.map fun f => (f.offset, P.cellsOf f.type))
  | [], _ => rfl
  | f :: fs, hne => by
    have h0 := hne f (by simp)
    unfold Program.cellsOf at h0
    cases hi : P.info? f.type with
    | none => simp [hi] at h0
    | some i =>
      have := mapM_places fs (fun g hg => hne g (by simp [hg]))
      simp only [List.mapM_cons, hi, Option.map_some, this, Option.bind_eq_bind, Option.bind_some, Option.pure_def, List.map_cons, Program.cellsOf, Option.getD_some]

theorem pure_build {Δ : List (TE P)} {K : AV → Option R} {r : R} {o : Oper} (T : TypeId) (parts : Array (Nat × Operand)) (ho : o.op = .build T parts) (I : InvR w0 S0 st rho a w)
    (h : opBuild Δ st T parts.toList K = some r) : PureOk P w0 S0 st rho a w o K r := by
  unfold opBuild at h
  obtain ⟨e, he, h1⟩ := Option.bind_eq_some_iff.1 h
  clear h
  have hT := TE.find_sound he
  subst hT
  split at h1
  · rename_i fs hsh
    cases hb : (fs.all (fun f => Nat.ble 1 f.2.2) && e.zero.cells.toList.all Value.oneCell') with
    | false => rw [hb] at h1; cases h1
    | true =>
      rw [hb] at h1
      simp only [cond_true] at h1
      simp only [Bool.and_eq_true, List.all_eq_true] at hb
      obtain ⟨cs, hcs, hK⟩ := Option.bind_eq_some_iff.1 h1
      obtain ⟨d, hd, hs⟩ := e.under
      rw [hsh] at hs
      obtain ⟨fl, rfl, hfl⟩ := shOf_st hs
      obtain ⟨i, hi, hz, hsz, _⟩ := e.info
      obtain ⟨cells', hfill, hr⟩ := fill_sound (rho := rho) I (pl := fs.map fun f => (f.1, f.2.2)) rfl parts.toList (cells := e.zero.cells) hcs (constCs_sound _ (fun v hv => hb.2 v hv))
      refine ⟨.agg cs, .agg cells', hK, ⟨cells'.toList, by simp, hr⟩, fun w' _ => ?_⟩
      have hpl : fl.toList.mapM (fun f => (P.info? f.type).map fun i => (f.offset, i.size)) = some (fs.map fun f => (f.1, f.2.2)) := by
        rw [mapM_places]
        · rw [hfl]; simp [Function.comp_def]
        · intro f hf
          have := hb.1 (f.offset, f.type, P.cellsOf f.type) (by rw [hfl]; exact List.mem_map.2 ⟨f, hf, rfl⟩)
          have := Nat.le_of_ble_eq_true this
          simp only at this
          omega
      have hbuilt : P.built e.T (parts.map fun p => (p.1, a.eval p.2)).toList = some cells' := by
        unfold Program.built
        simp only [hi, hd, hz, hpl]
        rw [Array.toList_map]
        exact hfill
      have := run_build (P := P) w' e.T _ cells' hbuilt
      simp only [execOp, ho]
      rw [show (parts.map fun x => (x.1, a.eval x.2)) = (parts.map fun p => (p.1, a.eval p.2)) from rfl]
      simp [this]
  · cases h1

/-! ### Comparisons of structs -/
theorem eqFs_sound {Δ : List (TE P)} {d : Nat} {f : TypeId → AV → AV → Option Bool} (hf : ∀ {T : TypeId} {x y : AV} {u v : Value} {r : Bool}, f T x y = some r → AVR w S hp rho x u → AVR w S hp rho y v → ∀ w', (Op.equalIn d T u v).run P w' = .ok r w') :
    ∀ (l : List (Nat × TypeId)) {fs : List Field} {xs ys : List CV} {us vs : List Value} {r : Bool}, eqFlds fs l = true → eqFs f Δ l xs ys = some r → All2 (CVR w S hp rho) xs us → All2 (CVR w S hp rho) ys vs →
      ∀ w', (Op.eqFields d us.toArray vs.toArray fs).run P w' = .ok r w'
  | [], [], xs, ys, us, vs, r, _, h, _, _, w' => by
    simp only [eqFs, Option.some.injEq] at h
    subst h
    simp [Op.eqFields]
  | [], _ :: _, xs, ys, us, vs, r, hl, _, _, _, _ => by simp [eqFlds] at hl
  | _ :: _, [], xs, ys, us, vs, r, hl, _, _, _, _ => by simp [eqFlds] at hl
  | (o, T) :: l, g :: fs, xs, ys, us, vs, r, hl, h, hx, hy, w' => by
    simp only [eqFlds, Bool.and_eq_true, Bool.not_eq_true'] at hl
    obtain ⟨hn, ho, hT, hl'⟩ := hl
    have ho := Nat.eq_of_beq_eq_true ho
    have hT := Nat.eq_of_beq_eq_true hT
    simp only [eqFs] at h
    obtain ⟨e, he, h1⟩ := Option.bind_eq_some_iff.1 h
    obtain ⟨x, hpx, h2⟩ := Option.bind_eq_some_iff.1 h1
    obtain ⟨y, hpy, h3⟩ := Option.bind_eq_some_iff.1 h2
    obtain ⟨r1, hr1, h4⟩ := Option.bind_eq_some_iff.1 h3
    obtain ⟨r2, hr2, h5⟩ := Option.bind_eq_some_iff.1 h4
    simp only [Option.some.injEq] at h5
    subst h5
    have heT := TE.find_sound he
    obtain ⟨u, hu, _, hpu⟩ := partOf_sound (P := P) hpx hx
    obtain ⟨v, hv, _, hpv⟩ := partOf_sound (P := P) hpy hy
    have heq := hf hr1 hu hv w'
    have hrest := eqFs_sound hf l hl' hr2 hx hy w'
    rw [heT] at hpu hpv
    have hn' : g.name ≠ "_" := by simpa using hn
    rw [Op.eqFields]
    rw [ho, hT]
    simp only [if_pos hn', Sem.run_bind, hpu w', hpv w', heq, Result.andThen_ok]
    cases r1
    · simp
    · simpa using hrest

theorem eqV_sound {Δ : List (TE P)} : ∀ (d : Nat) {T : TypeId} {x y : AV} {u v : Value} {r : Bool}, eqV Δ d T x y = some r → AVR w S hp rho x u → AVR w S hp rho y v → ∀ w', (Op.equalIn d T u v).run P w' = .ok r w'
  | 0, T, x, y, u, v, r, h, _, _, _ => by simp [eqV] at h
  | d + 1, T, x, y, u, v, r, h, hx, hy, w' => by
    simp only [eqV] at h
    obtain ⟨e, he, h1⟩ := Option.bind_eq_some_iff.1 h
    clear h
    have heT := TE.find_sound he
    subst heT
    obtain ⟨dd, hd, hs⟩ := e.under
    split at h1
    · rename_i k hsh
      rw [hsh] at hs
      unfold eqInt at h1
      split at h1
      · rename_i k1 m k2 n
        split at h1
        · rename_i hk
          subst hk
          simp only [Option.some.injEq] at h1
          subst h1
          rw [cv_int hx, cv_int hy]
          rw [shOf_int hs] at hd
          exact run_equalIn_int w' d e.T _ _ _ _ hd
        · cases h1
      · cases h1
    · rename_i hsh
      rw [hsh] at hs
      unfold eqBool at h1
      split at h1
      · simp only [Option.some.injEq] at h1
        subst h1
        rw [cv_bool hx, cv_bool hy]
        have : dd = .bool := by cases dd <;> simp_all [shOf]
        rw [this] at hd
        exact run_equalIn_bool' w' d e.T _ _ hd
      · cases h1
    · rename_i hsh
      rw [hsh] at hs
      unfold eqStr at h1
      split at h1
      · simp only [Option.some.injEq] at h1
        subst h1
        rw [(cv_str hx).1, (cv_str hy).1]
        rw [shOf_str hs] at hd
        exact run_equalIn_string w' d e.T _ _ hd
      · cases h1
    · rename_i fs0 hsh
      rw [hsh] at hs
      obtain ⟨fs, rfl, _⟩ := shOf_st hs
      have h3 := e.h3
      split at h1
      · cases h1
      · rename_i p l hl
        unfold eqAgg at h1
        split at h1
        · rename_i xs ys
          obtain ⟨us, rfl, hx'⟩ := hx
          obtain ⟨vs, rfl, hy'⟩ := hy
          rw [hl] at h3
          simp only [eqOk, Bool.and_eq_true, Bool.not_eq_true', hd] at h3
          have hfo : P.fieldsOf e.T = fs := by simp [Program.fieldsOf, hd]
          rw [run_equalIn_struct (P := P) w' d e.T _ _ (by rw [hfo]; exact hd) h3.1, hfo]
          exact eqFs_sound (fun h hx hy w' => eqV_sound d h hx hy w') (p :: l) h3.2.2 h1 hx' hy' w'
        · cases h1
    · cases h1

theorem eqV_guard {Δ : List (TE P)} {d : Nat} {T : TypeId} {xs ys : List CV} {r : Bool} {e : TE P} (he : TE.find Δ T = some e) (ha : e.agg = true) (h : eqV Δ d T (.agg xs) (.agg ys) = some r) : P.eqGuardType P.depth T = false := by
  cases d with
  | zero => simp [eqV] at h
  | succ d =>
    have heT := TE.find_sound he
    subst heT
    simp only [eqV, he, Option.bind_some] at h
    have h3 := e.h3
    split at h
    · rename_i k hsh; simp [TE.agg, Sh.agg, hsh] at ha
    · rename_i hsh; simp [TE.agg, Sh.agg, hsh] at ha
    · rename_i hsh; simp [TE.agg, Sh.agg, hsh] at ha
    · split at h
      · cases h
      · rename_i p l hl
        rw [hl] at h3
        simp only [eqOk, Bool.and_eq_true, Bool.not_eq_true'] at h3
        exact h3.2.1
    · cases h

theorem pure_eqAgg {Δ : List (TE P)} {K : AV → Option R} {r : R} {o : Oper} (neg : Bool) (T U : TypeId) (X Y : Operand) (ho : o.op = .binOp (if neg then .neq else .eql) T X Y U) (I : InvR w0 S0 st rho a w) {xs ys : List CV} (e1 : ev st X = .agg xs) (e2 : ev st Y = .agg ys)
    {e : TE P} (he : TE.find Δ T = some e) (ha : e.agg = true) {b : Bool} (hb : eqV Δ 10000 T (.agg xs) (.agg ys) = some b) (hK : K (.one (.val .bool (if neg then !b else b))) = some r) : PureOk P w0 S0 st rho a w o K r := by
  have hx := ev_sound I X
  have hy := ev_sound I Y
  rw [e1] at hx
  rw [e2] at hy
  have heq := fun w' => eqV_sound 10000 hb hx hy w'
  have hg := eqV_guard he ha hb
  obtain ⟨us, hu, _⟩ := hx
  obtain ⟨vs, hv, _⟩ := hy
  rw [hu, hv] at heq
  refine ⟨_, .bool (if neg then !b else b), hK, mk_bool _, fun w' _ => ?_⟩
  cases neg with
  | true =>
    simp only [if_true] at ho ⊢
    simp only [execOp, ho, hu, hv]
    simp [run_eqGuard_agg w' .neq T X Y _ _ hg, run_neq_struct, heq w']
  | false =>
    simp only [Bool.false_eq_true, if_false] at ho ⊢
    simp only [execOp, ho, hu, hv]
    simp [run_eqGuard_agg w' .eql T X Y _ _ hg, run_eql_struct, heq w']

end
end Go.Proofs.Ytdgnmbhnilidlaa.Ab
