/- Readings of arguments: what reads as plain data stands in memory as typed data. -/
import Derived.Test.YtdgnmbhnilidlaaAbsN
import Derived.Deep.Slices
import Derived.ChangeArms
import Derived.DataReads
set_option linter.unusedVariables false
set_option linter.unusedSimpArgs false
set_option linter.unusedSectionVars false
namespace Go.Proofs.Ytdgnmbhnilidlaa.Ab
open Go Go.RowKit Go.Deep

/-- How much there is of it. -/
def Sz : (t : Ty) → t.den → Nat
  | .int _, _ => 1
  | .bool, _ => 1
  | .str, s => ByteArray.size s + 1
  | .pair a b, x => Sz a x.1 + Sz b x.2
  | .sl t, xs => (List.map (Sz t) xs).sum + 1

/-- Numbers are of their kinds. -/
def Wf : (t : Ty) → t.den → Prop
  | .int k, n => (Lit.int k n).wf = true
  | .bool, _ => True
  | .str, _ => True
  | .pair a b, x => Wf a x.1 ∧ Wf b x.2
  | .sl t, xs => ∀ x ∈ (xs : List t.den), Wf t x

def pairsOf : List (Option Ty) → Option Ty
  | [] => none
  | [t] => t
  | t :: l => t.bind fun a => (pairsOf l).bind fun b => some (.pair a b)

def offsOk (P : Program) : Nat → List Field → Bool
  | _, [] => true
  | o, f :: fs => Nat.beq f.offset o && offsOk P (o + P.cellsOf f.type) fs

def cellSum (P : Program) : List Field → Nat
  | [] => 0
  | f :: fs => P.cellsOf f.type + cellSum P fs

def tyOf (P : Program) : Nat → TypeId → Option Ty
  | 0, _ => none
  | n + 1, T =>
    match P.underlying T with
    | some (.int k) => some (.int k)
    | some .bool => some .bool
    | some .string => some .str
    | some (.slice e) => (tyOf P n e).bind fun t => cond (Nat.beq (P.cellsOf e) t.size && Nat.ble 1 t.size) (some (.sl t)) none
    | some (.struct fs) => cond (offsOk P 0 fs.toList && Nat.beq (P.cellsOf T) (cellSum P fs.toList)) (pairsOf (fs.toList.map fun f => tyOf P n f.type)) none
    | _ => none

structure BulkOk {H : Type} (bulk : DataW H → Nat) (all : List (DataW H) → Nat) : Prop where
  one : ∀ d, 1 ≤ bulk d
  str : ∀ bytes : List UInt8, bytes.length + 1 ≤ bulk (.lit (.string bytes))
  slice : ∀ e s, all e + 1 ≤ bulk (.slice e s)
  agg : ∀ l, all l ≤ bulk (.agg l)
  nil : all [] = 0
  cons : ∀ d l, all (d :: l) = bulk d + all l

section
variable {P : Program} {H : Type} {enc : TypeId × Value → H} {w : World} {base : Nat} {sp : Nat → Bool} {hd : Bool} {bulk : DataW H → Nat} {all : List (DataW H) → Nat}

theorem choose_list {α : Type} {Q : Nat → α → Prop} : ∀ n, (∀ i, i < n → ∃ v, Q i v) → ∃ xs : List α, xs.length = n ∧ ∀ i (h : i < xs.length), Q i xs[i]
  | 0, _ => ⟨[], rfl, fun i h => by simp at h⟩
  | n + 1, h => by
    obtain ⟨xs, hl, hx⟩ := choose_list n fun i hi => h i (by omega)
    obtain ⟨v, hv⟩ := h n (by omega)
    refine ⟨xs ++ [v], by simp [hl], fun i hi => ?_⟩
    by_cases hin : i < xs.length
    · rw [List.getElem_append_left hin]; exact hx i hin
    · have : i = n := by simp at hi; omega
      subst this
      rw [List.getElem_append_right (by omega)]
      simpa using hv

theorem sum_le {α β : Type} (f : α → Nat) (g : β → Nat) : ∀ (xs : List α) (ds : List β), xs.length = ds.length → (∀ i (h : i < xs.length) (h' : i < ds.length), f xs[i] ≤ g ds[i]) → (xs.map f).sum ≤ (ds.map g).sum
  | [], [], _, _ => by simp
  | x :: xs, d :: ds, hl, h => by
    have h0 := h 0 (by simp) (by simp)
    have := sum_le f g xs ds (by simpa using hl) fun i h1 h2 => h (i + 1) (Nat.succ_lt_succ h1) (Nat.succ_lt_succ h2)
    simp only [List.map_cons, List.sum_cons]
    simp at h0
    omega
  | [], _ :: _, hl, _ => by simp at hl
  | _ :: _, [], hl, _ => by simp at hl

theorem le_sum_mem : ∀ {l : List Nat} {x : Nat}, x ∈ l → x ≤ l.sum
  | y :: l, x, h => by
    simp only [List.sum_cons]
    rcases List.mem_cons.1 h with rfl | h
    · omega
    · have := le_sum_mem h; omega

theorem all_sum (B : BulkOk bulk all) : ∀ l, all l = (l.map bulk).sum
  | [] => by simp [B.nil]
  | d :: l => by rw [B.cons, all_sum B l]; simp

theorem cellsAt_of {a : Addr} {n : Nat} {cs : List Value} (h : w.cells? base a n = some cs) : cellsAt w a cs ∧ cs.length = n := by
  obtain ⟨_, h2, h3⟩ := World.cells?_some h
  refine ⟨fun j u hj => ?_, h2⟩
  have hjn : j < n := by have := (List.getElem?_eq_some_iff.1 hj).1; omega
  rw [h3 j hjn, hj]

theorem down_fields {n : Nat} (B : BulkOk bulk all) (ih : ∀ (T : TypeId) (t : Ty), tyOf P n T = some t → ∀ (fuel : Nat) (cs : List Value) (x : DataW H × List MemPlace), DataW.trod enc P w base sp hd fuel T cs = some x → bulk x.1 ≤ big →
      ∃ v : t.den, Rep w (fun b => b < w.heap.size) t v cs ∧ Sz t v ≤ bulk x.1 ∧ Wf t v) (m : Nat) (cs : List Value) :
    ∀ (fl : List Field) (o : Nat) (t : Ty) (xs : List (DataW H × List MemPlace)), offsOk P o fl = true → pairsOf (fl.map fun f => tyOf P n f.type) = some t → (cs.drop o).length = cellSum P fl → xs.length = fl.length →
      (∀ (i : Nat) f, fl[i]? = some f → DataW.trod enc P w base sp hd m f.type ((cs.drop f.offset).take (P.cellsOf f.type)) = xs[i]?) → all (xs.map (·.1)) ≤ big →
      ∃ v : t.den, Rep w (fun b => b < w.heap.size) t v (cs.drop o) ∧ Sz t v ≤ all (xs.map (·.1)) ∧ Wf t v
  | [], o, t, xs, _, ht, _, _, _, _ => by simp [pairsOf] at ht
  | [f], o, t, xs, ho, ht, hl, hx, hr, hb => by
    match xs, hx with
    | [x], _ =>
      simp only [offsOk, Bool.and_eq_true] at ho
      have hoo := Nat.eq_of_beq_eq_true ho.1
      have h0 := hr 0 f rfl
      simp only [List.getElem?_cons_zero] at h0
      simp only [cellSum, Nat.add_zero] at hl
      rw [hoo, ← hl, List.take_length] at h0
      simp only [List.map_cons, List.map_nil, B.cons, B.nil, Nat.add_zero] at hb ⊢
      exact ih f.type t ht m _ x h0 hb
  | f :: g :: fl, o, t, xs, ho, ht, hl, hx, hr, hb => by
    match xs, hx with
    | x :: xs, hx =>
      simp only [offsOk, Bool.and_eq_true] at ho
      have hoo := Nat.eq_of_beq_eq_true ho.1
      have ht' : (tyOf P n f.type).bind (fun a => (pairsOf ((g :: fl).map fun f => tyOf P n f.type)).bind fun b => some (.pair a b)) = some t := ht
      obtain ⟨a, ha, h1⟩ := Option.bind_eq_some_iff.1 ht'
      obtain ⟨b, hb', h2⟩ := Option.bind_eq_some_iff.1 h1
      simp only [Option.some.injEq] at h2
      subst h2
      have h0 := hr 0 f rfl
      simp only [List.getElem?_cons_zero] at h0
      rw [hoo] at h0
      simp only [List.map_cons, B.cons] at hb ⊢
      obtain ⟨v1, r1, s1, w1⟩ := ih f.type a ha m _ x h0 (by omega)
      have hl' : (cs.drop (o + P.cellsOf f.type)).length = cellSum P (g :: fl) := by
        simp only [cellSum] at hl ⊢
        simp only [List.length_drop] at hl ⊢
        omega
      obtain ⟨v2, r2, s2, w2⟩ := down_fields B ih m cs (g :: fl) (o + P.cellsOf f.type) b xs (by simpa [offsOk] using ho.2) hb' hl' (by simpa using hx) (fun i f' hf => by simpa using hr (i + 1) f' (by simpa using hf)) (by omega)
      refine ⟨(v1, v2), ⟨_, _, ?_, r1, r2⟩, ?_, w1, w2⟩
      · rw [← List.drop_drop]; exact (List.take_append_drop _ _).symm
      · simp only [Sz]; omega

theorem down (B : BulkOk bulk all) : ∀ (n : Nat) (T : TypeId) (t : Ty), tyOf P n T = some t → ∀ (fuel : Nat) (cs : List Value) (x : DataW H × List MemPlace), DataW.trod enc P w base sp hd fuel T cs = some x → bulk x.1 ≤ big →
    ∃ v : t.den, Rep w (fun b => b < w.heap.size) t v cs ∧ Sz t v ≤ bulk x.1 ∧ Wf t v
  | 0, T, t, h, _, _, _, _, _ => by simp [tyOf] at h
  | n + 1, T, t, h, fuel, cs, x, hx, hb => by
    unfold tyOf at h
    split at h
    · rename_i k hu
      simp only [Option.some.injEq] at h
      subst h
      obtain ⟨m, rfl, rfl, hw⟩ := DataW.trod_int hu hx
      exact ⟨m, rfl, B.one _, hw⟩
    · rename_i hu
      simp only [Option.some.injEq] at h
      subst h
      obtain ⟨m, rfl, rfl⟩ := DataW.trod_bool hu hx
      exact ⟨m, rfl, B.one _, trivial⟩
    · rename_i hu
      simp only [Option.some.injEq] at h
      subst h
      obtain ⟨s, rfl, rfl, hw⟩ := DataW.trod_string hu hx
      have h1 := B.str s.data.toList
      have e : s.data.toList.length = s.size := by rw [Array.length_toList]; rfl
      simp only at hb
      exact ⟨s, ⟨rfl, by omega⟩, by simp only [Sz]; omega, trivial⟩
    · rename_i e hu
      obtain ⟨u, hu', h1⟩ := Option.bind_eq_some_iff.1 h
      cases hc : (Nat.beq (P.cellsOf e) u.size && Nat.ble 1 u.size) with
      | false => rw [hc] at h1; cases h1
      | true =>
        rw [hc] at h1
        simp only [cond_true, Option.some.injEq] at h1
        subst h1
        simp only [Bool.and_eq_true] at hc
        have hce := Nat.eq_of_beq_eq_true hc.1
        have hc1 := Nat.le_of_ble_eq_true hc.2
        rcases open_slice hu hx with ⟨rfl, rfl⟩ | ⟨a, len, cap, m, n', D, Pl, rfl, hba, hlc, hcm, hm, rfl, hel⟩
        · exact ⟨[], ⟨none, 0, rfl, by simp, by simp, fun hne => absurd rfl hne⟩, by simp only [Sz]; simpa using B.one .nil, fun _ h => by simp at h⟩
        · have hlm : len ≤ m := by rw [hm]; split <;> omega
          simp only at hb
          have hS := B.slice ((List.range len).map D) ((List.range (m - len)).map fun j => D (len + j))
          rw [all_sum B] at hS
          have hDi : ∀ i, i < len → bulk (D i) ≤ (((List.range len).map D).map bulk).sum := fun i hi => by
            have : bulk (D i) ∈ ((List.range len).map D).map bulk := List.mem_map.2 ⟨D i, List.mem_map.2 ⟨i, List.mem_range.2 hi, rfl⟩, rfl⟩
            exact le_sum_mem this
          have hlen : len ≤ (((List.range len).map D).map bulk).sum := by
            have h1 : ∀ (l : List (DataW H)), l.length ≤ (l.map bulk).sum := fun l => by
              induction l with
              | nil => simp
              | cons d l ih => have := B.one d; simp only [List.length_cons, List.map_cons, List.sum_cons]; omega
            have := h1 ((List.range len).map D)
            simpa using this
          obtain ⟨xs, hxl, hxs⟩ := choose_list (α := u.den) (Q := fun i v => ∃ d, Rep w (fun b => b < w.heap.size) u v d ∧ cellsAt w (a.add (i * u.size)) d ∧ d.length = u.size ∧ Sz u v ≤ bulk (D i) ∧ Wf u v) len fun i hi => by
            obtain ⟨cs', h1, h2⟩ := hel i (by omega)
            obtain ⟨h3, h4⟩ := cellsAt_of h1
            obtain ⟨v, r, s, wf⟩ := down B n e u hu' n' cs' _ h2 (by have := hDi i hi; simp only; omega)
            exact ⟨v, cs', r, by rw [← hce]; exact h3, by rw [h4]; exact hce, s, wf⟩
          subst hxl
          refine ⟨xs, ⟨some a, cap, rfl, hlc, by omega, fun hne => ⟨a, rfl, ?_⟩⟩, ?_, ?_⟩
          · have hpos : 0 < xs.length := List.length_pos_iff.2 hne
            obtain ⟨d, _, hca, hdl, _⟩ := hxs 0 hpos
            have hcell : w.cell? ((a.add (0 * u.size)).add 0) = some (d[0]'(by omega)) := hca 0 _ (by simp)
            have e0 : (a.add (0 * u.size)).add 0 = a := by simp [Addr.add]
            rw [e0] at hcell
            refine ⟨?_, World.cell?_spot hcell, fun i hi => ?_⟩
            · unfold World.cell? at hcell
              split at hcell
              · rename_i hh; exact (Array.getElem?_eq_some_iff.1 hh).1
              · cases hcell
            · obtain ⟨d, r, hca, _⟩ := hxs i hi
              exact ⟨d, r, hca⟩
          · have := sum_le (Sz u) bulk xs ((List.range xs.length).map D) (by simp) fun i h1 h2 => by
              obtain ⟨d, _, _, _, s, _⟩ := hxs i h1
              simpa using s
            simp only [Sz]
            show (List.map (Sz u) xs).sum + 1 ≤ _
            omega
          · intro y hy
            obtain ⟨i, hi, rfl⟩ := List.getElem_of_mem hy
            obtain ⟨d, _, _, _, _, wf⟩ := hxs i hi
            exact wf
    · rename_i fs hu
      cases hc : (offsOk P 0 fs.toList && Nat.beq (P.cellsOf T) (cellSum P fs.toList)) with
      | false => rw [hc] at h; cases h
      | true =>
        rw [hc] at h
        simp only [cond_true] at h
        simp only [Bool.and_eq_true] at hc
        obtain ⟨xs, m, rfl, rfl, hl, hxl, hr⟩ := DataW.trod_struct hu hx
        have hsum := Nat.eq_of_beq_eq_true hc.2
        simp only at hb
        have hA := B.agg (xs.map (·.1))
        have := down_fields B (fun T t h fuel cs x => down B n T t h fuel cs x) m cs fs.toList 0 t xs hc.1 h (by simpa [← hsum] using hl) (by simpa using hxl) (fun i f hf => hr i f (by simpa using hf)) (by omega)
        obtain ⟨v, r, s, wf⟩ := this
        exact ⟨v, by simpa using r, by simp only; omega, wf⟩
    · cases h

/-- A call that gives true. -/
theorem bool_calls {f : FuncId} {ks : List AK} {a : AKs ks} (h : PureC P f ks a [(false, [.v .bool])] ((true, ()), ())) {S : Nat → Prop} (hS : ∀ b, S b → b < w.heap.size) {vs : List Value} (ha : ArgsR w S ks a vs) :
    Calls P f vs.toArray w fun e w' => e = .returned (.bool true) ∧ Below w.heap.size w w' :=
  (h S w vs hS ha).mono fun e w' he => by
    obtain ⟨v, rfl, hb, rho, _, hv⟩ := he
    have hv' : CVR w' (Sof w.heap.size S (cellsRes [(false, [RK.v Ty.bool])] ((true, ()), ()) 0).2 rho w') (cellsRes [(false, [RK.v Ty.bool])] ((true, ()), ()) 0).2 rho (.val .bool true) v := hv
    rw [cv_bool hv']
    exact ⟨rfl, hb⟩

def isStruct (P : Program) (T : TypeId) : Bool :=
  match P.underlying T with
  | some (.struct _) => true
  | _ => false

def isPlain (P : Program) (T : TypeId) : Bool :=
  match P.underlying T with
  | some (.int _) => true
  | some .bool => true
  | some .string => true
  | some (.slice _) => true
  | _ => false

/-- An argument as the evaluator takes it. -/
theorem arg_of {agg : Bool} {T : TypeId} (hT : (cond agg (isStruct P T) (isPlain P T)) = true) {r : Reach} {v : Value} (hv : Value.okWide P w r base T v) {S : Nat → Prop} {t : Ty} {x : t.den} (h : Rep w S t x v.cells.toList) : ArgR w S (.v t agg) x v := by
  cases agg with
  | true =>
    simp only [cond_true, isStruct] at hT
    split at hT
    · rename_i fs hu
      obtain ⟨cs, rfl, _⟩ := Go.WideShapes.okWide_struct hu hv
      exact ⟨cs.toList, by simp, h⟩
    · cases hT
  | false =>
    simp only [cond_false, isPlain] at hT
    have : v.cells = #[v] := by
      split at hT
      · rename_i k hu; obtain ⟨n, rfl⟩ := Go.WideShapes.okWide_int hu hv; rfl
      · rename_i hu; obtain ⟨n, rfl⟩ := Go.WideShapes.okWide_bool hu hv; rfl
      · rename_i hu; obtain ⟨n, rfl⟩ := Go.WideShapes.okWide_string hu hv; rfl
      · rename_i e hu; obtain ⟨a, l, c, rfl⟩ := Go.WideShapes.okWide_slice hu hv; rfl
      · cases hT
    rw [this] at h
    exact h

end
end Go.Proofs.Ytdgnmbhnilidlaa.Ab
