/- How abstract values stand to the machine's: the relation, and that it lives on. -/
import Derived.Test.YtdgnmbhnilidlaaAbsA
set_option linter.unusedVariables false
set_option linter.unusedSimpArgs false
set_option linter.unusedSectionVars false
namespace Go.Proofs.Ytdgnmbhnilidlaa.Ab
open Go Go.RowKit

/-! ### Lists, element by element -/
def All2 {α β : Type} (R : α → β → Prop) : List α → List β → Prop
  | [], [] => True
  | a :: as, b :: bs => R a b ∧ All2 R as bs
  | _, _ => False

namespace All2
variable {α β : Type} {R R' : α → β → Prop}
theorem len : ∀ {as : List α} {bs : List β}, All2 R as bs → as.length = bs.length
  | [], [], _ => rfl
  | _ :: _, _ :: _, h => by simp [len h.2]
  | [], _ :: _, h => h.elim
  | _ :: _, [], h => h.elim
theorem mono (f : ∀ a b, R a b → R' a b) : ∀ {as : List α} {bs : List β}, All2 R as bs → All2 R' as bs
  | [], [], _ => trivial
  | _ :: _, _ :: _, h => ⟨f _ _ h.1, mono f h.2⟩
  | [], _ :: _, h => h.elim
  | _ :: _, [], h => h.elim
theorem append : ∀ {as : List α} {bs : List β} {cs : List α} {ds : List β}, All2 R as bs → All2 R cs ds → All2 R (as ++ cs) (bs ++ ds)
  | [], [], _, _, _, k => k
  | _ :: _, _ :: _, _, _, h, k => ⟨h.1, append h.2 k⟩
  | [], _ :: _, _, _, h, _ => h.elim
  | _ :: _, [], _, _, h, _ => h.elim
theorem drop : ∀ (n : Nat) {as : List α} {bs : List β}, All2 R as bs → All2 R (as.drop n) (bs.drop n)
  | 0, _, _, h => h
  | _ + 1, [], [], _ => trivial
  | n + 1, _ :: _, _ :: _, h => drop n h.2
  | _ + 1, [], _ :: _, h => h.elim
  | _ + 1, _ :: _, [], h => h.elim
theorem take : ∀ (n : Nat) {as : List α} {bs : List β}, All2 R as bs → All2 R (as.take n) (bs.take n)
  | 0, _, _, _ => by simp [All2]
  | _ + 1, [], [], _ => trivial
  | n + 1, _ :: _, _ :: _, h => ⟨h.1, take n h.2⟩
  | _ + 1, [], _ :: _, h => h.elim
  | _ + 1, _ :: _, [], h => h.elim
theorem get : ∀ {as : List α} {bs : List β} (i : Nat) (a : α), All2 R as bs → as[i]? = some a → ∃ b, bs[i]? = some b ∧ R a b
  | [], [], _, _, _, h => by simp at h
  | x :: as, y :: bs, 0, a, h, e => by simp at e; subst e; exact ⟨y, rfl, h.1⟩
  | x :: as, y :: bs, i + 1, a, h, e => by simpa using get i a h.2 (by simpa using e)
  | [], _ :: _, _, _, h, _ => h.elim
  | _ :: _, [], _, _, h, _ => h.elim
theorem get' : ∀ {as : List α} {bs : List β} (i : Nat) (b : β), All2 R as bs → bs[i]? = some b → ∃ a, as[i]? = some a ∧ R a b
  | [], [], _, _, _, h => by simp at h
  | x :: as, y :: bs, 0, b, h, e => by simp at e; subst e; exact ⟨x, rfl, h.1⟩
  | x :: as, y :: bs, i + 1, b, h, e => by simpa using get' i b h.2 (by simpa using e)
  | [], _ :: _, _, _, h, _ => h.elim
  | _ :: _, [], _, _, h, _ => h.elim
theorem set : ∀ {as : List α} {bs : List β} (i : Nat) {a : α} {b : β}, All2 R as bs → R a b → All2 R (as.set i a) (bs.set i b)
  | [], [], _, _, _, _, _ => trivial
  | _ :: _, _ :: _, 0, _, _, h, k => ⟨k, h.2⟩
  | _ :: _, _ :: _, i + 1, _, _, h, k => ⟨h.1, set i h.2 k⟩
  | [], _ :: _, _, _, _, h, _ => h.elim
  | _ :: _, [], _, _, _, h, _ => h.elim
theorem of_get : ∀ {as : List α} {bs : List β}, as.length = bs.length → (∀ (i : Nat) a b, as[i]? = some a → bs[i]? = some b → R a b) → All2 R as bs
  | [], [], _, _ => trivial
  | x :: as, y :: bs, e, h => ⟨h 0 x y rfl rfl, of_get (by simpa using e) (fun i a b h1 h2 => h (i + 1) a b (by simpa using h1) (by simpa using h2))⟩
  | [], _ :: _, e, _ => by simp at e
  | _ :: _, [], e, _ => by simp at e
end All2

/-! ### Typed data in memory -/
theorem Addr.add_add' (a : Addr) (h : a.spot = none) (m n : Nat) : (a.add m).add n = a.add (m + n) := by
  unfold Addr.add
  by_cases h1 : m = 0 <;> by_cases h2 : n = 0 <;> simp [h1, h2, Nat.add_assoc]
theorem Addr.add_spot (a : Addr) (h : a.spot = none) (m : Nat) : (a.add m).spot = none := by
  unfold Addr.add
  split <;> simp [h]
theorem Addr.add_block (a : Addr) (m : Nat) : (a.add m).block = a.block := by
  unfold Addr.add
  split <;> rfl

def cellsAt (w : World) (a : Addr) (cs : List Value) : Prop := ∀ j u, cs[j]? = some u → w.cell? (a.add j) = some u

def big : Nat := 4611686018427387904

def Rep (w : World) (S : Nat → Prop) : (t : Ty) → t.den → List Value → Prop
  | .int k, n, cs => cs = [.int k n]
  | .bool, b, cs => cs = [.bool b]
  | .str, s, cs => cs = [.string s] ∧ s.size ≤ big
  | .pair a b, x, cs => ∃ c1 c2, cs = c1 ++ c2 ∧ Rep w S a x.1 c1 ∧ Rep w S b x.2 c2
  | .sl t, (xs : List t.den), cs => ∃ A c, cs = [.slice A xs.length c] ∧ xs.length ≤ c ∧ xs.length ≤ big ∧
      (xs ≠ [] → ∃ a : Addr, A = some a ∧ S a.block ∧ a.spot = none ∧
        ∀ i (h : i < xs.length), ∃ d, Rep w S t xs[i] d ∧ cellsAt w (a.add (i * t.size)) d)

def Agree (S : Nat → Prop) (w w' : World) : Prop := ∀ b, S b → w'.heap[b]? = w.heap[b]?

theorem cellsAt_agree {S : Nat → Prop} {w w' : World} (h : Agree S w w') {a : Addr} (ha : S a.block) {cs : List Value} (hc : cellsAt w a cs) : cellsAt w' a cs := by
  intro j u hj
  have hb : w'.heap[(a.add j).block]? = w.heap[(a.add j).block]? := by rw [Addr.add_block]; exact h _ ha
  rw [World.cell?_of_block hb]
  exact hc j u hj

theorem Rep_len {w : World} {S : Nat → Prop} : ∀ {t : Ty} {x : t.den} {cs : List Value}, Rep w S t x cs → cs.length = t.size
  | .int _, _, _, h => by simp only [Rep] at h; subst h; rfl
  | .bool, _, _, h => by simp only [Rep] at h; subst h; rfl
  | .str, _, _, h => by simp only [Rep] at h; obtain ⟨rfl, _⟩ := h; rfl
  | .pair a b, _, _, h => by
    simp only [Rep] at h
    obtain ⟨c1, c2, rfl, h1, h2⟩ := h
    simp [Ty.size, Rep_len h1, Rep_len h2]
  | .sl _, _, _, h => by simp only [Rep] at h; obtain ⟨A, c, rfl, _⟩ := h; rfl

theorem Rep_mono {w w' : World} {S S' : Nat → Prop} (hS : ∀ b, S b → S' b) (hA : Agree S w w') :
    ∀ {t : Ty} {x : t.den} {cs : List Value}, Rep w S t x cs → Rep w' S' t x cs
  | .int _, _, _, h => by simp only [Rep] at h ⊢; exact h
  | .bool, _, _, h => by simp only [Rep] at h ⊢; exact h
  | .str, _, _, h => by simp only [Rep] at h ⊢; exact h
  | .pair a b, _, _, h => by
    simp only [Rep] at h ⊢
    obtain ⟨c1, c2, e, h1, h2⟩ := h
    exact ⟨c1, c2, e, Rep_mono hS hA h1, Rep_mono hS hA h2⟩
  | .sl t, xs, _, h => by
    simp only [Rep] at h ⊢
    obtain ⟨A, c, e, h1, h2, h3⟩ := h
    refine ⟨A, c, e, h1, h2, fun hne => ?_⟩
    obtain ⟨a, ea, hs, hsp, h4⟩ := h3 hne
    refine ⟨a, ea, hS _ hs, hsp, fun i hi => ?_⟩
    obtain ⟨d, hd, hc⟩ := h4 i hi
    exact ⟨d, Rep_mono hS hA hd, cellsAt_agree hA (by rw [Addr.add_block]; exact hs) hc⟩

theorem Rep_flat {w w' : World} {S S' : Nat → Prop} : ∀ {t : Ty} {x : t.den} {cs : List Value}, t.flat = true → Rep w S t x cs → Rep w' S' t x cs
  | .int _, _, _, _, h => by simp only [Rep] at h ⊢; exact h
  | .bool, _, _, _, h => by simp only [Rep] at h ⊢; exact h
  | .str, _, _, _, h => by simp only [Rep] at h ⊢; exact h
  | .pair a b, _, _, hf, h => by
    simp only [Ty.flat, Bool.and_eq_true] at hf
    simp only [Rep] at h ⊢
    obtain ⟨c1, c2, e, h1, h2⟩ := h
    exact ⟨c1, c2, e, Rep_flat hf.1 h1, Rep_flat hf.2 h2⟩
  | .sl t, xs, _, hf, h => by simp [Ty.flat] at hf

theorem Rep_one {w : World} {S : Nat → Prop} : ∀ {t : Ty} {x : t.den} {cs : List Value}, Rep w S t x cs → ∀ u, u ∈ cs → u.oneCell' = true
  | .int _, _, _, h, u, hu => by simp only [Rep] at h; subst h; simp at hu; subst hu; rfl
  | .bool, _, _, h, u, hu => by simp only [Rep] at h; subst h; simp at hu; subst hu; rfl
  | .str, _, _, h, u, hu => by simp only [Rep] at h; obtain ⟨rfl, _⟩ := h; simp at hu; subst hu; rfl
  | .pair a b, _, _, h, u, hu => by
    simp only [Rep] at h
    obtain ⟨c1, c2, rfl, h1, h2⟩ := h
    rcases List.mem_append.1 hu with hu | hu
    · exact Rep_one h1 u hu
    · exact Rep_one h2 u hu
  | .sl _, _, _, h, u, hu => by simp only [Rep] at h; obtain ⟨A, c, rfl, _⟩ := h; simp at hu; subst hu; rfl

/-! ### Abstract values and the machine's -/
def Blk.live : Blk → Bool
  | .gone => false
  | _ => true

def liveAt (hp : List Blk) (h : Nat) : Prop := ∃ k, hp[h]? = some k ∧ k.live = true

def blkOf : Value → Option Nat
  | .pointer (some a) => some a.block
  | .slice (some a) _ _ => some a.block
  | _ => none

/-- A pointer to cell j of what reads as x. -/
def TP (w : World) (S : Nat → Prop) (t : Ty) (x : t.den) (j : Nat) (v : Value) : Prop :=
  ∃ (a : Addr) (d : List Value), v = .pointer (some (a.add j)) ∧ a.spot = none ∧ S a.block ∧ Rep w S t x d ∧ cellsAt w a d

def PtrR (hp : List Blk) (ρ : Nat → Value) (h j : Nat) (v : Value) : Prop :=
  h < hp.length ∧ ∀ cs, hp[h]? = some (.box cs) → ∃ b, ρ h = .pointer (some ⟨b, 0, none⟩) ∧ v = .pointer (some ⟨b, j, none⟩)

def Cap0 (w : World) (S : Nat → Prop) (hp : List Blk) (ρ : Nat → Value) : Cap → Value → Prop
  | .ref h j, v => PtrR hp ρ h j v
  | .tp t x j, v => TP w S t x j v
  | .val t x, v => Rep w S t x [v]

def CapR (w : World) (S : Nat → Prop) (hp : List Blk) (ρ : Nat → Value) (c : Cap) (v : Value) : Prop := v.oneCell' = true ∧ Cap0 w S hp ρ c v

def CV0 (w : World) (S : Nat → Prop) (hp : List Blk) (ρ : Nat → Value) : CV → Value → Prop
  | .val t x, v => Rep w S t x [v]
  | .own h, v => h < hp.length ∧ ∀ e t xs, hp[h]? = some (.row e t xs) → v = ρ h
  | .ptr h j, v => PtrR hp ρ h j v
  | .tptr t x j, v => TP w S t x j v
  | .eptr h i j, v => h < hp.length ∧ ∀ e t xs, hp[h]? = some (.row e t xs) →
      ∃ b n c, ρ h = .slice (some ⟨b, 0, none⟩) n c ∧ v = .pointer (some ⟨b, i * t.size + j, none⟩) ∧ i < xs.length
  | .fn f caps, v => ∃ us : List Value, v = .func (.func f) #[] us.toArray ∧ All2 (CapR w S hp ρ) caps us
  | .nil, v => v = .slice none 0 0
  | .nilp, v => v = .pointer none
  | .junk, _ => True

def CVR (w : World) (S : Nat → Prop) (hp : List Blk) (ρ : Nat → Value) (c : CV) (v : Value) : Prop := v.oneCell' = true ∧ CV0 w S hp ρ c v

def CompR (w : World) (S : Nat → Prop) (hp : List Blk) (ρ : Nat → Value) (c : Bool × List CV) (v : Value) : Prop :=
  match c with
  | (true, cs) => ∃ us : List Value, v = .agg us.toArray ∧ All2 (CVR w S hp ρ) cs us
  | (false, cs) => All2 (CVR w S hp ρ) cs [v]

def AVR (w : World) (S : Nat → Prop) (hp : List Blk) (ρ : Nat → Value) : AV → Value → Prop
  | .one c, v => CVR w S hp ρ c v
  | .agg cs, v => ∃ us : List Value, v = .agg us.toArray ∧ All2 (CVR w S hp ρ) cs us
  | .tup vs, v => ∃ us : List Value, v = .tuple us.toArray ∧ All2 (CompR w S hp ρ) vs us
  | .junk, _ => True

/-- The blocks that trees may lead to. -/
def Sof (B : Nat) (S0 : Nat → Prop) (hp : List Blk) (ρ : Nat → Value) (w : World) (b : Nat) : Prop :=
  (S0 b ∨ B ≤ b) ∧ b < w.heap.size ∧ ∀ h, liveAt hp h → blkOf (ρ h) ≠ some b

def BlkR (B : Nat) (S0 : Nat → Prop) (hp : List Blk) (ρ : Nat → Value) (w : World) (h : Nat) : Blk → Prop
  | .box cs => ∃ (b : Nat) (us : List Value) (T : TypeId), ρ h = .pointer (some ⟨b, 0, none⟩) ∧ B ≤ b ∧ w.heap[b]? = some (.cells us.toArray T (0, 0)) ∧
      All2 (CVR w (Sof B S0 hp ρ w) hp ρ) cs us
  | .row e t xs => ∃ us : List Value, w.ownsRow B e t.size (ρ h) xs.length us ∧ xs.length ≤ big ∧
      ∀ i (hi : i < xs.length), Rep w (Sof B S0 hp ρ w) t xs[i] ((us.drop (i * t.size)).take t.size)
  | .gone => True

structure HInv (B : Nat) (S0 : Nat → Prop) (hp : List Blk) (ρ : Nat → Value) (w : World) : Prop where
  blk : ∀ (h : Nat) k, hp[h]? = some k → BlkR B S0 hp ρ w h k
  dist : ∀ h h' b, liveAt hp h → liveAt hp h' → blkOf (ρ h) = some b → blkOf (ρ h') = some b → h = h'

structure InvR (w0 : World) (S0 : Nat → Prop) (st : St) (ρ : Nat → Value) (a : Act) (w : World) : Prop where
  s0 : ∀ b, S0 b → b < w0.heap.size
  below : Below w0.heap.size w0 w
  heap : HInv w0.heap.size S0 st.hp ρ w
  fr : ∀ (i : Nat) v, st.fr[i]? = some v → ∃ u, a.tmps[i]? = some u ∧ AVR w (Sof w0.heap.size S0 st.hp ρ w) st.hp ρ v u
  len : a.tmps.size = st.fr.length
  dfr : a.defers = []

def Inv (w0 : World) (S0 : Nat → Prop) (st : St) (a : Act) (w : World) : Prop := ∃ ρ, InvR w0 S0 st ρ a w

/-! ### It lives on -/
def sameKind : Blk → Blk → Prop
  | .box _, .box _ => True
  | .row e t xs, .row e' t' xs' => e = e' ∧ t = t' ∧ xs.length = xs'.length
  | _, _ => False

structure Chg (S : Nat → Prop) (hp : List Blk) (ρ : Nat → Value) (w : World) (S' : Nat → Prop) (hp' : List Blk) (ρ' : Nat → Value) (w' : World) : Prop where
  sub : ∀ b, S b → S' b
  agree : Agree S w w'
  len : hp.length ≤ hp'.length
  same : ∀ (h : Nat) k', h < hp.length → hp'[h]? = some k' → k'.live = true → ∃ k, hp[h]? = some k ∧ sameKind k k' ∧ ρ' h = ρ h

section
variable {S S' : Nat → Prop} {hp hp' : List Blk} {ρ ρ' : Nat → Value} {w w' : World}

theorem TP_chg (C : Chg S hp ρ w S' hp' ρ' w') {t : Ty} {x : t.den} {j : Nat} {v : Value} (h : TP w S t x j v) : TP w' S' t x j v := by
  obtain ⟨a, d, e, hs, hb, hr, hc⟩ := h
  exact ⟨a, d, e, hs, C.sub _ hb, Rep_mono C.sub C.agree hr, cellsAt_agree C.agree hb hc⟩

theorem PtrR_chg (C : Chg S hp ρ w S' hp' ρ' w') {h j : Nat} {v : Value} (k : PtrR hp ρ h j v) : PtrR hp' ρ' h j v := by
  refine ⟨Nat.lt_of_lt_of_le k.1 C.len, fun cs hcs => ?_⟩
  obtain ⟨k0, h0, hk, hρ⟩ := C.same h _ k.1 hcs rfl
  cases k0 with
  | box cs0 =>
    obtain ⟨b, h1, h2⟩ := k.2 cs0 h0
    exact ⟨b, hρ.trans h1, h2⟩
  | row _ _ _ => exact hk.elim
  | gone => exact hk.elim

theorem CapR_chg (C : Chg S hp ρ w S' hp' ρ' w') {c : Cap} {v : Value} (h : CapR w S hp ρ c v) : CapR w' S' hp' ρ' c v := by
  refine ⟨h.1, ?_⟩
  have h := h.2
  cases c with
  | ref h' j => exact PtrR_chg C h
  | tp t x j => exact TP_chg C h
  | val t x => exact Rep_mono C.sub C.agree h

theorem CVR_chg (C : Chg S hp ρ w S' hp' ρ' w') {c : CV} {v : Value} (h : CVR w S hp ρ c v) : CVR w' S' hp' ρ' c v := by
  refine ⟨h.1, ?_⟩
  have h2 := h.2
  cases c with
  | val t x => exact Rep_mono C.sub C.agree h2
  | own g =>
    refine ⟨Nat.lt_of_lt_of_le h2.1 C.len, fun e t xs hx => ?_⟩
    obtain ⟨k0, h0, hk, hρ⟩ := C.same g _ h2.1 hx rfl
    cases k0 with
    | row e0 t0 xs0 => rw [hρ]; exact h2.2 _ _ _ h0
    | box _ => exact hk.elim
    | gone => exact hk.elim
  | ptr g j => exact PtrR_chg C h2
  | tptr t x j => exact TP_chg C h2
  | eptr g i j =>
    refine ⟨Nat.lt_of_lt_of_le h2.1 C.len, fun e t xs hx => ?_⟩
    obtain ⟨k0, h0, hk, hρ⟩ := C.same g _ h2.1 hx rfl
    cases k0 with
    | row e0 t0 xs0 =>
      obtain ⟨rfl, rfl, hl⟩ := hk
      obtain ⟨b, n, c, e1, e2, hi⟩ := h2.2 _ _ _ h0
      exact ⟨b, n, c, hρ.trans e1, e2, hl ▸ hi⟩
    | box _ => exact hk.elim
    | gone => exact hk.elim
  | fn f caps =>
    obtain ⟨us, e, hc⟩ := h2
    exact ⟨us, e, hc.mono fun _ _ k => CapR_chg C k⟩
  | nil => exact h2
  | nilp => exact h2
  | junk => trivial

theorem CompR_chg (C : Chg S hp ρ w S' hp' ρ' w') {c : Bool × List CV} {v : Value} (h : CompR w S hp ρ c v) : CompR w' S' hp' ρ' c v := by
  obtain ⟨b, cs⟩ := c
  cases b with
  | true => obtain ⟨us, e, hc⟩ := h; exact ⟨us, e, hc.mono fun _ _ k => CVR_chg C k⟩
  | false => exact All2.mono (fun _ _ k => CVR_chg C k) h

theorem AVR_chg (C : Chg S hp ρ w S' hp' ρ' w') {c : AV} {v : Value} (h : AVR w S hp ρ c v) : AVR w' S' hp' ρ' c v := by
  cases c with
  | one c => exact CVR_chg C h
  | agg cs => obtain ⟨us, e, hc⟩ := h; exact ⟨us, e, hc.mono fun _ _ k => CVR_chg C k⟩
  | tup vs => obtain ⟨us, e, hc⟩ := h; exact ⟨us, e, hc.mono fun _ _ k => CompR_chg C k⟩
  | junk => trivial

/-- The same state in a world that has the same blocks, and more. -/
theorem Chg_world {B : Nat} {S0 : Nat → Prop} (h : ∀ b, b < w.heap.size → w'.heap[b]? = w.heap[b]?) (hs : w.heap.size ≤ w'.heap.size) :
    Chg (Sof B S0 hp ρ w) hp ρ w (Sof B S0 hp ρ w') hp ρ w' where
  sub b hb := ⟨hb.1, Nat.lt_of_lt_of_le hb.2.1 hs, hb.2.2⟩
  agree b hb := h b hb.2.1
  len := Nat.le_refl _
  same g k' _ hk' hl := ⟨k', hk', by cases k' <;> simp_all [sameKind, Blk.live], rfl⟩
end

theorem sameKind_refl : ∀ {k : Blk}, k.live = true → sameKind k k
  | .box _, _ => trivial
  | .row _ _ _, _ => ⟨rfl, rfl, rfl⟩
  | .gone, h => by simp [Blk.live] at h

/-- A block's relation, carried on; its own block is as it was. -/
theorem BlkR_chg {B : Nat} {S0 : Nat → Prop} {hp hp' : List Blk} {ρ ρ' : Nat → Value} {w w' : World} {h : Nat} {k : Blk}
    (C : Chg (Sof B S0 hp ρ w) hp ρ w (Sof B S0 hp' ρ' w') hp' ρ' w') (hρ : ρ' h = ρ h) (hb : ∀ b, blkOf (ρ h) = some b → w'.heap[b]? = w.heap[b]?)
    (H : BlkR B S0 hp ρ w h k) : BlkR B S0 hp' ρ' w' h k := by
  cases k with
  | box cs =>
    obtain ⟨b, us, T, e, hB, hh, ha⟩ := H
    exact ⟨b, us, T, hρ.trans e, hB, (hb b (by rw [e]; rfl)).trans hh, ha.mono fun _ _ k => CVR_chg C k⟩
  | row e t xs =>
    obtain ⟨us, ho, hl, hr⟩ := H
    refine ⟨us, ⟨ho.1, ?_⟩, hl, fun i hi => Rep_mono C.sub C.agree (hr i hi)⟩
    rcases ho.2 with hn | ⟨g, cap, cur, hv, hg, hh, rest⟩
    · exact .inl ⟨hρ.trans hn.1, hn.2⟩
    · exact .inr ⟨g, cap, cur, hρ.trans hv, hg, (hb g (by rw [hv]; rfl)).trans hh, rest⟩
  | gone => trivial

theorem BlkR_block {B : Nat} {S0 : Nat → Prop} {hp : List Blk} {ρ : Nat → Value} {w : World} {h : Nat} {k : Blk} (hl : k.live = true)
    (H : BlkR B S0 hp ρ w h k) {b : Nat} (hb : blkOf (ρ h) = some b) : B ≤ b ∧ b < w.heap.size := by
  cases k with
  | box cs =>
    obtain ⟨b', us, T, e, hB, hh, _⟩ := H
    rw [e] at hb
    simp only [blkOf, Option.some.injEq] at hb
    subst hb
    exact ⟨hB, (Array.getElem?_eq_some_iff.1 hh).1⟩
  | row e t xs =>
    obtain ⟨us, ho, _⟩ := H
    rcases ho.2 with ⟨hn, _⟩ | ⟨g, cap, cur, hv, hg, hh, _⟩
    · rw [hn] at hb; simp [blkOf] at hb
    · rw [hv] at hb
      simp only [blkOf, Option.some.injEq] at hb
      subst hb
      exact ⟨hg, (Array.getElem?_eq_some_iff.1 hh).1⟩
  | gone => simp [Blk.live] at hl

end Go.Proofs.Ytdgnmbhnilidlaa.Ab
