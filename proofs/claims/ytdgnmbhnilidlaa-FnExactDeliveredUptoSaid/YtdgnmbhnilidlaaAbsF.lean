/- The evaluator: operations that make or change memory, calls, regions, code, functions. Definitions alone. -/
import Derived.Test.YtdgnmbhnilidlaaAbsE
set_option linter.unusedVariables false
namespace Go.Proofs.Ytdgnmbhnilidlaa.Ab
open Go Go.RowKit

/-! ### What a function takes and gives -/
inductive CK where
  | tp (t : Ty) | v (t : Ty)

abbrev CK.den : CK → Type
  | .tp t => t.den
  | .v t => t.den

abbrev CKs : List CK → Type
  | [] => Unit
  | c :: l => c.den × CKs l

/-- A parameter: a value (a struct or array: agg); a pointer to what is only read; a function with what it captured. -/
inductive AK where
  | v (t : Ty) (agg : Bool) | tp (t : Ty) | f (fid : FuncId) (caps : List CK)

abbrev AK.den : AK → Type
  | .v t _ => t.den
  | .tp t => t.den
  | .f _ caps => CKs caps

abbrev AKs : List AK → Type
  | [] => Unit
  | c :: l => c.den × AKs l

/-- Cells of a result: data; a row that whoever called owns. -/
inductive RK where
  | v (t : Ty) | o (e : TypeId) (t : Ty)

abbrev RK.den : RK → Type
  | .v t => t.den
  | .o _ t => List t.den

abbrev RKs : List RK → Type
  | [] => Unit
  | c :: l => c.den × RKs l

abbrev Res : List (Bool × List RK) → Type
  | [] => Unit
  | c :: l => RKs c.2 × Res l

def RK.flat : RK → Bool
  | .v t => t.flat
  | .o _ t => t.flat
def RK.own : RK → Bool
  | .v _ => false
  | .o _ _ => true

def resFlat (rs : List (Bool × List RK)) : Bool := rs.all fun r => r.2.all RK.flat
def resOwn (rs : List (Bool × List RK)) : Bool := rs.any fun r => r.2.any RK.own

/-! ### Results, laid out: cells and rows; n: the first free handle -/
def cellsRK : (l : List RK) → RKs l → Nat → List CV × List Blk
  | [], _, _ => ([], [])
  | .v t :: l, x, n => let q := cellsRK l x.2 n; (expl t x.1 ++ q.1, q.2)
  | .o e t :: l, x, n => let q := cellsRK l x.2 (n + 1); (.own n :: q.1, .row e t x.1 :: q.2)

def cellsRes : (rs : List (Bool × List RK)) → Res rs → Nat → List (Bool × List CV) × List Blk
  | [], _, _ => ([], [])
  | (b, l) :: rs, x, n => let p := cellsRK l x.1 n; let q := cellsRes rs x.2 (n + p.2.length); ((b, p.1) :: q.1, p.2 ++ q.2)

def avOfComp : Bool × List CV → AV
  | (true, cs) => .agg cs
  | (false, [c]) => .one c
  | _ => .junk

def avOf : List (Bool × List CV) → AV
  | [x] => avOfComp x
  | l => .tup l

/-! ### Arguments read -/
def boxCells (hp : List Blk) (h j n : Nat) : List CV :=
  match hp[h]? with
  | some (.box cs) => (cs.drop j).take n
  | _ => []

def getCap (hp : List Blk) : (k : CK) → Cap → Option k.den
  | .tp t, .ref h j => rdCs hp t (boxCells hp h j t.size)
  | .tp t, .tp u x j => rdCs hp t (((expl u x).drop j).take t.size)
  | .v t, .val u x => Ty.cast u t x
  | _, _ => none

def getCaps (hp : List Blk) : (ks : List CK) → List Cap → Option (CKs ks)
  | [], [] => some ()
  | k :: ks, c :: cs => (getCap hp k c).bind fun x => (getCaps hp ks cs).bind fun y => some (x, y)
  | _, _ => none

def getArg (hp : List Blk) : (k : AK) → AV → Option k.den
  | .v t false, .one c => rdCs hp t [c]
  | .v t true, .agg cs => rdCs hp t cs
  | .tp t, .one (.ptr h j) => rdCs hp t (boxCells hp h j t.size)
  | .tp t, .one (.tptr u x j) => rdCs hp t (((expl u x).drop j).take t.size)
  | .f fid ks, .one (.fn g cs) => cond (Nat.beq g fid) (getCaps hp ks cs) none
  | _, _ => none

def getArgs (hp : List Blk) : (ks : List AK) → List AV → Option (AKs ks)
  | [], [] => some ()
  | k :: ks, c :: cs => (getArg hp k c).bind fun x => (getArgs hp ks cs).bind fun y => some (x, y)
  | _, _ => none

def boxOwns (hp : List Blk) (h : Nat) : List Nat := match hp[h]? with | some (.box cs) => cs.flatMap ownsC | _ => []

def capOwns (hp : List Blk) : Cap → List Nat
  | .ref h _ => h :: boxOwns hp h
  | _ => []

def argOwns (hp : List Blk) : AV → List Nat
  | .one (.own h) => [h]
  | .one (.ptr h _) => h :: boxOwns hp h
  | .one (.fn _ cs) => cs.flatMap (capOwns hp)
  | .agg cs => cs.flatMap ownsC
  | _ => []

/-! ### What is known of a call of a function -/
def CapsR (w : World) (S : Nat → Prop) : (ks : List CK) → CKs ks → List Value → Prop
  | [], _, us => us = []
  | .tp t :: ks, x, us => ∃ u us', us = u :: us' ∧ TP w S t x.1 0 u ∧ CapsR w S ks x.2 us'
  | .v t :: ks, x, us => ∃ u us', us = u :: us' ∧ Rep w S t x.1 [u] ∧ CapsR w S ks x.2 us'

def ArgR (w : World) (S : Nat → Prop) : (k : AK) → k.den → Value → Prop
  | .v t false, x, v => Rep w S t x [v]
  | .v t true, x, v => ∃ us : List Value, v = .agg us.toArray ∧ Rep w S t x us
  | .tp t, x, v => TP w S t x 0 v
  | .f fid ks, x, v => ∃ us : List Value, v = .func (.func fid) #[] us.toArray ∧ CapsR w S ks x us

def ArgsR (w : World) (S : Nat → Prop) : (ks : List AK) → AKs ks → List Value → Prop
  | [], _, us => us = []
  | k :: ks, x, us => ∃ u us', us = u :: us' ∧ ArgR w S k x.1 u ∧ ArgsR w S ks x.2 us'

def ResR (B : Nat) (S : Nat → Prop) (w : World) (rs : List (Bool × List RK)) (r : Res rs) (v : Value) : Prop :=
  ∃ ρ, HInv B S (cellsRes rs r 0).2 ρ w ∧ AVR w (Sof B S (cellsRes rs r 0).2 ρ w) (cellsRes rs r 0).2 ρ (avOf (cellsRes rs r 0).1) v

def PureC (P : Program) (f : FuncId) (ks : List AK) (a : AKs ks) (rs : List (Bool × List RK)) (r : Res rs) : Prop :=
  ∀ (S : Nat → Prop) (w : World) (vs : List Value), (∀ b, S b → b < w.heap.size) → ArgsR w S ks a vs →
    Calls P f vs.toArray w fun e w' => ∃ v, e = .returned v ∧ Below w.heap.size w w' ∧ ResR w.heap.size S w' rs r v

structure Entry (P : Program) where
  f : FuncId
  ks : List AK
  rs : List (Bool × List RK)
  fn : Nat → AKs ks → Option (Res rs)
  hf : ∃ F, P.funcs[f]? = some F ∧ (F.name == "runtime.NumGoroutine") = false ∧ F.body.isNone = false
  ok : ∀ k a r, fn k a = some r → PureC P f ks a rs r

section
variable {P : Program} {ρ : Type}

def withEntry : List (Entry P) → FuncId → List Blk → List AV → (Entry P → Option ρ) → Option ρ
  | [], _, _, _, _ => none
  | E :: Γ, f, hp, avs, K => cond (Nat.beq E.f f && (getArgs hp E.ks avs).isSome) (K E) (withEntry Γ f hp avs K)

def capAV : Cap → AV
  | .ref h j => .one (.ptr h j)
  | .tp t x j => .one (.tptr t x j)
  | .val t x => .one (.val t x)

def opCall (Γ : List (Entry P)) (k : Nat) (st : St) (fv : Operand) (args : List Operand) (K : AV → List Blk → Option ρ) : Option ρ :=
  match ev st fv with
  | .one (.fn f caps) =>
    withEntry Γ f st.hp (args.map (ev st) ++ caps.map capAV) fun E =>
      (getArgs st.hp E.ks (args.map (ev st) ++ caps.map capAV)).bind fun a => (E.fn k a).bind fun r =>
        let hp' := cond (resFlat E.rs) st.hp (St.kill st.hp ((args.map (ev st) ++ caps.map capAV).flatMap (argOwns st.hp)))
        let q := cellsRes E.rs r hp'.length
        K (avOf q.1) (hp' ++ q.2)
  | _ => none

/-! ### Memory made and changed -/
def opAlloc (Δ : List (TE P)) (st : St) (T : TypeId) (K : AV → List Blk → Option ρ) : Option ρ :=
  (TE.find Δ T).bind fun e =>
    cond (e.zero.cells.toList.all Value.oneCell') (K (.one (.ptr st.hp.length 0)) (st.hp ++ [.box (e.zero.cells.toList.map constC)])) none

def opBox (st : St) (x : Operand) (K : AV → List Blk → Option ρ) : Option ρ :=
  (cells (ev st x)).bind fun cs => K (.one (.ptr st.hp.length 0)) (st.hp ++ [.box cs])

def opStore (Δ : List (TE P)) (st : St) (T : TypeId) (addr x : Operand) (K : AV → List Blk → Option ρ) : Option ρ :=
  (TE.find Δ T).bind fun e => (cells (ev st x)).bind fun cs =>
    cond (Nat.beq cs.length e.size)
      (match ev st addr with
       | .one (.ptr h j) =>
         (match st.hp[h]? with
          | some (.box old) => cond (Nat.ble (j + cs.length) old.length) (K .junk (st.hp.set h (.box (spl old j cs)))) none
          | _ => none)
       | .one (.eptr h i j) =>
         (match st.hp[h]? with
          | some (.row E t xs) =>
            cond (Nat.ble (j + cs.length) t.size && !((cs.flatMap ownsC).elem h))
              ((rdCs st.hp t (spl (expl t (xs.getD i t.zero)) j cs)).bind fun y =>
                K .junk ((St.kill st.hp (cs.flatMap ownsC)).set h (.row E t (xs.set i y)))) none
          | _ => none)
       | _ => none) none

/-- The typed elements of a literal, in order. -/
def litElems (st : St) (t : Ty) : Nat → List (Nat × Operand) → Option (List t.den)
  | _, [] => some []
  | n, (i, x) :: l => cond (Nat.beq i n) ((cells (ev st x)).bind fun cs => (rdCs st.hp t cs).bind fun y => (litElems st t (n + 1) l).bind fun ys => some (y :: ys)) none

def litOwns (st : St) (l : List (Nat × Operand)) : List Nat := l.flatMap fun p => match cells (ev st p.2) with | some cs => cs.flatMap ownsC | none => []

def opBuildSlice (Δ : List (TE P)) (st : St) (T : TypeId) (len : Nat) (parts : List (Nat × Operand)) (K : AV → List Blk → Option ρ) : Option ρ :=
  (TE.find Δ T).bind fun e =>
    match e.sh with
    | .sl E => (TE.find Δ E).bind fun ee => ee.ty.bind fun t =>
      cond (Nat.beq t.size ee.size && (Nat.ble 1 t.size && (Nat.beq parts.length len && Nat.ble (len * ee.size) 16777216)))
        ((litElems st t 0 parts).bind fun xs =>
          let hp' := St.kill st.hp (litOwns st parts)
          K (.one (.own hp'.length)) (hp' ++ [.row E t xs])) none
    | _ => none

/-- A type's zero value is the machine's. -/
def zeroOk : Ty → List Value → Bool
  | .int k, cs => match cs with | [.int k' n] => decide (k = k') && n == 0 | _ => false
  | .bool, cs => match cs with | [.bool b] => !b | _ => false
  | .str, cs => match cs with | [.string s] => Nat.beq s.size 0 | _ => false
  | .pair a b, cs => zeroOk a (cs.take a.size) && zeroOk b (cs.drop a.size)
  | .sl _, cs => match cs with | [.slice none 0 0] => true | _ => false

def opMakeSlice (Δ : List (TE P)) (st : St) (T : TypeId) (l c : Operand) (K : AV → List Blk → Option ρ) : Option ρ :=
  (TE.find Δ T).bind fun e =>
    match e.sh with
    | .sl E => (TE.find Δ E).bind fun ee => ee.ty.bind fun t =>
      cond (Nat.beq t.size ee.size && (Nat.ble 1 t.size && (Nat.ble 1 ee.bytes && zeroOk t ee.zero.cells.toList)))
        (match l, c with
         | .tmp i, .tmp j =>
           cond (Nat.beq i j)
             (match ev st (.tmp i) with
              | .one (.val (.int _) n) =>
                cond (decide (0 ≤ n) && decide (n * (ee.bytes : Int) ≤ 140737488355328)) (K (.one (.own st.hp.length)) (st.hp ++ [.row E t (List.replicate n.toNat t.zero)])) none
              | _ => none) none
         | .const (.int _ 0), c =>
           (match ev st c with
            | .one (.val (.int _) n) =>
              cond (decide (0 ≤ n) && decide (n * (ee.bytes : Int) ≤ 140737488355328)) (K (.one (.own st.hp.length)) (st.hp ++ [.row E t []])) none
            | _ => none)
         | _, _ => none) none
    | _ => none

def opAppend (Δ : List (TE P)) (st : St) (T : TypeId) (s x : Operand) (K : AV → List Blk → Option ρ) : Option ρ :=
  (TE.find Δ T).bind fun e =>
    match e.sh with
    | .sl E => (TE.find Δ E).bind fun ee =>
      cond (Nat.ble 1 ee.bytes && Nat.beq ee.zero.cells.size ee.size)
        (match ev st s, ev st x with
         | .one (.own h), .one cx =>
           (match st.hp[h]? with
            | some (.row E' t xs) =>
              cond (Nat.beq E E' && (Nat.beq t.size ee.size && Nat.ble 1 t.size))
                ((rdC st.hp (.sl t) cx).bind fun ys =>
                  cond (Nat.ble ((List.length xs + List.length ys) * ee.bytes) 140737488355328)
                    (K (.one (.own st.hp.length)) (st.hp.set h .gone ++ [.row E t (xs ++ ys)])) none) none
            | _ => none)
         | .one .nil, .one cx => ee.ty.bind fun t =>
              cond (Nat.beq t.size ee.size && Nat.ble 1 t.size)
                ((rdC st.hp (.sl t) cx).bind fun ys =>
                  cond (Nat.ble (List.length ys * ee.bytes) 140737488355328)
                    (K (.one (.own st.hp.length)) (st.hp ++ [.row E t ys])) none) none
         | _, _ => none) none
    | _ => none

def effOp (Δ : List (TE P)) (Γ : List (Entry P)) (k : Nat) (st : St) (o : Op) (K : AV → List Blk → Option ρ) : Option ρ :=
  match o with
  | .alloc T => opAlloc Δ st T K
  | .box _ x => opBox st x K
  | .store T a x => opStore Δ st T a x K
  | .buildSlice T n parts => opBuildSlice Δ st T n parts.toList K
  | .makeSlice T l c => opMakeSlice Δ st T l c K
  | .call c =>
    match c.callee with
    | .builtin .append =>
      (match c.args.toList, c.argTypes.toList with
       | [s, x], [T, U] => cond (Nat.beq T U) (opAppend Δ st T s x K) none
       | _, _ => none)
    | .value f => opCall Γ k st f c.args.toList K
    | _ => none
  | _ => none

def isEff : Op → Bool
  | .alloc _ => true
  | .box _ _ => true
  | .store _ _ _ => true
  | .buildSlice _ _ _ => true
  | .makeSlice _ _ _ => true
  | .call c =>
    match c.callee with
    | .builtin .append => true
    | .value _ => true
    | _ => false
  | _ => false

def stepOp (Δ : List (TE P)) (Γ : List (Entry P)) (k : Nat) (st : St) (o : Oper) (K : St → Option ρ) : Option ρ :=
  cond (isEff o.op) (effOp Δ Γ k st o.op fun av hp => K (St.put ⟨st.fr, hp⟩ o.dst av)) (pureOp Δ st o.op fun av => K (st.put o.dst av))

/-! ### Regions -/
/-- An operation with what guards it. S: what is done where it is wanted; N: where it isn't. -/
def guarded (ops : List Oper) (st : St) (o : Oper) (S N : St → Option ρ) : Option ρ :=
  match o.guard with
  | none => S st
  | some (j, want) =>
    match (ops[j]?).bind (·.dst) with
    | none => none
    | some d =>
      match st.get d with
      | .one (.val .bool b) =>
        cond b (cond want (S ⟨st.fr.set d (.one (.val .bool true)), st.hp⟩) (N ⟨st.fr.set d (.one (.val .bool true)), st.hp⟩))
          (cond want (N ⟨st.fr.set d (.one (.val .bool false)), st.hp⟩) (S ⟨st.fr.set d (.one (.val .bool false)), st.hp⟩))
      | .tup [] => N st
      | _ => none

def runOps (Δ : List (TE P)) (Γ : List (Entry P)) (k : Nat) (ops : List Oper) : List Oper → St → (St → Option ρ) → Option ρ
  | [], st, K => K st
  | o :: rest, st, K => guarded ops st o (fun st1 => stepOp Δ Γ k st1 o fun st2 => runOps Δ Γ k ops rest st2 K) (fun st1 => runOps Δ Γ k ops rest (st1.put o.dst (.tup [])) K)

/-- One result, of which its reading says all. -/
def oneRes : List (Bool × List RK) → Bool
  | [(false, [.v t])] => Nat.beq t.size 1 && t.flat
  | [(true, [.v t])] => t.flat
  | _ => false

/-- A call that leaves the state's blocks as they are. -/
def opCallQ (Γ : List (Entry P)) (k : Nat) (st : St) (fv : Operand) (args : List Operand) (K : AV → Option ρ) : Option ρ :=
  match ev st fv with
  | .one (.fn f caps) =>
    withEntry Γ f st.hp (args.map (ev st) ++ caps.map capAV) fun E =>
      cond (oneRes E.rs && (resFlat E.rs && !(resOwn E.rs)))
        ((getArgs st.hp E.ks (args.map (ev st) ++ caps.map capAV)).bind fun a => (E.fn k a).bind fun r => K (avOf (cellsRes E.rs r 0).1)) none
  | _ => none

def quietOp (Δ : List (TE P)) (Γ : List (Entry P)) (k : Nat) (st : St) (o : Op) (K : AV → Option ρ) : Option ρ :=
  match o with
  | .call c =>
    match c.callee with
    | .value f => opCallQ Γ k st f c.args.toList K
    | _ => pureOp Δ st o K
  | _ => pureOp Δ st o K

/-- The operations that leave the state's blocks as they are. -/
def runQ (Δ : List (TE P)) (Γ : List (Entry P)) (k : Nat) (ops : List Oper) : List Oper → St → (St → Option ρ) → Option ρ
  | [], st, K => K st
  | o :: rest, st, K => guarded ops st o (fun st1 => quietOp Δ Γ k st1 o.op fun av => runQ Δ Γ k ops rest (st1.put o.dst av) K) (fun st1 => runQ Δ Γ k ops rest (st1.put o.dst (.tup [])) K)

/-- A region that draws its order: the operations as they stand; an operation that isn't alone among those that may come up must leave the blocks as they are; one that is alone may be a call of whatever kind. -/
def stepD (Δ : List (TE P)) (Γ : List (Entry P)) (k : Nat) (st : St) (o : Oper) (K : St → Option ρ) : Option ρ :=
  match o.op with
  | .call c =>
    match c.callee with
    | .value f => opCall Γ k st f c.args.toList fun av hp => K (St.put ⟨st.fr, hp⟩ o.dst av)
    | _ => quietOp Δ Γ k st o.op fun av => K (st.put o.dst av)
  | _ => quietOp Δ Γ k st o.op fun av => K (st.put o.dst av)

def isOne : List Nat → Nat → Bool
  | [j], i => Nat.beq j i
  | _, _ => false

def runD (Δ : List (TE P)) (Γ : List (Entry P)) (k : Nat) (ops : Array Oper) : List Oper → Nat → Array Bool → St → (St → Option ρ) → Option ρ
  | [], _, listed, st, K => cond (Region.ready .any ops listed).isEmpty (K st) none
  | o :: rest, i, listed, st, K =>
    cond (isOne (Region.ready .any ops listed) i)
      (guarded ops.toList st o (fun st1 => stepD Δ Γ k st1 o fun st2 => runD Δ Γ k ops rest (i + 1) (listed.setIfInBounds i true) st2 K)
        (fun st1 => runD Δ Γ k ops rest (i + 1) (listed.setIfInBounds i true) (st1.put o.dst (.tup [])) K))
      (cond ((Region.ready .any ops listed).contains i && Region.free .any ops listed i)
        (guarded ops.toList st o (fun st1 => quietOp Δ Γ k st1 o.op fun av => runD Δ Γ k ops rest (i + 1) (listed.setIfInBounds i true) (st1.put o.dst av) K)
          (fun st1 => runD Δ Γ k ops rest (i + 1) (listed.setIfInBounds i true) (st1.put o.dst (.tup [])) K)) none)

def forget (st : St) : List Oper → St
  | [] => st
  | o :: l => forget (st.put o.dst .junk) l

def lastDst : List Oper → Option Tmp
  | [] => none
  | [o] => o.dst
  | _ :: l => lastDst l

def boolAt (d : Tmp) (st : St) : Option Bool :=
  match st.get d with
  | .one (.val .bool b) => some b
  | _ => none

def runRegion (Δ : List (TE P)) (Γ : List (Entry P)) (k : Nat) (mrg : Nat → Bool) (id : Nat) (ops : Array Oper) (draw : Bool) (st : St) (K : St → Option ρ) : Option ρ :=
  cond draw
    (cond (Region.noSelect ops) (runD Δ Γ k ops ops.toList 0 (Array.replicate ops.size false) st K) none)
    (cond (mrg id)
      (match lastDst ops.toList with
       | some d => (runQ Δ Γ k ops.toList ops.toList st (boolAt d)).bind fun b => K ((forget st ops.toList).put (some d) (.one (.val .bool b)))
       | none => none)
      (runOps Δ Γ k ops.toList ops.toList st K))

/-! ### Loops: what is kept at a loop's head -/
/-- A cell that is kept: data; a row that is owned; a pointer to a variable; a pointer to what is only read; a function. -/
inductive CPat where
  | v (t : Ty) | o (e : TypeId) (t : Ty) | p (h j : Nat) | tp (t : Ty) | f (fid : FuncId) (caps : List CK) | fr (fid : FuncId) (caps : List (Nat × Nat)) | x

abbrev CPat.den : CPat → Type
  | .v t => t.den
  | .o _ t => List t.den
  | .tp t => t.den
  | .f _ caps => CKs caps
  | .p _ _ => Unit
  | .fr _ _ => Unit
  | .x => Unit

def CPat.unit : CPat → Bool
  | .p _ _ => true
  | .fr _ _ => true
  | .x => true
  | _ => false

abbrev CPats : List CPat → Type
  | [] => Unit
  | .p _ _ :: l => CPats l
  | .fr _ _ :: l => CPats l
  | .x :: l => CPats l
  | .v t :: l => t.den × CPats l
  | .o _ t :: l => List t.den × CPats l
  | .tp t :: l => t.den × CPats l
  | .f _ caps :: l => CKs caps × CPats l

/-- What is kept of a frame: which temporaries (an aggregate or not), and their cells; of the blocks: a variable's cells, or nothing. -/
structure LPat where
  n : Nat
  fr : List (Nat × Bool × List CPat)
  hp : List (Option (List CPat))

abbrev FrD : List (Nat × Bool × List CPat) → Type
  | [] => Unit
  | p :: l => CPats p.2.2 × FrD l
abbrev HpD : List (Option (List CPat)) → Type
  | [] => Unit
  | some p :: l => CPats p × HpD l
  | none :: l => HpD l

abbrev LPat.den (p : LPat) : Type := FrD p.fr × HpD p.hp

def refsEq : List (Nat × Nat) → List Cap → Bool
  | [], [] => true
  | (h, j) :: l, .ref h' j' :: l' => Nat.beq h h' && (Nat.beq j j' && refsEq l l')
  | _, _ => false

/-- Cells read by their patterns: the data, and the rows that are owned (a handle, or nothing: nil), in order. m: how many blocks are kept in place. -/
def getCells (m : Nat) (hp : List Blk) : (ps : List CPat) → List CV → Option (CPats ps × List (Option Nat))
  | [], [] => some ((), [])
  | .x :: ps, _ :: cs => getCells m hp ps cs
  | .p h j :: ps, .ptr h' j' :: cs => cond (Nat.beq h h' && (Nat.beq j j' && Nat.blt h m)) (getCells m hp ps cs) none
  | .fr fid rs :: ps, .fn g caps :: cs => cond (Nat.beq fid g && (refsEq rs caps && rs.all (fun r => Nat.blt r.1 m))) (getCells m hp ps cs) none
  | .v t :: ps, .val u x :: cs => (Ty.cast u t x).bind fun y => (getCells m hp ps cs).bind fun q => some ((y, q.1), q.2)
  | .v (.sl t) :: ps, .nil :: cs => (getCells m hp ps cs).bind fun q => some (([], q.1), q.2)
  | .o e t :: ps, .own h :: cs =>
    (match hp[h]? with
     | some (.row e' u xs) => cond (Nat.beq e e') ((Ty.cast (.sl u) (.sl t) xs).bind fun y => (getCells m hp ps cs).bind fun q => some ((y, q.1), some h :: q.2)) none
     | _ => none)
  | .o _ _ :: ps, .nil :: cs => (getCells m hp ps cs).bind fun q => some (([], q.1), none :: q.2)
  | .tp t :: ps, .tptr u x j :: cs => cond (Nat.beq j 0) ((Ty.cast u t x).bind fun y => (getCells m hp ps cs).bind fun q => some ((y, q.1), q.2)) none
  | .f fid ks :: ps, .fn g caps :: cs =>
    cond (Nat.beq fid g && caps.all (fun c => match c with | .ref _ _ => false | _ => true)) ((getCaps hp ks caps).bind fun y => (getCells m hp ps cs).bind fun q => some ((y, q.1), q.2)) none
  | _, _ => none

def getFr (m : Nat) (st : St) : (ps : List (Nat × Bool × List CPat)) → Option (FrD ps × List (Option Nat))
  | [] => some ((), [])
  | (t, b, ps) :: l =>
    (match b, st.get t with
     | false, .one c => getCells m st.hp ps [c]
     | true, .agg cs => getCells m st.hp ps cs
     | _, _ => none).bind fun q => (getFr m st l).bind fun r => some ((q.1, r.1), q.2 ++ r.2)

def getHp (m : Nat) (hp : List Blk) : (ps : List (Option (List CPat))) → List Blk → Option (HpD ps × List (Option Nat))
  | [], _ => some ((), [])
  | none :: l, _ :: bs => getHp m hp l bs
  | some ps :: l, .box cs :: bs => (getCells m hp ps cs).bind fun q => (getHp m hp l bs).bind fun r => some ((q.1, r.1), q.2 ++ r.2)
  | _, _ => none

def distinct : List (Option Nat) → Bool
  | [] => true
  | none :: l => distinct l
  | some h :: l => !(l.elem (some h)) && distinct l

/-- The state's part that is kept; none if it isn't of that form. -/
def unframe (p : LPat) (st : St) : Option p.den :=
  cond (Nat.beq p.n st.fr.length)
    ((getFr p.hp.length st p.fr).bind fun q => (getHp p.hp.length st.hp p.hp st.hp).bind fun r => cond (distinct (q.2 ++ r.2)) (some (q.1, r.1)) none) none

def capsOfKs : (ks : List CK) → CKs ks → List Cap
  | [], _ => []
  | .tp t :: ks, x => .tp t x.1 0 :: capsOfKs ks x.2
  | .v t :: ks, x => .val t x.1 :: capsOfKs ks x.2

/-- The cells anew; n: the next free handle. -/
def putCells : (ps : List CPat) → CPats ps → Nat → List CV × List Blk
  | [], _, _ => ([], [])
  | .x :: ps, x, n => let q := putCells ps x n; (.junk :: q.1, q.2)
  | .p h j :: ps, x, n => let q := putCells ps x n; (.ptr h j :: q.1, q.2)
  | .fr fid rs :: ps, x, n => let q := putCells ps x n; (.fn fid (rs.map fun r => .ref r.1 r.2) :: q.1, q.2)
  | .v t :: ps, x, n => let q := putCells ps x.2 n; (.val t x.1 :: q.1, q.2)
  | .o e t :: ps, x, n => let q := putCells ps x.2 (n + 1); (.own n :: q.1, .row e t x.1 :: q.2)
  | .tp t :: ps, x, n => let q := putCells ps x.2 n; (.tptr t x.1 0 :: q.1, q.2)
  | .f fid ks :: ps, x, n => let q := putCells ps x.2 n; (.fn fid (capsOfKs ks x.1) :: q.1, q.2)

def putFr : (ps : List (Nat × Bool × List CPat)) → FrD ps → Nat → List AV → List AV × List Blk
  | [], _, _, fr => (fr, [])
  | (t, b, ps) :: l, x, n, fr =>
    let q := putCells ps x.1 n
    let r := putFr l x.2 (n + q.2.length) (fr.set t (avOfComp (b, q.1)))
    (r.1, q.2 ++ r.2)

def putHp : (ps : List (Option (List CPat))) → HpD ps → Nat → List Blk × List Blk
  | [], _, _ => ([], [])
  | none :: l, x, n => let r := putHp l x n; (.gone :: r.1, r.2)
  | some ps :: l, x, n =>
    let q := putCells ps x.1 n
    let r := putHp l x.2 (n + q.2.length)
    (.box q.1 :: r.1, q.2 ++ r.2)

def frame (p : LPat) (x : p.den) : St :=
  let q := putFr p.fr x.1 p.hp.length (List.replicate p.n .junk)
  let r := putHp p.hp x.2 (p.hp.length + q.2.length)
  ⟨q.1, r.1 ++ (q.2 ++ r.2)⟩

/-! ### Code -/
inductive Ex where
  | normal | exit (id : Nat) | ret

def iter {σ ρ : Type} (F : (σ → Option ρ) → σ → Option ρ) : Nat → σ → Option ρ
  | 0, _ => none
  | k + 1, s => F (iter F k) s

/-- The first region of a code: a loop's name. -/
def firstReg : Code → Nat
  | .region id _ _ => id
  | .seq a _ => firstReg a
  | .block _ a => firstReg a
  | .loop a => firstReg a
  | _ => 0

def findPat : List (Nat × LPat) → Nat → Option LPat
  | [], _ => none
  | (n, p) :: l, m => cond (Nat.beq n m) (some p) (findPat l m)

def run (Δ : List (TE P)) (Γ : List (Entry P)) (k : Nat) (mrg : Nat → Bool) (L : List (Nat × LPat)) : Code → St → (Ex → St → Option ρ) → Option ρ
  | .skip, st, K => K .normal st
  | .region id ops draw, st, K => runRegion Δ Γ k mrg id ops draw st (K .normal)
  | .seq a b, st, K => run Δ Γ k mrg L a st fun e st' => match e with
    | .normal => run Δ Γ k mrg L b st' K
    | .exit i => K (.exit i) st'
    | .ret => K .ret st'
  | .cond c a b, st, K =>
    match ev st c with
    | .one (.val .bool p) => cond p (run Δ Γ k mrg L a st K) (run Δ Γ k mrg L b st K)
    | _ => none
  | .block id c, st, K => run Δ Γ k mrg L c st fun e st' => match e with
    | .normal => K .normal st'
    | .exit i => cond (Nat.beq i id) (K .normal st') (K (.exit i) st')
    | .ret => K .ret st'
  | .loop body, st, K =>
    (findPat L (firstReg body)).bind fun p => (unframe p st).bind fun s =>
      iter (fun rec s => run Δ Γ k mrg L body (frame p s) fun e st' => match e with
        | .normal => (unframe p st').bind rec
        | .exit i => K (.exit i) st'
        | .ret => K .ret st') k s
  | .exit id, st, K => K (.exit id) st
  | .ret, st, K => K .ret st
  | _, _, _ => none

/-! ### Functions -/
def argAV : (k : AK) → k.den → AV
  | .v t false, x => (match expl t x with | [c] => .one c | _ => .junk)
  | .v t true, x => .agg (expl t x)
  | .tp t, x => .one (.tptr t x 0)
  | .f fid ks, x => .one (.fn fid (capsOfKs ks x))

def argAVs : (ks : List AK) → AKs ks → List AV
  | [], _ => []
  | k :: ks, x => argAV k x.1 :: argAVs ks x.2

/-- The cells of one result. -/
def resCells (Δ : List (TE P)) (st : St) : ResultVar → Option (Bool × List CV)
  | .tmp t => (match st.get t with | .one c => some (false, [c]) | .agg cs => some (true, cs) | _ => none)
  | .cell t T => (TE.find Δ T).bind fun e =>
    (match st.get t with
    | .one (.ptr h 0) => (match st.hp[h]? with
      | some (.box cs) => cond (Nat.beq cs.length e.size) (cond e.agg (some (true, cs)) (match cs with | [c] => some (false, [c]) | _ => none)) none
      | _ => none)
    | _ => none)

def allRes (Δ : List (TE P)) (st : St) : List ResultVar → Option (List (Bool × List CV))
  | [] => some []
  | r :: l => (resCells Δ st r).bind fun c => (allRes Δ st l).bind fun cs => some (c :: cs)

def noOwn (cs : List CV) : Bool := cs.all fun c => match c with | .own _ => false | _ => true

/-- Cells read by their kinds. ok: data may be borrowed from what is owned (nothing is handed over as owned). -/
def getRK (hp : List Blk) (ok : Bool) : (l : List RK) → List CV → Option (RKs l × List (Option Nat))
  | [], [] => some ((), [])
  | .v t :: l, cs => cond (ok || noOwn (cs.take t.size)) ((rdCs hp t (cs.take t.size)).bind fun x => (getRK hp ok l (cs.drop t.size)).bind fun q => some ((x, q.1), q.2)) none
  | .o e t :: l, .own h :: cs =>
    (match hp[h]? with
     | some (.row e' u xs) => cond (Nat.beq e e') ((Ty.cast (.sl u) (.sl t) xs).bind fun y => (getRK hp ok l cs).bind fun q => some ((y, q.1), some h :: q.2)) none
     | _ => none)
  | .o _ _ :: l, .nil :: cs => (getRK hp ok l cs).bind fun q => some (([], q.1), none :: q.2)
  | _, _ => none

def getRes (hp : List Blk) (ok : Bool) : (rs : List (Bool × List RK)) → List (Bool × List CV) → Option (Res rs × List (Option Nat))
  | [], [] => some ((), [])
  | (b, l) :: rs, (b', cs) :: xs => cond (b == b') ((getRK hp ok l cs).bind fun x => (getRes hp ok rs xs).bind fun q => some ((x.1, q.1), x.2 ++ q.2)) none
  | _, _ => none

def finish (Δ : List (TE P)) (rs : List (Bool × List RK)) (vars : List ResultVar) (st : St) : Option (Res rs) :=
  (allRes Δ st vars).bind fun cs => (getRes st.hp (!(resOwn rs)) rs cs).bind fun q => cond (distinct q.2) (some q.1) none

def runFn (Δ : List (TE P)) (Γ : List (Entry P)) (mrg : Nat → Bool) (L : List (Nat × LPat)) (F : Func) (ks : List AK) (rs : List (Bool × List RK)) (k : Nat) (a : AKs ks) : Option (Res rs) :=
  match F.body with
  | some c => run Δ Γ k mrg L c ⟨argAVs ks a ++ List.replicate (F.ntmps - ks.length) .junk, []⟩ fun e st => match e with
    | .exit _ => none
    | _ => finish Δ rs F.results.toList st
  | none => none
end

end Go.Proofs.Ytdgnmbhnilidlaa.Ab
