/- The abstract evaluator: types, abstract values, states, what an operation does. -/
import Derived.Deep.Quiet
import Derived.Maps.AppendAt
import Derived.Laws.OwnMore
import Derived.Laws.MakeOwn
import Derived.Laws.Tables
import Derived.Great.BuildSlice
import Derived.WalkKit
import Derived.Below
import Derived.Laws.StructEq
set_option linter.unusedVariables false
set_option linter.unusedSimpArgs false
set_option linter.unusedSectionVars false
namespace Go.Proofs.Ytdgnmbhnilidlaa.Ab
open Go Go.RowKit

/-! ### Types of data -/
inductive Ty where
  | int (k : IntKind) | bool | str | pair (a b : Ty) | sl (t : Ty)
  deriving DecidableEq

abbrev Ty.den : Ty → Type
  | .int _ => Int
  | .bool => Bool
  | .str => ByteArray
  | .pair a b => a.den × b.den
  | .sl t => List t.den

def Ty.size : Ty → Nat
  | .int _ => 1
  | .bool => 1
  | .str => 1
  | .pair a b => a.size + b.size
  | .sl _ => 1

def Ty.zero : (t : Ty) → t.den
  | .int _ => (0 : Int)
  | .bool => false
  | .str => (⟨#[]⟩ : ByteArray)
  | .pair a b => (a.zero, b.zero)
  | .sl _ => []

/-- No slice inside. -/
def Ty.flat : Ty → Bool
  | .int _ => true
  | .bool => true
  | .str => true
  | .pair a b => a.flat && b.flat
  | .sl _ => false

def Ty.cast (t u : Ty) (x : t.den) : Option u.den := if h : t = u then some (h ▸ x) else none

/-! ### Abstract values -/
inductive Cap where
  | ref (h j : Nat)
  | tp (t : Ty) (x : t.den) (j : Nat)
  | val (t : Ty) (x : t.den)

/-- One cell. -/
inductive CV where
  | val (t : Ty) (x : t.den)
  | own (h : Nat)
  | ptr (h j : Nat)
  | tptr (t : Ty) (x : t.den) (j : Nat)
  | eptr (h i j : Nat)
  | fn (f : FuncId) (caps : List Cap)
  | nil
  | nilp
  | junk

inductive AV where
  | one (c : CV)
  | agg (cs : List CV)
  | tup (vs : List (Bool × List CV))
  | junk

inductive Blk where
  | box (cs : List CV)
  | row (e : TypeId) (t : Ty) (xs : List t.den)
  | gone

structure St where
  fr : List AV
  hp : List Blk

def expl : (t : Ty) → t.den → List CV
  | .int k, x => [.val (.int k) x]
  | .bool, x => [.val .bool x]
  | .str, x => [.val .str x]
  | .pair a b, x => expl a x.1 ++ expl b x.2
  | .sl t, x => [.val (.sl t) x]

/-! ### The program's types -/
inductive Sh where
  | int (k : IntKind) | bool | str | sl (e : TypeId) | st (fs : List (Nat × TypeId × Nat)) | arr (n : Nat) (e : TypeId) | other

def shOf (P : Program) : TypeDesc → Sh
  | .int k => .int k
  | .bool => .bool
  | .string => .str
  | .slice e => .sl e
  | .struct fs => .st (fs.toList.map fun f => (f.offset, f.type, P.cellsOf f.type))
  | .array n e => .arr n e
  | _ => .other

/-- The fields that a comparison of structs looks at: all, each with its offset and type. -/
def eqFlds : List Field → List (Nat × TypeId) → Bool
  | [], [] => true
  | f :: fs, (o, t) :: l => !(f.name == "_") && (Nat.beq f.offset o && (Nat.beq f.type t && eqFlds fs l))
  | _, _ => false

def eqOk (P : Program) (T : TypeId) : List (Nat × TypeId) → Bool
  | [] => true
  | l => !P.stoodInHeld T && (!P.eqGuardType P.depth T && (match P.underlying T with | some (.struct fs) => eqFlds fs.toList l | _ => false))

structure TE (P : Program) where
  T : TypeId
  sh : Sh
  size : Nat
  bytes : Nat
  zero : Value
  ty : Option Ty
  h1 : (P.underlying T).map (shOf P) = some sh
  h2 : (P.info? T).map (fun i => (i.zero, i.size, i.bytes)) = some (some zero, size, bytes)
  eqs : List (Nat × TypeId) := []
  h3 : eqOk P T eqs = true := by rfl

section
variable {P : Program}
def TE.find : List (TE P) → TypeId → Option (TE P)
  | [], _ => none
  | e :: l, T => cond (Nat.beq e.T T) (some e) (TE.find l T)

def Sh.agg : Sh → Bool
  | .st _ => true
  | .arr _ _ => true
  | _ => false

def TE.agg (e : TE P) : Bool := e.sh.agg
end

/-! ### Constants, operands -/
def constC : Value → CV
  | .int k n => .val (.int k) n
  | .bool b => .val .bool b
  | .string s => cond (Nat.ble s.size 4611686018427387904) (.val .str s) .junk
  | .slice none 0 0 => .nil
  | .pointer none => .nilp
  | _ => .junk

def constA : Value → AV
  | .agg cs => cond (cs.toList.all Value.oneCell') (.agg (cs.toList.map constC)) .junk
  | .tuple _ => .junk
  | v => .one (constC v)

def St.get (st : St) (t : Nat) : AV := st.fr.getD t .junk

def St.put (st : St) (dst : Option Nat) (v : AV) : St :=
  match dst with
  | some d => { st with fr := st.fr.set d v }
  | none => st

def ev (st : St) : Operand → AV
  | .tmp t => st.get t
  | .const v => constA v
  | .global _ => .one .junk
  | .func f => .one (.fn f [])

/-! ### Reading typed data out of cells: what is owned is borrowed -/
def rdC (hp : List Blk) : (t : Ty) → CV → Option t.den
  | t, .val u x => Ty.cast u t x
  | .sl _, .nil => some []
  | t, .own h =>
    match hp[h]? with
    | some (.row _ u xs) => Ty.cast (.sl u) t xs
    | _ => none
  | _, _ => none

def rdCs (hp : List Blk) : (t : Ty) → List CV → Option t.den
  | .int k, cs => match cs with | [c] => rdC hp (.int k) c | _ => none
  | .bool, cs => match cs with | [c] => rdC hp .bool c | _ => none
  | .str, cs => match cs with | [c] => rdC hp .str c | _ => none
  | .sl t, cs => match cs with | [c] => rdC hp (.sl t) c | _ => none
  | .pair a b, cs => (rdCs hp a (cs.take a.size)).bind fun x => (rdCs hp b (cs.drop a.size)).bind fun y => some (x, y)

/-- The handles that cells hold. -/
def ownsC : CV → List Nat
  | .own h => [h]
  | _ => []

def St.kill (hp : List Blk) : List Nat → List Blk
  | [] => hp
  | h :: hs => St.kill (hp.set h .gone) hs

def cells : AV → Option (List CV)
  | .one c => some [c]
  | .agg cs => some cs
  | _ => none

/-! ### Operations that change nothing -/
def cmpInt : BinOp → Int → Int → Option Bool
  | .eql, a, b => some (a == b)
  | .neq, a, b => some (a != b)
  | .lss, a, b => some (decide (a < b))
  | .leq, a, b => some (decide (a ≤ b))
  | .gtr, a, b => some (decide (a > b))
  | .geq, a, b => some (decide (a ≥ b))
  | _, _, _ => none

section
variable {P : Program} {ρ : Type}

def binInt (op : BinOp) (k : IntKind) (a b : Int) (K : AV → Option ρ) : Option ρ :=
  match op with
  | .add => K (.one (.val (.int k) (k.wrap (a + b))))
  | .sub => K (.one (.val (.int k) (k.wrap (a - b))))
  | .mul => K (.one (.val (.int k) (k.wrap (a * b))))
  | .quo => cond (b == 0) none (K (.one (.val (.int k) (k.wrap (a.tdiv b)))))
  | .rem => cond (b == 0) none (K (.one (.val (.int k) (a.tmod b))))
  | op => (cmpInt op a b).bind fun c => K (.one (.val .bool c))

def binStr (op : BinOp) (a b : ByteArray) (K : AV → Option ρ) : Option ρ :=
  match op with
  | .add => cond (Nat.ble (a.size + b.size) 4611686018427387904) (K (.one (.val .str (a ++ b)))) none
  | .eql => K (.one (.val .bool (a.toList == b.toList)))
  | .neq => K (.one (.val .bool (!(a.toList == b.toList))))
  | _ => none

def binBool (op : BinOp) (a b : Bool) (K : AV → Option ρ) : Option ρ :=
  match op with
  | .eql => K (.one (.val .bool (a == b)))
  | .neq => K (.one (.val .bool (!(a == b))))
  | _ => none

def pick2 (p : Bool) (x y : AV) (K : AV → Option ρ) : Option ρ :=
  match x, y with
  | .one (.val t a), .one (.val u b) =>
    (match Ty.cast u t b with
     | some b' => K (.one (.val t (cond p a b')))
     | none => cond p (K x) (K y))
  | _, _ => cond p (K x) (K y)

/-- Cells j to j+n of a row of cells, as a value of a type. -/
def partOf (e : TE P) (cs : List CV) (j : Nat) : Option AV :=
  cond e.agg (cond (Nat.ble (j + e.size) cs.length) (some (.agg ((cs.drop j).take e.size))) none)
    (match cs[j]? with
     | some c => some (.one c)
     | none => none)

def fieldOf (e : TE P) (f : Nat) : Option (Nat × TypeId) :=
  match e.sh with
  | .st fs =>
    match fs[f]? with
    | some (off, T, n) => cond (Nat.beq n 0) none (some (off, T))
    | none => none
  | _ => none

def lenOf (hp : List Blk) : CV → Option Int
  | .val (.sl _) xs => some (xs.length : Int)
  | .nil => some 0
  | .own h =>
    match hp[h]? with
    | some (.row _ _ xs) => some (xs.length : Int)
    | _ => none
  | _ => none

def bt (s : ByteArray) (i : Int) : Int := if h : i.toNat < s.size then ((s[i.toNat]'h).toNat : Int) else 0

def optInt (st : St) : Option Operand → Option (Option Int)
  | none => some none
  | some x =>
    match ev st x with
    | .one (.val (.int _) n) => some (some n)
    | _ => none

def capOf (st : St) (x : Operand) : Option Cap :=
  match ev st x with
  | .one (.ptr h j) => some (.ref h j)
  | .one (.tptr t v j) => some (.tp t v j)
  | .one (.val t v) => some (.val t v)
  | _ => none

def capsOf (st : St) : List Operand → Option (List Cap)
  | [] => some []
  | x :: l => (capOf st x).bind fun c => (capsOf st l).bind fun cs => some (c :: cs)

def opPick (st : St) (c a b : Operand) (K : AV → Option ρ) : Option ρ :=
  match ev st c with
  | .one (.val .bool p) => pick2 p (ev st a) (ev st b) K
  | _ => none

def opLoad (Δ : List (TE P)) (st : St) (T : TypeId) (a : Operand) (K : AV → Option ρ) : Option ρ :=
  (TE.find Δ T).bind fun e =>
    match ev st a with
    | .one (.ptr h j) =>
      (match st.hp[h]? with
       | some (.box cs) => (partOf e cs j).bind K
       | _ => none)
    | .one (.tptr t x j) => (partOf e (expl t x) j).bind K
    | .one (.eptr h i j) =>
      (match st.hp[h]? with
       | some (.row _ t xs) => (partOf e (expl t (xs.getD i t.zero)) j).bind K
       | _ => none)
    | _ => none

/-- '==' of the fields, one by one. -/
def eqFs (f : TypeId → AV → AV → Option Bool) (Δ : List (TE P)) : List (Nat × TypeId) → List CV → List CV → Option Bool
  | [], _, _ => some true
  | (o, T) :: l, xs, ys => (TE.find Δ T).bind fun e => (partOf e xs o).bind fun x => (partOf e ys o).bind fun y => (f T x y).bind fun r => (eqFs f Δ l xs ys).bind fun s => some (r && s)

def eqInt : AV → AV → Option Bool
  | .one (.val (.int k) a), .one (.val (.int k') b) => if k = k' then some ((a : Int) == b) else none
  | _, _ => none
def eqBool : AV → AV → Option Bool
  | .one (.val .bool a), .one (.val .bool b) => some (a == b)
  | _, _ => none
def eqStr : AV → AV → Option Bool
  | .one (.val .str a), .one (.val .str b) => some (a.toList == b.toList)
  | _, _ => none
def eqAgg (f : List CV → List CV → Option Bool) : AV → AV → Option Bool
  | .agg xs, .agg ys => f xs ys
  | _, _ => none

def eqV (Δ : List (TE P)) : Nat → TypeId → AV → AV → Option Bool
  | 0, _, _, _ => none
  | d + 1, T, x, y => (TE.find Δ T).bind fun e =>
    match e.sh with
    | .int _ => eqInt x y
    | .bool => eqBool x y
    | .str => eqStr x y
    | .st _ => (match e.eqs with | [] => none | p :: l => eqAgg (eqFs (eqV Δ d) Δ (p :: l)) x y)
    | _ => none

def opBin (Δ : List (TE P)) (st : St) (op : BinOp) (T : TypeId) (x y : Operand) (K : AV → Option ρ) : Option ρ :=
  match ev st x, ev st y with
  | .one (.val (.int k) a), .one (.val (.int k') b) => if k = k' then binInt op k a b K else none
  | .one (.val .bool a), .one (.val .bool b) =>
    (TE.find Δ T).bind fun e =>
    (match e.sh with
     | .bool => binBool op a b K
     | _ => none)
  | .one (.val .str a), .one (.val .str b) => binStr op a b K
  | .agg xs, .agg ys =>
    (match op with
     | .eql => (TE.find Δ T).bind fun e => cond e.agg ((eqV Δ 10000 T (.agg xs) (.agg ys)).bind fun r => K (.one (.val .bool r))) none
     | .neq => (TE.find Δ T).bind fun e => cond e.agg ((eqV Δ 10000 T (.agg xs) (.agg ys)).bind fun r => K (.one (.val .bool (!r)))) none
     | _ => none)
  | _, _ => none

/-- A struct literal: the fields named, the others zero. -/
def spl (cs : List CV) (j : Nat) (vs : List CV) : List CV := cs.take j ++ vs ++ cs.drop (j + vs.length)

def buildFill (fs : List (Nat × TypeId × Nat)) (st : St) : List (Nat × Operand) → List CV → Option (List CV)
  | [], cs => some cs
  | (i, x) :: rest, cs =>
    match fs[i]? with
    | none => none
    | some (off, _, n) => (Go.Proofs.Ytdgnmbhnilidlaa.Ab.cells (ev st x)).bind fun vs => cond (Nat.beq vs.length n && Nat.ble (off + vs.length) cs.length) (buildFill fs st rest (spl cs off vs)) none

def opBuild (Δ : List (TE P)) (st : St) (T : TypeId) (parts : List (Nat × Operand)) (K : AV → Option ρ) : Option ρ :=
  (TE.find Δ T).bind fun e =>
    match e.sh with
    | .st fs => cond (fs.all (fun f => Nat.ble 1 f.2.2) && e.zero.cells.toList.all Value.oneCell') ((buildFill fs st parts (e.zero.cells.toList.map constC)).bind fun cs => K (.agg cs)) none
    | _ => none

def opUn (st : St) (op : UnOp) (x : Operand) (K : AV → Option ρ) : Option ρ :=
  match op, ev st x with
  | .not, .one (.val .bool b) => K (.one (.val .bool (!b)))
  | .neg, .one (.val (.int k) n) => K (.one (.val (.int k) (k.wrap (0 - n))))
  | _, _ => none

def opFieldAddr (Δ : List (TE P)) (st : St) (S : TypeId) (x : Operand) (f : Nat) (K : AV → Option ρ) : Option ρ :=
  (TE.find Δ S).bind fun e => (fieldOf e f).bind fun p =>
    match ev st x with
    | .one (.ptr h j) => (match st.hp[h]? with | some (.box _) => K (.one (.ptr h (j + p.1))) | _ => none)
    | .one (.tptr t v j) => K (.one (.tptr t v (j + p.1)))
    | .one (.eptr h i j) => (match st.hp[h]? with | some (.row _ _ _) => K (.one (.eptr h i (j + p.1))) | _ => none)
    | _ => none

def opField (Δ : List (TE P)) (st : St) (S : TypeId) (x : Operand) (f : Nat) (K : AV → Option ρ) : Option ρ :=
  (TE.find Δ S).bind fun s => (fieldOf s f).bind fun p => (TE.find Δ p.2).bind fun e =>
    match ev st x with
    | .agg cs => (partOf e cs p.1).bind K
    | _ => none

def opIndexAddr (Δ : List (TE P)) (st : St) (T : TypeId) (x i : Operand) (K : AV → Option ρ) : Option ρ :=
  (TE.find Δ T).bind fun e =>
    match e.sh, ev st i with
    | .sl E, .one (.val (.int _) n) =>
      (TE.find Δ E).bind fun ee =>
      (match ev st x with
       | .one (.val (.sl t) xs) =>
         cond (Nat.beq ee.size t.size) (cond (decide (0 ≤ n) && decide (n < (xs.length : Int))) (K (.one (.tptr t (xs.getD n.toNat t.zero) 0))) none) none
       | .one (.own h) =>
         (match st.hp[h]? with
          | some (.row _ t xs) => cond (Nat.beq ee.size t.size) (cond (decide (0 ≤ n) && decide (n < (xs.length : Int))) (K (.one (.eptr h n.toNat 0))) none) none
          | _ => none)
       | _ => none)
    | _, _ => none

def opIndex (Δ : List (TE P)) (st : St) (T : TypeId) (x i : Operand) (K : AV → Option ρ) : Option ρ :=
  (TE.find Δ T).bind fun e =>
    match e.sh, ev st x, ev st i with
    | .str, .one (.val .str s), .one (.val (.int _) n) =>
      cond (decide (0 ≤ n) && decide (n < (s.size : Int))) (K (.one (.val (.int .u8) (bt s n)))) none
    | _, _, _ => none

def opSlice (Δ : List (TE P)) (st : St) (T : TypeId) (x : Operand) (lo hi : Option Operand) (K : AV → Option ρ) : Option ρ :=
  (TE.find Δ T).bind fun e => (optInt st lo).bind fun l => (optInt st hi).bind fun h =>
    match e.sh, ev st x with
    | .sl E, .one (.val (.sl t) xs) =>
      (TE.find Δ E).bind fun ee =>
      cond (Nat.beq ee.size t.size)
        (cond (decide (0 ≤ l.getD 0) && (decide (l.getD 0 ≤ h.getD (xs.length : Int)) && decide (h.getD (xs.length : Int) ≤ (xs.length : Int))))
          (K (.one (.val (.sl t) ((xs.take (h.getD (xs.length : Int)).toNat).drop (l.getD 0).toNat)))) none) none
    | .str, .one (.val .str s) =>
      cond (decide (0 ≤ l.getD 0) && (decide (l.getD 0 ≤ h.getD (s.size : Int)) && decide (h.getD (s.size : Int) ≤ (s.size : Int))))
        (K (.one (.val .str (s.extract (l.getD 0).toNat (h.getD (s.size : Int)).toNat)))) none
    | _, _ => none

def opExtract (st : St) (x : Operand) (i : Nat) (K : AV → Option ρ) : Option ρ :=
  match ev st x with
  | .tup vs =>
    (match vs[i]? with
     | some (true, cs) => K (.agg cs)
     | some (false, [c]) => K (.one c)
     | _ => none)
  | _ => none

def opMakeFunc (st : St) (fn : Fn) (first captured : Array Operand) (K : AV → Option ρ) : Option ρ :=
  match fn, first.toList with
  | .func f, [] => (capsOf st captured.toList).bind fun cs => K (.one (.fn f cs))
  | _, _ => none

def opConvert (Δ : List (TE P)) (st : St) (S T : TypeId) (x : Operand) (K : AV → Option ρ) : Option ρ :=
  (TE.find Δ S).bind fun _ => (TE.find Δ T).bind fun e =>
    match e.sh, ev st x with
    | .int k, .one (.val (.int _) n) => K (.one (.val (.int k) (k.wrap n)))
    | .str, .one (.val .str s) => K (.one (.val .str s))
    | _, _ => none

def opNilCheck (st : St) (x : Operand) (K : AV → Option ρ) : Option ρ :=
  match ev st x with
  | .one (.ptr h j) => (match st.hp[h]? with | some (.box _) => K (.one (.ptr h j)) | _ => none)
  | .one (.tptr t v j) => K (.one (.tptr t v j))
  | .one (.eptr h i j) => (match st.hp[h]? with | some (.row _ _ _) => K (.one (.eptr h i j)) | _ => none)
  | _ => none

def opLen (Δ : List (TE P)) (st : St) (x : Operand) (T : TypeId) (K : AV → Option ρ) : Option ρ :=
  (TE.find Δ T).bind fun e =>
    match e.sh, ev st x with
    | .sl _, .one c => (lenOf st.hp c).bind fun n => K (.one (.val (.int .i64) n))
    | .str, .one (.val .str s) => K (.one (.val (.int .i64) (s.size : Int)))
    | _, _ => none

/-- min, max of two or more whole numbers. -/
def mmFold (mx : Bool) (k : IntKind) (st : St) : Int → List Operand → Option Int
  | m, [] => some m
  | m, x :: l =>
    match ev st x with
    | .one (.val (.int _) n) => mmFold mx k st (cond mx (cond (decide (n > m)) n m) (cond (decide (n < m)) n m)) l
    | _ => none

def opMinMax (mx : Bool) (st : St) (args : List Operand) (K : AV → Option ρ) : Option ρ :=
  match args with
  | x :: l =>
    (match ev st x with
     | .one (.val (.int k) n) => (mmFold mx k st n l).bind fun m => K (.one (.val (.int k) m))
     | _ => none)
  | [] => none

def opBuiltin (Δ : List (TE P)) (st : St) (b : Builtin) (args : Array Operand) (argTypes : Array TypeId) (K : AV → Option ρ) : Option ρ :=
  match b, args.toList, argTypes.toList with
  | .len, [x], [T] => opLen Δ st x T K
  | .max, l, _ => opMinMax true st l K
  | .min, l, _ => opMinMax false st l K
  | _, _, _ => none

def pureOp (Δ : List (TE P)) (st : St) (o : Op) (K : AV → Option ρ) : Option ρ :=
  match o with
  | .move x => K (ev st x)
  | .assign x => K (ev st x)
  | .pick c a b => opPick st c a b K
  | .load T a => opLoad Δ st T a K
  | .binOp op T x y _ => opBin Δ st op T x y K
  | .unOp op _ x => opUn st op x K
  | .fieldAddr S x f => opFieldAddr Δ st S x f K
  | .field S x f => opField Δ st S x f K
  | .indexAddr T x i => opIndexAddr Δ st T x i K
  | .index T x i => opIndex Δ st T x i K
  | .slice T x lo hi none => opSlice Δ st T x lo hi K
  | .extract x i => opExtract st x i K
  | .build T parts => opBuild Δ st T parts.toList K
  | .makeFunc fn first captured => opMakeFunc st fn first captured K
  | .convert S T x => opConvert Δ st S T x K
  | .nilCheck x => opNilCheck st x K
  | .call c =>
    match c.callee with
    | .builtin b => opBuiltin Δ st b c.args c.argTypes K
    | _ => none
  | _ => none
end

end Go.Proofs.Ytdgnmbhnilidlaa.Ab
