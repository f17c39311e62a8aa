/- Typed models of the functions that the law reaches, printed by program, each with its proof. -/
import Derived.Test.YtdgnmbhnilidlaaAbsN
import Derived.Test.YtdgnmbhnilidlaaProg
import Derived.KernelRfl
set_option linter.unusedVariables false
namespace Go.Proofs.Ytdgnmbhnilidlaa
open Go Go.Proofs.Ytdgnmbhnilidlaa.Ab
abbrev w64 (x : Int) : Int := IntKind.i64.wrap x
theorem hm : Try.prog.follows .mixedOrders = true := by kernel_rfl
def Dl : List (TE Try.prog) := [
  ⟨3, .int .i64, 1, 8, .int .i64 0, some (.int .i64), by kernel_rfl, by kernel_rfl, [], rfl⟩,
  ⟨4, .bool, 1, 1, .bool false, some .bool, by kernel_rfl, by kernel_rfl, [], rfl⟩,
  ⟨23, .st [(0, 3, 1), (1, 3, 1)], 2, 16, .agg #[.int .i64 0, .int .i64 0], some (.pair (.int .i64) (.int .i64)), by kernel_rfl, by kernel_rfl, [], rfl⟩,
  ⟨24, .sl 3, 1, 24, .slice none 0 0, some (.sl (.int .i64)), by kernel_rfl, by kernel_rfl, [], rfl⟩,
  ⟨26, .st [(0, 23, 2), (2, 24, 1)], 3, 40, .agg #[.int .i64 0, .int .i64 0, .slice none 0 0], some (.pair (.pair (.int .i64) (.int .i64)) (.sl (.int .i64))), by kernel_rfl, by kernel_rfl, [], rfl⟩,
  ⟨28, .st [(0, 24, 1)], 1, 24, .agg #[.slice none 0 0], some (.sl (.int .i64)), by kernel_rfl, by kernel_rfl, [], rfl⟩,
  ⟨30, .st [(0, 28, 1), (1, 28, 1)], 2, 48, .agg #[.slice none 0 0, .slice none 0 0], some (.pair (.sl (.int .i64)) (.sl (.int .i64))), by kernel_rfl, by kernel_rfl, [], rfl⟩,
  ⟨31, .sl 141, 1, 24, .slice none 0 0, some (.sl (.sl (.pair (.int .i64) (.pair (.int .i64) (.pair (.int .i64) (.pair .bool .bool)))))), by kernel_rfl, by kernel_rfl, [], rfl⟩,
  ⟨33, .st [(0, 26, 3), (3, 30, 2), (5, 31, 1), (6, 24, 1), (7, 24, 1), (8, 31, 1), (9, 31, 1), (10, 3, 1)], 11, 216, .agg #[.int .i64 0, .int .i64 0, .slice none 0 0, .slice none 0 0, .slice none 0 0, .slice none 0 0, .slice none 0 0, .slice none 0 0, .slice none 0 0, .slice none 0 0, .int .i64 0], some (.pair (.pair (.pair (.int .i64) (.int .i64)) (.sl (.int .i64))) (.pair (.pair (.sl (.int .i64)) (.sl (.int .i64))) (.pair (.sl (.sl (.pair (.int .i64) (.pair (.int .i64) (.pair (.int .i64) (.pair .bool .bool)))))) (.pair (.sl (.int .i64)) (.pair (.sl (.int .i64)) (.pair (.sl (.sl (.pair (.int .i64) (.pair (.int .i64) (.pair (.int .i64) (.pair .bool .bool)))))) (.pair (.sl (.sl (.pair (.int .i64) (.pair (.int .i64) (.pair (.int .i64) (.pair .bool .bool)))))) (.int .i64)))))))), by kernel_rfl, by kernel_rfl, [], rfl⟩,
  ⟨34, .sl 117, 1, 24, .slice none 0 0, some (.sl (.pair (.int .i64) (.pair (.int .i64) (.pair (.int .i64) (.pair (.int .i64) (.int .i64)))))), by kernel_rfl, by kernel_rfl, [], rfl⟩,
  ⟨36, .st [(0, 33, 11), (11, 34, 1)], 12, 240, .agg #[.int .i64 0, .int .i64 0, .slice none 0 0, .slice none 0 0, .slice none 0 0, .slice none 0 0, .slice none 0 0, .slice none 0 0, .slice none 0 0, .slice none 0 0, .int .i64 0, .slice none 0 0], some (.pair (.pair (.pair (.pair (.int .i64) (.int .i64)) (.sl (.int .i64))) (.pair (.pair (.sl (.int .i64)) (.sl (.int .i64))) (.pair (.sl (.sl (.pair (.int .i64) (.pair (.int .i64) (.pair (.int .i64) (.pair .bool .bool)))))) (.pair (.sl (.int .i64)) (.pair (.sl (.int .i64)) (.pair (.sl (.sl (.pair (.int .i64) (.pair (.int .i64) (.pair (.int .i64) (.pair .bool .bool)))))) (.pair (.sl (.sl (.pair (.int .i64) (.pair (.int .i64) (.pair (.int .i64) (.pair .bool .bool)))))) (.int .i64)))))))) (.sl (.pair (.int .i64) (.pair (.int .i64) (.pair (.int .i64) (.pair (.int .i64) (.int .i64))))))), by kernel_rfl, by kernel_rfl, [], rfl⟩,
  ⟨39, .st [(0, 3, 1), (1, 3, 1)], 2, 16, .agg #[.int .i64 0, .int .i64 0], some (.pair (.int .i64) (.int .i64)), by kernel_rfl, by kernel_rfl, [], rfl⟩,
  ⟨41, .st [(0, 39, 2), (2, 24, 1)], 3, 40, .agg #[.int .i64 0, .int .i64 0, .slice none 0 0], some (.pair (.pair (.int .i64) (.int .i64)) (.sl (.int .i64))), by kernel_rfl, by kernel_rfl, [], rfl⟩,
  ⟨42, .st [(0, 24, 1)], 1, 24, .agg #[.slice none 0 0], some (.sl (.int .i64)), by kernel_rfl, by kernel_rfl, [], rfl⟩,
  ⟨44, .st [(0, 42, 1), (1, 42, 1)], 2, 48, .agg #[.slice none 0 0, .slice none 0 0], some (.pair (.sl (.int .i64)) (.sl (.int .i64))), by kernel_rfl, by kernel_rfl, [], rfl⟩,
  ⟨45, .sl 107, 1, 24, .slice none 0 0, some (.sl (.sl (.pair (.int .i64) (.pair (.int .i64) (.pair (.int .i64) (.pair .bool .bool)))))), by kernel_rfl, by kernel_rfl, [], rfl⟩,
  ⟨47, .st [(0, 41, 3), (3, 44, 2), (5, 45, 1), (6, 24, 1), (7, 24, 1), (8, 45, 1), (9, 45, 1), (10, 3, 1)], 11, 216, .agg #[.int .i64 0, .int .i64 0, .slice none 0 0, .slice none 0 0, .slice none 0 0, .slice none 0 0, .slice none 0 0, .slice none 0 0, .slice none 0 0, .slice none 0 0, .int .i64 0], some (.pair (.pair (.pair (.int .i64) (.int .i64)) (.sl (.int .i64))) (.pair (.pair (.sl (.int .i64)) (.sl (.int .i64))) (.pair (.sl (.sl (.pair (.int .i64) (.pair (.int .i64) (.pair (.int .i64) (.pair .bool .bool)))))) (.pair (.sl (.int .i64)) (.pair (.sl (.int .i64)) (.pair (.sl (.sl (.pair (.int .i64) (.pair (.int .i64) (.pair (.int .i64) (.pair .bool .bool)))))) (.pair (.sl (.sl (.pair (.int .i64) (.pair (.int .i64) (.pair (.int .i64) (.pair .bool .bool)))))) (.int .i64)))))))), by kernel_rfl, by kernel_rfl, [], rfl⟩,
  ⟨48, .sl 74, 1, 24, .slice none 0 0, some (.sl (.pair (.int .i64) (.pair (.int .i64) (.pair (.int .i64) (.pair (.int .i64) (.int .i64)))))), by kernel_rfl, by kernel_rfl, [], rfl⟩,
  ⟨50, .st [(0, 47, 11), (11, 48, 1)], 12, 240, .agg #[.int .i64 0, .int .i64 0, .slice none 0 0, .slice none 0 0, .slice none 0 0, .slice none 0 0, .slice none 0 0, .slice none 0 0, .slice none 0 0, .slice none 0 0, .int .i64 0, .slice none 0 0], some (.pair (.pair (.pair (.pair (.int .i64) (.int .i64)) (.sl (.int .i64))) (.pair (.pair (.sl (.int .i64)) (.sl (.int .i64))) (.pair (.sl (.sl (.pair (.int .i64) (.pair (.int .i64) (.pair (.int .i64) (.pair .bool .bool)))))) (.pair (.sl (.int .i64)) (.pair (.sl (.int .i64)) (.pair (.sl (.sl (.pair (.int .i64) (.pair (.int .i64) (.pair (.int .i64) (.pair .bool .bool)))))) (.pair (.sl (.sl (.pair (.int .i64) (.pair (.int .i64) (.pair (.int .i64) (.pair .bool .bool)))))) (.int .i64)))))))) (.sl (.pair (.int .i64) (.pair (.int .i64) (.pair (.int .i64) (.pair (.int .i64) (.int .i64))))))), by kernel_rfl, by kernel_rfl, [], rfl⟩,
  ⟨74, .st [(0, 3, 1), (1, 3, 1), (2, 3, 1), (3, 3, 1), (4, 3, 1)], 5, 40, .agg #[.int .i64 0, .int .i64 0, .int .i64 0, .int .i64 0, .int .i64 0], some (.pair (.int .i64) (.pair (.int .i64) (.pair (.int .i64) (.pair (.int .i64) (.int .i64))))), by kernel_rfl, by kernel_rfl, [], rfl⟩,
  ⟨107, .sl 110, 1, 24, .slice none 0 0, some (.sl (.pair (.int .i64) (.pair (.int .i64) (.pair (.int .i64) (.pair .bool .bool))))), by kernel_rfl, by kernel_rfl, [], rfl⟩,
  ⟨110, .st [(0, 3, 1), (1, 3, 1), (2, 3, 1), (3, 4, 1), (4, 4, 1)], 5, 32, .agg #[.int .i64 0, .int .i64 0, .int .i64 0, .bool false, .bool false], some (.pair (.int .i64) (.pair (.int .i64) (.pair (.int .i64) (.pair .bool .bool)))), by kernel_rfl, by kernel_rfl, [(0, 3), (1, 3), (2, 3), (3, 4), (4, 4)], by kernel_rfl⟩,
  ⟨117, .st [(0, 3, 1), (1, 3, 1), (2, 3, 1), (3, 3, 1), (4, 3, 1)], 5, 40, .agg #[.int .i64 0, .int .i64 0, .int .i64 0, .int .i64 0, .int .i64 0], some (.pair (.int .i64) (.pair (.int .i64) (.pair (.int .i64) (.pair (.int .i64) (.int .i64))))), by kernel_rfl, by kernel_rfl, [], rfl⟩,
  ⟨141, .sl 157, 1, 24, .slice none 0 0, some (.sl (.pair (.int .i64) (.pair (.int .i64) (.pair (.int .i64) (.pair .bool .bool))))), by kernel_rfl, by kernel_rfl, [], rfl⟩,
  ⟨157, .st [(0, 3, 1), (1, 3, 1), (2, 3, 1), (3, 4, 1), (4, 4, 1)], 5, 32, .agg #[.int .i64 0, .int .i64 0, .int .i64 0, .bool false, .bool false], some (.pair (.int .i64) (.pair (.int .i64) (.pair (.int .i64) (.pair .bool .bool)))), by kernel_rfl, by kernel_rfl, [], rfl⟩]
/- 43 loop.example/g00984/laws.szIntS -/
def g_laws_szIntS.m (k : Nat) (a0_ : List Int) (left1_ : Int) : Option ((Int × Unit) × Unit) :=
  bif (decide ((w64 (left1_ - (a0_.length : Int))) < 0)) then
    some (((-1), ()), ())
  else
    some (((w64 (left1_ - (a0_.length : Int))), ()), ())
def g_laws_szIntS.e : Entry Try.prog := mkEntry Dl [] (fun n => false) [] hm 43 Try.f43 (by kernel_rfl) (by kernel_rfl) (by kernel_rfl) [.v (.sl (.int .i64)) false, .v (.int .i64) false] [(false, [.v (.int .i64)])] (fun k a => g_laws_szIntS.m k a.1 a.2.1) (fun k a => by kernel_rfl)
/- 14 loop.example/g00984/laws.szMesh -/
def g_laws_szMesh.m (k : Nat) (a0_ : (Int × Int) × List Int) (left1_ : Int) : Option ((Int × Unit) × Unit) :=
  (g_laws_szIntS.m k a0_.2 left1_).bind fun r1 =>
  bif (decide (r1.1.1 < 0)) then
    some (((-1), ()), ())
  else
    some ((r1.1.1, ()), ())
def g_laws_szMesh.e : Entry Try.prog := mkEntry Dl [g_laws_szIntS.e] (fun n => false) [] hm 14 Try.f14 (by kernel_rfl) (by kernel_rfl) (by kernel_rfl) [.v (.pair (.pair (.int .i64) (.int .i64)) (.sl (.int .i64))) true, .v (.int .i64) false] [(false, [.v (.int .i64)])] (fun k a => g_laws_szMesh.m k a.1 a.2.1) (fun k a => by kernel_rfl)
/- 44 loop.example/g00984/laws.szTable -/
def g_laws_szTable.m (k : Nat) (a0_ : List Int) (left1_ : Int) : Option ((Int × Unit) × Unit) :=
  (g_laws_szIntS.m k a0_ left1_).bind fun r1 =>
  bif (decide (r1.1.1 < 0)) then
    some (((-1), ()), ())
  else
    some ((r1.1.1, ()), ())
def g_laws_szTable.e : Entry Try.prog := mkEntry Dl [g_laws_szIntS.e] (fun n => false) [] hm 44 Try.f44 (by kernel_rfl) (by kernel_rfl) (by kernel_rfl) [.v (.sl (.int .i64)) true, .v (.int .i64) false] [(false, [.v (.int .i64)])] (fun k a => g_laws_szTable.m k a.1 a.2.1) (fun k a => by kernel_rfl)
/- 15 loop.example/g00984/laws.szClasses -/
def g_laws_szClasses.m (k : Nat) (a0_ : (List Int) × List Int) (left1_ : Int) : Option ((Int × Unit) × Unit) :=
  (g_laws_szTable.m k a0_.1 left1_).bind fun r1 =>
  bif (decide (r1.1.1 < 0)) then
    some (((-1), ()), ())
  else
    (g_laws_szTable.m k a0_.2 r1.1.1).bind fun r2 =>
    bif (decide (r2.1.1 < 0)) then
      some (((-1), ()), ())
    else
      some ((r2.1.1, ()), ())
def g_laws_szClasses.e : Entry Try.prog := mkEntry Dl [g_laws_szTable.e] (fun n => false) [] hm 15 Try.f15 (by kernel_rfl) (by kernel_rfl) (by kernel_rfl) [.v (.pair (.sl (.int .i64)) (.sl (.int .i64))) true, .v (.int .i64) false] [(false, [.v (.int .i64)])] (fun k a => g_laws_szClasses.m k a.1 a.2.1) (fun k a => by kernel_rfl)
/- 117 loop.example/g00984/laws.szFlitS -/
def g_laws_szFlitS.m (k : Nat) (a0_ : List (Int × Int × Int × Bool × Bool)) (left1_ : Int) : Option ((Int × Unit) × Unit) :=
  bif (decide ((w64 (left1_ - (a0_.length : Int))) < 0)) then
    some (((-1), ()), ())
  else
    some (((w64 (left1_ - (a0_.length : Int))), ()), ())
def g_laws_szFlitS.e : Entry Try.prog := mkEntry Dl [] (fun n => false) [] hm 117 Try.f117 (by kernel_rfl) (by kernel_rfl) (by kernel_rfl) [.v (.sl (.pair (.int .i64) (.pair (.int .i64) (.pair (.int .i64) (.pair .bool .bool))))) false, .v (.int .i64) false] [(false, [.v (.int .i64)])] (fun k a => g_laws_szFlitS.m k a.1 a.2.1) (fun k a => by kernel_rfl)
/- 70 loop.example/g00984/laws.szFlitSS -/
def g_laws_szFlitSS.p0 : LPat := ⟨27, [(0, false, [.v (.sl (.sl (.pair (.int .i64) (.pair (.int .i64) (.pair (.int .i64) (.pair .bool .bool))))))]), (1, false, [.v (.int .i64)]), (5, false, [.v (.int .i64)])], []⟩
def g_laws_szFlitSS.F0 (k : Nat)  (rec0 : (List (List (Int × Int × Int × Bool × Bool))) → Int → Int → Option ((Int × Unit) × Unit)) (a0 : (List (List (Int × Int × Int × Bool × Bool)))) (left1 : Int) (i5 : Int) : Option ((Int × Unit) × Unit) :=
  bif (decide (i5 < (a0.length : Int))) then
    bif ((decide (0 ≤ i5)) && (decide (i5 < (a0.length : Int)))) then
      (g_laws_szFlitS.m k (List.getD a0 i5.toNat ([] : List (Int × Int × Int × Bool × Bool))) left1).bind fun r1 =>
      bif (decide (r1.1.1 < 0)) then
        some (((-1), ()), ())
      else
        rec0 a0 r1.1.1 (w64 (i5 + 1))
    else none
  else
    some ((left1, ()), ())
def g_laws_szFlitSS.L0 (k : Nat)  (j : Nat) (a0 : (List (List (Int × Int × Int × Bool × Bool)))) (left1 : Int) (i5 : Int) : Option ((Int × Unit) × Unit) :=
  iter (fun (rec : g_laws_szFlitSS.p0.den → Option ((Int × Unit) × Unit)) s => g_laws_szFlitSS.F0 k  (fun a0 left1 i5 => rec (((a0, ()), (left1, ()), (i5, ()), ()), ())) s.1.1.1 s.1.2.1.1 s.1.2.2.1.1) j (((a0, ()), (left1, ()), (i5, ()), ()), ())
theorem g_laws_szFlitSS.L0_s (k : Nat)  (j : Nat) (a0 : (List (List (Int × Int × Int × Bool × Bool)))) (left1 : Int) (i5 : Int) : g_laws_szFlitSS.L0 k  (j + 1) a0 left1 i5 = g_laws_szFlitSS.F0 k  (g_laws_szFlitSS.L0 k  j) a0 left1 i5 := rfl
def g_laws_szFlitSS.m (k : Nat) (a0_ : List (List (Int × Int × Int × Bool × Bool))) (left1_ : Int) : Option ((Int × Unit) × Unit) :=
  bif (decide ((w64 (left1_ - (a0_.length : Int))) < 0)) then
    some (((-1), ()), ())
  else
    g_laws_szFlitSS.L0 k k a0_ (w64 (left1_ - (a0_.length : Int))) 0
def g_laws_szFlitSS.e : Entry Try.prog := mkEntry Dl [g_laws_szFlitS.e] (fun n => false) [(5, g_laws_szFlitSS.p0)] hm 70 Try.f70 (by kernel_rfl) (by kernel_rfl) (by kernel_rfl) [.v (.sl (.sl (.pair (.int .i64) (.pair (.int .i64) (.pair (.int .i64) (.pair .bool .bool)))))) false, .v (.int .i64) false] [(false, [.v (.int .i64)])] (fun k a => g_laws_szFlitSS.m k a.1 a.2.1) (fun k a => by kernel_rfl)
/- 29 loop.example/g00984/laws.szNet -/
def g_laws_szNet.m (k : Nat) (a0_ : ((Int × Int) × List Int) × ((List Int) × List Int) × (List (List (Int × Int × Int × Bool × Bool))) × (List Int) × (List Int) × (List (List (Int × Int × Int × Bool × Bool))) × (List (List (Int × Int × Int × Bool × Bool))) × Int) (left1_ : Int) : Option ((Int × Unit) × Unit) :=
  (g_laws_szMesh.m k a0_.1 left1_).bind fun r1 =>
  bif (decide (r1.1.1 < 0)) then
    some (((-1), ()), ())
  else
    (g_laws_szClasses.m k a0_.2.1 r1.1.1).bind fun r2 =>
    bif (decide (r2.1.1 < 0)) then
      some (((-1), ()), ())
    else
      (g_laws_szFlitSS.m k a0_.2.2.1 r2.1.1).bind fun r3 =>
      bif (decide (r3.1.1 < 0)) then
        some (((-1), ()), ())
      else
        (g_laws_szIntS.m k a0_.2.2.2.1 r3.1.1).bind fun r4 =>
        bif (decide (r4.1.1 < 0)) then
          some (((-1), ()), ())
        else
          (g_laws_szIntS.m k a0_.2.2.2.2.1 r4.1.1).bind fun r5 =>
          bif (decide (r5.1.1 < 0)) then
            some (((-1), ()), ())
          else
            (g_laws_szFlitSS.m k a0_.2.2.2.2.2.1 r5.1.1).bind fun r6 =>
            bif (decide (r6.1.1 < 0)) then
              some (((-1), ()), ())
            else
              (g_laws_szFlitSS.m k a0_.2.2.2.2.2.2.1 r6.1.1).bind fun r7 =>
              bif (decide (r7.1.1 < 0)) then
                some (((-1), ()), ())
              else
                some ((r7.1.1, ()), ())
def g_laws_szNet.e : Entry Try.prog := mkEntry Dl [g_laws_szMesh.e, g_laws_szClasses.e, g_laws_szFlitSS.e, g_laws_szIntS.e] (fun n => false) [] hm 29 Try.f29 (by kernel_rfl) (by kernel_rfl) (by kernel_rfl) [.v (.pair (.pair (.pair (.int .i64) (.int .i64)) (.sl (.int .i64))) (.pair (.pair (.sl (.int .i64)) (.sl (.int .i64))) (.pair (.sl (.sl (.pair (.int .i64) (.pair (.int .i64) (.pair (.int .i64) (.pair .bool .bool)))))) (.pair (.sl (.int .i64)) (.pair (.sl (.int .i64)) (.pair (.sl (.sl (.pair (.int .i64) (.pair (.int .i64) (.pair (.int .i64) (.pair .bool .bool)))))) (.pair (.sl (.sl (.pair (.int .i64) (.pair (.int .i64) (.pair (.int .i64) (.pair .bool .bool)))))) (.int .i64)))))))) true, .v (.int .i64) false] [(false, [.v (.int .i64)])] (fun k a => g_laws_szNet.m k a.1 a.2.1) (fun k a => by kernel_rfl)
/- 30 loop.example/g00984/laws.szPacketS -/
def g_laws_szPacketS.m (k : Nat) (a0_ : List (Int × Int × Int × Int × Int)) (left1_ : Int) : Option ((Int × Unit) × Unit) :=
  bif (decide ((w64 (left1_ - (a0_.length : Int))) < 0)) then
    some (((-1), ()), ())
  else
    some (((w64 (left1_ - (a0_.length : Int))), ()), ())
def g_laws_szPacketS.e : Entry Try.prog := mkEntry Dl [] (fun n => false) [] hm 30 Try.f30 (by kernel_rfl) (by kernel_rfl) (by kernel_rfl) [.v (.sl (.pair (.int .i64) (.pair (.int .i64) (.pair (.int .i64) (.pair (.int .i64) (.int .i64)))))) false, .v (.int .i64) false] [(false, [.v (.int .i64)])] (fun k a => g_laws_szPacketS.m k a.1 a.2.1) (fun k a => by kernel_rfl)
/- 7 loop.example/g00984/laws.szChip -/
def g_laws_szChip.m (k : Nat) (a0_ : (((Int × Int) × List Int) × ((List Int) × List Int) × (List (List (Int × Int × Int × Bool × Bool))) × (List Int) × (List Int) × (List (List (Int × Int × Int × Bool × Bool))) × (List (List (Int × Int × Int × Bool × Bool))) × Int) × List (Int × Int × Int × Int × Int)) (left1_ : Int) : Option ((Int × Unit) × Unit) :=
  (g_laws_szNet.m k a0_.1 left1_).bind fun r1 =>
  bif (decide (r1.1.1 < 0)) then
    some (((-1), ()), ())
  else
    (g_laws_szPacketS.m k a0_.2 r1.1.1).bind fun r2 =>
    bif (decide (r2.1.1 < 0)) then
      some (((-1), ()), ())
    else
      some ((r2.1.1, ()), ())
def g_laws_szChip.e : Entry Try.prog := mkEntry Dl [g_laws_szNet.e, g_laws_szPacketS.e] (fun n => false) [] hm 7 Try.f7 (by kernel_rfl) (by kernel_rfl) (by kernel_rfl) [.v (.pair (.pair (.pair (.pair (.int .i64) (.int .i64)) (.sl (.int .i64))) (.pair (.pair (.sl (.int .i64)) (.sl (.int .i64))) (.pair (.sl (.sl (.pair (.int .i64) (.pair (.int .i64) (.pair (.int .i64) (.pair .bool .bool)))))) (.pair (.sl (.int .i64)) (.pair (.sl (.int .i64)) (.pair (.sl (.sl (.pair (.int .i64) (.pair (.int .i64) (.pair (.int .i64) (.pair .bool .bool)))))) (.pair (.sl (.sl (.pair (.int .i64) (.pair (.int .i64) (.pair (.int .i64) (.pair .bool .bool)))))) (.int .i64)))))))) (.sl (.pair (.int .i64) (.pair (.int .i64) (.pair (.int .i64) (.pair (.int .i64) (.int .i64))))))) true, .v (.int .i64) false] [(false, [.v (.int .i64)])] (fun k a => g_laws_szChip.m k a.1 a.2.1) (fun k a => by kernel_rfl)
/- 52 loop.example/g00984/laws.toGrid -/
def g_laws_toGrid.m (k : Nat) (a0_ : Int × Int) : Option (((Int × Int) × Unit) × Unit) :=
  some ((a0_, ()), ())
def g_laws_toGrid.e : Entry Try.prog := mkEntry Dl [] (fun n => false) [] hm 52 Try.f52 (by kernel_rfl) (by kernel_rfl) (by kernel_rfl) [.v (.pair (.int .i64) (.int .i64)) true] [(true, [.v (.pair (.int .i64) (.int .i64))])] (fun k a => g_laws_toGrid.m k a.1) (fun k a => by kernel_rfl)
/- 53 loop.example/g00984/laws.toIntS -/
def g_laws_toIntS.p0 : LPat := ⟨22, [(0, false, [.v (.sl (.int .i64))]), (3, false, [.o 3 (.int .i64)]), (4, false, [.v (.int .i64)])], []⟩
def g_laws_toIntS.F0 (k : Nat)  (rec0 : (List Int) → (List Int) → Int → Option (((List Int) × Unit) × Unit)) (a0 : (List Int)) (out3 : (List Int)) (i4 : Int) : Option (((List Int) × Unit) × Unit) :=
  bif (decide (i4 < (a0.length : Int))) then
    bif ((decide (0 ≤ i4)) && (decide (i4 < (a0.length : Int)))) then
      bif ((decide (0 ≤ i4)) && (decide (i4 < (out3.length : Int)))) then
        rec0 a0 (List.set out3 i4.toNat (List.getD a0 i4.toNat 0)) (w64 (i4 + 1))
      else none
    else none
  else
    some ((out3, ()), ())
def g_laws_toIntS.L0 (k : Nat)  (j : Nat) (a0 : (List Int)) (out3 : (List Int)) (i4 : Int) : Option (((List Int) × Unit) × Unit) :=
  iter (fun (rec : g_laws_toIntS.p0.den → Option (((List Int) × Unit) × Unit)) s => g_laws_toIntS.F0 k  (fun a0 out3 i4 => rec (((a0, ()), (out3, ()), (i4, ()), ()), ())) s.1.1.1 s.1.2.1.1 s.1.2.2.1.1) j (((a0, ()), (out3, ()), (i4, ()), ()), ())
theorem g_laws_toIntS.L0_s (k : Nat)  (j : Nat) (a0 : (List Int)) (out3 : (List Int)) (i4 : Int) : g_laws_toIntS.L0 k  (j + 1) a0 out3 i4 = g_laws_toIntS.F0 k  (g_laws_toIntS.L0 k  j) a0 out3 i4 := rfl
def g_laws_toIntS.m (k : Nat) (a0_ : List Int) : Option (((List Int) × Unit) × Unit) :=
  bif ((decide (0 ≤ (a0_.length : Int))) && (decide (((a0_.length : Int) * 8) ≤ 140737488355328))) then
    g_laws_toIntS.L0 k k a0_ (List.replicate (a0_.length : Int).toNat 0) 0
  else none
def g_laws_toIntS.e : Entry Try.prog := mkEntry Dl [] (fun n => false) [(3, g_laws_toIntS.p0)] hm 53 Try.f53 (by kernel_rfl) (by kernel_rfl) (by kernel_rfl) [.v (.sl (.int .i64)) false] [(false, [.o 3 (.int .i64)])] (fun k a => g_laws_toIntS.m k a.1) (fun k a => by kernel_rfl)
/- 17 loop.example/g00984/laws.toMesh -/
def g_laws_toMesh.m (k : Nat) (a0_ : (Int × Int) × List Int) : Option ((Int × Int × (List Int) × Unit) × Unit) :=
  (g_laws_toGrid.m k a0_.1).bind fun r1 =>
  (g_laws_toIntS.m k a0_.2).bind fun r2 =>
  some ((r1.1.1.1, (r1.1.1.2, (r2.1.1, ()))), ())
def g_laws_toMesh.e : Entry Try.prog := mkEntry Dl [g_laws_toGrid.e, g_laws_toIntS.e] (fun n => false) [] hm 17 Try.f17 (by kernel_rfl) (by kernel_rfl) (by kernel_rfl) [.v (.pair (.pair (.int .i64) (.int .i64)) (.sl (.int .i64))) true] [(true, [.v (.int .i64), .v (.int .i64), .o 3 (.int .i64)])] (fun k a => g_laws_toMesh.m k a.1) (fun k a => by kernel_rfl)
/- 54 loop.example/g00984/laws.toTable -/
def g_laws_toTable.m (k : Nat) (a0_ : List Int) : Option (((List Int) × Unit) × Unit) :=
  (g_laws_toIntS.m k a0_).bind fun r1 =>
  some ((r1.1.1, ()), ())
def g_laws_toTable.e : Entry Try.prog := mkEntry Dl [g_laws_toIntS.e] (fun n => false) [] hm 54 Try.f54 (by kernel_rfl) (by kernel_rfl) (by kernel_rfl) [.v (.sl (.int .i64)) true] [(true, [.o 3 (.int .i64)])] (fun k a => g_laws_toTable.m k a.1) (fun k a => by kernel_rfl)
/- 18 loop.example/g00984/laws.toClasses -/
def g_laws_toClasses.m (k : Nat) (a0_ : (List Int) × List Int) : Option (((List Int) × (List Int) × Unit) × Unit) :=
  (g_laws_toTable.m k a0_.1).bind fun r1 =>
  (g_laws_toTable.m k a0_.2).bind fun r2 =>
  some ((r1.1.1, (r2.1.1, ())), ())
def g_laws_toClasses.e : Entry Try.prog := mkEntry Dl [g_laws_toTable.e] (fun n => false) [] hm 18 Try.f18 (by kernel_rfl) (by kernel_rfl) (by kernel_rfl) [.v (.pair (.sl (.int .i64)) (.sl (.int .i64))) true] [(true, [.o 3 (.int .i64), .o 3 (.int .i64)])] (fun k a => g_laws_toClasses.m k a.1) (fun k a => by kernel_rfl)
/- 141 loop.example/g00984/laws.toFlit -/
def g_laws_toFlit.m (k : Nat) (a0_ : Int × Int × Int × Bool × Bool) : Option (((Int × Int × Int × Bool × Bool) × Unit) × Unit) :=
  some ((a0_, ()), ())
def g_laws_toFlit.e : Entry Try.prog := mkEntry Dl [] (fun n => false) [] hm 141 Try.f141 (by kernel_rfl) (by kernel_rfl) (by kernel_rfl) [.v (.pair (.int .i64) (.pair (.int .i64) (.pair (.int .i64) (.pair .bool .bool)))) true] [(true, [.v (.pair (.int .i64) (.pair (.int .i64) (.pair (.int .i64) (.pair .bool .bool))))])] (fun k a => g_laws_toFlit.m k a.1) (fun k a => by kernel_rfl)
/- 120 loop.example/g00984/laws.toFlitS -/
def g_laws_toFlitS.p0 : LPat := ⟨23, [(0, false, [.v (.sl (.pair (.int .i64) (.pair (.int .i64) (.pair (.int .i64) (.pair .bool .bool)))))]), (3, false, [.o 110 (.pair (.int .i64) (.pair (.int .i64) (.pair (.int .i64) (.pair .bool .bool))))]), (4, false, [.v (.int .i64)])], []⟩
def g_laws_toFlitS.F0 (k : Nat)  (rec0 : (List (Int × Int × Int × Bool × Bool)) → (List (Int × Int × Int × Bool × Bool)) → Int → Option (((List (Int × Int × Int × Bool × Bool)) × Unit) × Unit)) (a0 : (List (Int × Int × Int × Bool × Bool))) (out3 : (List (Int × Int × Int × Bool × Bool))) (i4 : Int) : Option (((List (Int × Int × Int × Bool × Bool)) × Unit) × Unit) :=
  bif (decide (i4 < (a0.length : Int))) then
    bif ((decide (0 ≤ i4)) && (decide (i4 < (a0.length : Int)))) then
      (g_laws_toFlit.m k (List.getD a0 i4.toNat ((0), ((0), ((0), (false, false)))))).bind fun r1 =>
      bif ((decide (0 ≤ i4)) && (decide (i4 < (out3.length : Int)))) then
        rec0 a0 (List.set out3 i4.toNat r1.1.1) (w64 (i4 + 1))
      else none
    else none
  else
    some ((out3, ()), ())
def g_laws_toFlitS.L0 (k : Nat)  (j : Nat) (a0 : (List (Int × Int × Int × Bool × Bool))) (out3 : (List (Int × Int × Int × Bool × Bool))) (i4 : Int) : Option (((List (Int × Int × Int × Bool × Bool)) × Unit) × Unit) :=
  iter (fun (rec : g_laws_toFlitS.p0.den → Option (((List (Int × Int × Int × Bool × Bool)) × Unit) × Unit)) s => g_laws_toFlitS.F0 k  (fun a0 out3 i4 => rec (((a0, ()), (out3, ()), (i4, ()), ()), ())) s.1.1.1 s.1.2.1.1 s.1.2.2.1.1) j (((a0, ()), (out3, ()), (i4, ()), ()), ())
theorem g_laws_toFlitS.L0_s (k : Nat)  (j : Nat) (a0 : (List (Int × Int × Int × Bool × Bool))) (out3 : (List (Int × Int × Int × Bool × Bool))) (i4 : Int) : g_laws_toFlitS.L0 k  (j + 1) a0 out3 i4 = g_laws_toFlitS.F0 k  (g_laws_toFlitS.L0 k  j) a0 out3 i4 := rfl
def g_laws_toFlitS.m (k : Nat) (a0_ : List (Int × Int × Int × Bool × Bool)) : Option (((List (Int × Int × Int × Bool × Bool)) × Unit) × Unit) :=
  bif ((decide (0 ≤ (a0_.length : Int))) && (decide (((a0_.length : Int) * 32) ≤ 140737488355328))) then
    g_laws_toFlitS.L0 k k a0_ (List.replicate (a0_.length : Int).toNat ((0), ((0), ((0), (false, false))))) 0
  else none
def g_laws_toFlitS.e : Entry Try.prog := mkEntry Dl [g_laws_toFlit.e] (fun n => false) [(3, g_laws_toFlitS.p0)] hm 120 Try.f120 (by kernel_rfl) (by kernel_rfl) (by kernel_rfl) [.v (.sl (.pair (.int .i64) (.pair (.int .i64) (.pair (.int .i64) (.pair .bool .bool))))) false] [(false, [.o 110 (.pair (.int .i64) (.pair (.int .i64) (.pair (.int .i64) (.pair .bool .bool))))])] (fun k a => g_laws_toFlitS.m k a.1) (fun k a => by kernel_rfl)
/- 78 loop.example/g00984/laws.toFlitSS -/
def g_laws_toFlitSS.p0 : LPat := ⟨23, [(0, false, [.v (.sl (.sl (.pair (.int .i64) (.pair (.int .i64) (.pair (.int .i64) (.pair .bool .bool))))))]), (3, false, [.o 107 (.sl (.pair (.int .i64) (.pair (.int .i64) (.pair (.int .i64) (.pair .bool .bool)))))]), (4, false, [.v (.int .i64)])], []⟩
def g_laws_toFlitSS.F0 (k : Nat)  (rec0 : (List (List (Int × Int × Int × Bool × Bool))) → (List (List (Int × Int × Int × Bool × Bool))) → Int → Option (((List (List (Int × Int × Int × Bool × Bool))) × Unit) × Unit)) (a0 : (List (List (Int × Int × Int × Bool × Bool)))) (out3 : (List (List (Int × Int × Int × Bool × Bool)))) (i4 : Int) : Option (((List (List (Int × Int × Int × Bool × Bool))) × Unit) × Unit) :=
  bif (decide (i4 < (a0.length : Int))) then
    bif ((decide (0 ≤ i4)) && (decide (i4 < (a0.length : Int)))) then
      (g_laws_toFlitS.m k (List.getD a0 i4.toNat ([] : List (Int × Int × Int × Bool × Bool)))).bind fun r1 =>
      bif ((decide (0 ≤ i4)) && (decide (i4 < (out3.length : Int)))) then
        rec0 a0 (List.set out3 i4.toNat r1.1.1) (w64 (i4 + 1))
      else none
    else none
  else
    some ((out3, ()), ())
def g_laws_toFlitSS.L0 (k : Nat)  (j : Nat) (a0 : (List (List (Int × Int × Int × Bool × Bool)))) (out3 : (List (List (Int × Int × Int × Bool × Bool)))) (i4 : Int) : Option (((List (List (Int × Int × Int × Bool × Bool))) × Unit) × Unit) :=
  iter (fun (rec : g_laws_toFlitSS.p0.den → Option (((List (List (Int × Int × Int × Bool × Bool))) × Unit) × Unit)) s => g_laws_toFlitSS.F0 k  (fun a0 out3 i4 => rec (((a0, ()), (out3, ()), (i4, ()), ()), ())) s.1.1.1 s.1.2.1.1 s.1.2.2.1.1) j (((a0, ()), (out3, ()), (i4, ()), ()), ())
theorem g_laws_toFlitSS.L0_s (k : Nat)  (j : Nat) (a0 : (List (List (Int × Int × Int × Bool × Bool)))) (out3 : (List (List (Int × Int × Int × Bool × Bool)))) (i4 : Int) : g_laws_toFlitSS.L0 k  (j + 1) a0 out3 i4 = g_laws_toFlitSS.F0 k  (g_laws_toFlitSS.L0 k  j) a0 out3 i4 := rfl
def g_laws_toFlitSS.m (k : Nat) (a0_ : List (List (Int × Int × Int × Bool × Bool))) : Option (((List (List (Int × Int × Int × Bool × Bool))) × Unit) × Unit) :=
  bif ((decide (0 ≤ (a0_.length : Int))) && (decide (((a0_.length : Int) * 24) ≤ 140737488355328))) then
    g_laws_toFlitSS.L0 k k a0_ (List.replicate (a0_.length : Int).toNat ([] : List (Int × Int × Int × Bool × Bool))) 0
  else none
def g_laws_toFlitSS.e : Entry Try.prog := mkEntry Dl [g_laws_toFlitS.e] (fun n => false) [(3, g_laws_toFlitSS.p0)] hm 78 Try.f78 (by kernel_rfl) (by kernel_rfl) (by kernel_rfl) [.v (.sl (.sl (.pair (.int .i64) (.pair (.int .i64) (.pair (.int .i64) (.pair .bool .bool)))))) false] [(false, [.o 107 (.sl (.pair (.int .i64) (.pair (.int .i64) (.pair (.int .i64) (.pair .bool .bool)))))])] (fun k a => g_laws_toFlitSS.m k a.1) (fun k a => by kernel_rfl)
/- 34 loop.example/g00984/laws.toNet -/
def g_laws_toNet.m (k : Nat) (a0_ : ((Int × Int) × List Int) × ((List Int) × List Int) × (List (List (Int × Int × Int × Bool × Bool))) × (List Int) × (List Int) × (List (List (Int × Int × Int × Bool × Bool))) × (List (List (Int × Int × Int × Bool × Bool))) × Int) : Option ((Int × Int × (List Int) × (List Int) × (List Int) × (List (List (Int × Int × Int × Bool × Bool))) × (List Int) × (List Int) × (List (List (Int × Int × Int × Bool × Bool))) × (List (List (Int × Int × Int × Bool × Bool))) × Int × Unit) × Unit) :=
  (g_laws_toMesh.m k a0_.1).bind fun r1 =>
  (g_laws_toClasses.m k a0_.2.1).bind fun r2 =>
  (g_laws_toFlitSS.m k a0_.2.2.1).bind fun r3 =>
  (g_laws_toIntS.m k a0_.2.2.2.1).bind fun r4 =>
  (g_laws_toIntS.m k a0_.2.2.2.2.1).bind fun r5 =>
  (g_laws_toFlitSS.m k a0_.2.2.2.2.2.1).bind fun r6 =>
  (g_laws_toFlitSS.m k a0_.2.2.2.2.2.2.1).bind fun r7 =>
  some ((r1.1.1, (r1.1.2.1, (r1.1.2.2.1, (r2.1.1, (r2.1.2.1, (r3.1.1, (r4.1.1, (r5.1.1, (r6.1.1, (r7.1.1, (a0_.2.2.2.2.2.2.2, ()))))))))))), ())
def g_laws_toNet.e : Entry Try.prog := mkEntry Dl [g_laws_toMesh.e, g_laws_toClasses.e, g_laws_toFlitSS.e, g_laws_toIntS.e] (fun n => false) [] hm 34 Try.f34 (by kernel_rfl) (by kernel_rfl) (by kernel_rfl) [.v (.pair (.pair (.pair (.int .i64) (.int .i64)) (.sl (.int .i64))) (.pair (.pair (.sl (.int .i64)) (.sl (.int .i64))) (.pair (.sl (.sl (.pair (.int .i64) (.pair (.int .i64) (.pair (.int .i64) (.pair .bool .bool)))))) (.pair (.sl (.int .i64)) (.pair (.sl (.int .i64)) (.pair (.sl (.sl (.pair (.int .i64) (.pair (.int .i64) (.pair (.int .i64) (.pair .bool .bool)))))) (.pair (.sl (.sl (.pair (.int .i64) (.pair (.int .i64) (.pair (.int .i64) (.pair .bool .bool)))))) (.int .i64)))))))) true] [(true, [.v (.int .i64), .v (.int .i64), .o 3 (.int .i64), .o 3 (.int .i64), .o 3 (.int .i64), .o 107 (.sl (.pair (.int .i64) (.pair (.int .i64) (.pair (.int .i64) (.pair .bool .bool))))), .o 3 (.int .i64), .o 3 (.int .i64), .o 107 (.sl (.pair (.int .i64) (.pair (.int .i64) (.pair (.int .i64) (.pair .bool .bool))))), .o 107 (.sl (.pair (.int .i64) (.pair (.int .i64) (.pair (.int .i64) (.pair .bool .bool))))), .v (.int .i64)])] (fun k a => g_laws_toNet.m k a.1) (fun k a => by kernel_rfl)
/- 79 loop.example/g00984/laws.toPacket -/
def g_laws_toPacket.m (k : Nat) (a0_ : Int × Int × Int × Int × Int) : Option (((Int × Int × Int × Int × Int) × Unit) × Unit) :=
  some ((a0_, ()), ())
def g_laws_toPacket.e : Entry Try.prog := mkEntry Dl [] (fun n => false) [] hm 79 Try.f79 (by kernel_rfl) (by kernel_rfl) (by kernel_rfl) [.v (.pair (.int .i64) (.pair (.int .i64) (.pair (.int .i64) (.pair (.int .i64) (.int .i64))))) true] [(true, [.v (.pair (.int .i64) (.pair (.int .i64) (.pair (.int .i64) (.pair (.int .i64) (.int .i64)))))])] (fun k a => g_laws_toPacket.m k a.1) (fun k a => by kernel_rfl)
/- 35 loop.example/g00984/laws.toPacketS -/
def g_laws_toPacketS.p0 : LPat := ⟨23, [(0, false, [.v (.sl (.pair (.int .i64) (.pair (.int .i64) (.pair (.int .i64) (.pair (.int .i64) (.int .i64))))))]), (3, false, [.o 74 (.pair (.int .i64) (.pair (.int .i64) (.pair (.int .i64) (.pair (.int .i64) (.int .i64)))))]), (4, false, [.v (.int .i64)])], []⟩
def g_laws_toPacketS.F0 (k : Nat)  (rec0 : (List (Int × Int × Int × Int × Int)) → (List (Int × Int × Int × Int × Int)) → Int → Option (((List (Int × Int × Int × Int × Int)) × Unit) × Unit)) (a0 : (List (Int × Int × Int × Int × Int))) (out3 : (List (Int × Int × Int × Int × Int))) (i4 : Int) : Option (((List (Int × Int × Int × Int × Int)) × Unit) × Unit) :=
  bif (decide (i4 < (a0.length : Int))) then
    bif ((decide (0 ≤ i4)) && (decide (i4 < (a0.length : Int)))) then
      (g_laws_toPacket.m k (List.getD a0 i4.toNat ((0), ((0), ((0), ((0), (0))))))).bind fun r1 =>
      bif ((decide (0 ≤ i4)) && (decide (i4 < (out3.length : Int)))) then
        rec0 a0 (List.set out3 i4.toNat r1.1.1) (w64 (i4 + 1))
      else none
    else none
  else
    some ((out3, ()), ())
def g_laws_toPacketS.L0 (k : Nat)  (j : Nat) (a0 : (List (Int × Int × Int × Int × Int))) (out3 : (List (Int × Int × Int × Int × Int))) (i4 : Int) : Option (((List (Int × Int × Int × Int × Int)) × Unit) × Unit) :=
  iter (fun (rec : g_laws_toPacketS.p0.den → Option (((List (Int × Int × Int × Int × Int)) × Unit) × Unit)) s => g_laws_toPacketS.F0 k  (fun a0 out3 i4 => rec (((a0, ()), (out3, ()), (i4, ()), ()), ())) s.1.1.1 s.1.2.1.1 s.1.2.2.1.1) j (((a0, ()), (out3, ()), (i4, ()), ()), ())
theorem g_laws_toPacketS.L0_s (k : Nat)  (j : Nat) (a0 : (List (Int × Int × Int × Int × Int))) (out3 : (List (Int × Int × Int × Int × Int))) (i4 : Int) : g_laws_toPacketS.L0 k  (j + 1) a0 out3 i4 = g_laws_toPacketS.F0 k  (g_laws_toPacketS.L0 k  j) a0 out3 i4 := rfl
def g_laws_toPacketS.m (k : Nat) (a0_ : List (Int × Int × Int × Int × Int)) : Option (((List (Int × Int × Int × Int × Int)) × Unit) × Unit) :=
  bif ((decide (0 ≤ (a0_.length : Int))) && (decide (((a0_.length : Int) * 40) ≤ 140737488355328))) then
    g_laws_toPacketS.L0 k k a0_ (List.replicate (a0_.length : Int).toNat ((0), ((0), ((0), ((0), (0)))))) 0
  else none
def g_laws_toPacketS.e : Entry Try.prog := mkEntry Dl [g_laws_toPacket.e] (fun n => false) [(3, g_laws_toPacketS.p0)] hm 35 Try.f35 (by kernel_rfl) (by kernel_rfl) (by kernel_rfl) [.v (.sl (.pair (.int .i64) (.pair (.int .i64) (.pair (.int .i64) (.pair (.int .i64) (.int .i64)))))) false] [(false, [.o 74 (.pair (.int .i64) (.pair (.int .i64) (.pair (.int .i64) (.pair (.int .i64) (.int .i64)))))])] (fun k a => g_laws_toPacketS.m k a.1) (fun k a => by kernel_rfl)
/- 9 loop.example/g00984/laws.toChip -/
def g_laws_toChip.m (k : Nat) (a0_ : (((Int × Int) × List Int) × ((List Int) × List Int) × (List (List (Int × Int × Int × Bool × Bool))) × (List Int) × (List Int) × (List (List (Int × Int × Int × Bool × Bool))) × (List (List (Int × Int × Int × Bool × Bool))) × Int) × List (Int × Int × Int × Int × Int)) : Option ((Int × Int × (List Int) × (List Int) × (List Int) × (List (List (Int × Int × Int × Bool × Bool))) × (List Int) × (List Int) × (List (List (Int × Int × Int × Bool × Bool))) × (List (List (Int × Int × Int × Bool × Bool))) × Int × (List (Int × Int × Int × Int × Int)) × Unit) × Unit) :=
  (g_laws_toNet.m k a0_.1).bind fun r1 =>
  (g_laws_toPacketS.m k a0_.2).bind fun r2 =>
  some ((r1.1.1, (r1.1.2.1, (r1.1.2.2.1, (r1.1.2.2.2.1, (r1.1.2.2.2.2.1, (r1.1.2.2.2.2.2.1, (r1.1.2.2.2.2.2.2.1, (r1.1.2.2.2.2.2.2.2.1, (r1.1.2.2.2.2.2.2.2.2.1, (r1.1.2.2.2.2.2.2.2.2.2.1, (r1.1.2.2.2.2.2.2.2.2.2.2.1, (r2.1.1, ())))))))))))), ())
def g_laws_toChip.e : Entry Try.prog := mkEntry Dl [g_laws_toNet.e, g_laws_toPacketS.e] (fun n => false) [] hm 9 Try.f9 (by kernel_rfl) (by kernel_rfl) (by kernel_rfl) [.v (.pair (.pair (.pair (.pair (.int .i64) (.int .i64)) (.sl (.int .i64))) (.pair (.pair (.sl (.int .i64)) (.sl (.int .i64))) (.pair (.sl (.sl (.pair (.int .i64) (.pair (.int .i64) (.pair (.int .i64) (.pair .bool .bool)))))) (.pair (.sl (.int .i64)) (.pair (.sl (.int .i64)) (.pair (.sl (.sl (.pair (.int .i64) (.pair (.int .i64) (.pair (.int .i64) (.pair .bool .bool)))))) (.pair (.sl (.sl (.pair (.int .i64) (.pair (.int .i64) (.pair (.int .i64) (.pair .bool .bool)))))) (.int .i64)))))))) (.sl (.pair (.int .i64) (.pair (.int .i64) (.pair (.int .i64) (.pair (.int .i64) (.int .i64))))))) true] [(true, [.v (.int .i64), .v (.int .i64), .o 3 (.int .i64), .o 3 (.int .i64), .o 3 (.int .i64), .o 107 (.sl (.pair (.int .i64) (.pair (.int .i64) (.pair (.int .i64) (.pair .bool .bool))))), .o 3 (.int .i64), .o 3 (.int .i64), .o 107 (.sl (.pair (.int .i64) (.pair (.int .i64) (.pair (.int .i64) (.pair .bool .bool))))), .o 107 (.sl (.pair (.int .i64) (.pair (.int .i64) (.pair (.int .i64) (.pair .bool .bool))))), .v (.int .i64), .o 74 (.pair (.int .i64) (.pair (.int .i64) (.pair (.int .i64) (.pair (.int .i64) (.int .i64)))))])] (fun k a => g_laws_toChip.m k a.1) (fun k a => by kernel_rfl)
/- 71 loop.example/g00984/spec.l01In -/
def g_spec_l01In.m (k : Nat) (x0_ : Int) (least1_ : Int) (most2_ : Int) : Option ((Bool × Unit) × Unit) :=
  Option.bind (
    bif (decide (x0_ ≥ least1_)) then
      some (decide (x0_ ≤ most2_))
    else
      some false) fun b1 =>
  some ((b1, ()), ())
def g_spec_l01In.e : Entry Try.prog := mkEntry Dl [] (fun n => n == 1) [] hm 71 Try.f71 (by kernel_rfl) (by kernel_rfl) (by kernel_rfl) [.v (.int .i64) false, .v (.int .i64) false, .v (.int .i64) false] [(false, [.v .bool])] (fun k a => g_spec_l01In.m k a.1 a.2.1 a.2.2.1) (fun k a => by kernel_rfl)
/- 98 loop.example/g00984/spec.GridOk -/
def g_spec_GridOk.m (k : Nat) (g0_ : Int × Int) : Option ((Bool × Unit) × Unit) :=
  Option.bind (
    (g_spec_l01In.m k g0_.1 1 4).bind fun r1 =>
    bif r1.1.1 then
      (g_spec_l01In.m k g0_.2 1 4).bind fun r2 =>
      some r2.1.1
    else
      some false) fun b3 =>
  some ((b3, ()), ())
def g_spec_GridOk.e : Entry Try.prog := mkEntry Dl [g_spec_l01In.e] (fun n => n == 1) [] hm 98 Try.f98 (by kernel_rfl) (by kernel_rfl) (by kernel_rfl) [.v (.pair (.int .i64) (.int .i64)) true] [(false, [.v .bool])] (fun k a => g_spec_GridOk.m k a.1) (fun k a => by kernel_rfl)
/- 49 loop.example/g00984/spec.NodeCount -/
def g_spec_NodeCount.m (k : Nat) (g0_ : Int × Int) : Option ((Int × Unit) × Unit) :=
  (g_spec_GridOk.m k g0_).bind fun r1 =>
  bif (!r1.1.1) then
    some (((0), ()), ())
  else
    some (((w64 (g0_.1 * g0_.2)), ()), ())
def g_spec_NodeCount.e : Entry Try.prog := mkEntry Dl [g_spec_GridOk.e] (fun n => false) [] hm 49 Try.f49 (by kernel_rfl) (by kernel_rfl) (by kernel_rfl) [.v (.pair (.int .i64) (.int .i64)) true] [(false, [.v (.int .i64)])] (fun k a => g_spec_NodeCount.m k a.1) (fun k a => by kernel_rfl)
/- 73 loop.example/g00984/spec.l02Has -/
def g_spec_l02Has.m (k : Nat) (g0_ : Int × Int) (node1_ : Int) : Option ((Bool × Unit) × Unit) :=
  (g_spec_NodeCount.m k g0_).bind fun r1 =>
  (g_spec_l01In.m k node1_ 0 (w64 (r1.1.1 - 1))).bind fun r2 =>
  some ((r2.1.1, ()), ())
def g_spec_l02Has.e : Entry Try.prog := mkEntry Dl [g_spec_NodeCount.e, g_spec_l01In.e] (fun n => false) [] hm 73 Try.f73 (by kernel_rfl) (by kernel_rfl) (by kernel_rfl) [.v (.pair (.int .i64) (.int .i64)) true, .v (.int .i64) false] [(false, [.v .bool])] (fun k a => g_spec_l02Has.m k a.1 a.2.1) (fun k a => by kernel_rfl)
/- 130 loop.example/g00984/spec.NodeAt -/
def g_spec_NodeAt.m (k : Nat) (g0_ : Int × Int) (x1_ : Int) (y2_ : Int) : Option ((Int × Unit) × Unit) :=
  Option.bind (
    (g_spec_GridOk.m k g0_).bind fun r1 =>
    bif (!r1.1.1) then
      some true
    else
      (g_spec_l01In.m k x1_ 0 (w64 (g0_.1 - 1))).bind fun r2 =>
      bif (!r2.1.1) then
        some true
      else
        (g_spec_l01In.m k y2_ 0 (w64 (g0_.2 - 1))).bind fun r3 =>
        some (!r3.1.1)) fun b4 =>
  bif b4 then
    some (((-1), ()), ())
  else
    some (((w64 ((w64 (y2_ * g0_.1)) + x1_)), ()), ())
def g_spec_NodeAt.e : Entry Try.prog := mkEntry Dl [g_spec_GridOk.e, g_spec_l01In.e] (fun n => n == 1) [] hm 130 Try.f130 (by kernel_rfl) (by kernel_rfl) (by kernel_rfl) [.v (.pair (.int .i64) (.int .i64)) true, .v (.int .i64) false, .v (.int .i64) false] [(false, [.v (.int .i64)])] (fun k a => g_spec_NodeAt.m k a.1 a.2.1 a.2.2.1) (fun k a => by kernel_rfl)
/- 100 loop.example/g00984/spec.NextNode -/
def g_spec_NextNode.m (k : Nat) (g0_ : Int × Int) (node1_ : Int) (port2_ : Int) : Option ((Int × Unit) × Unit) :=
  (g_spec_l02Has.m k g0_ node1_).bind fun r1 =>
  bif (!r1.1.1) then
    some (((-1), ()), ())
  else
    bif (g0_.1 == 0) then
      none
    else
      bif (g0_.1 == 0) then
        none
      else
        bif (port2_ == 0) then
          (g_spec_NodeAt.m k g0_ (Int.tmod node1_ g0_.1) (w64 ((w64 (Int.tdiv node1_ g0_.1)) - 1))).bind fun r2 =>
          some ((r2.1.1, ()), ())
        else
          bif (port2_ == 1) then
            (g_spec_NodeAt.m k g0_ (w64 ((Int.tmod node1_ g0_.1) + 1)) (w64 (Int.tdiv node1_ g0_.1))).bind fun r3 =>
            some ((r3.1.1, ()), ())
          else
            bif (port2_ == 2) then
              (g_spec_NodeAt.m k g0_ (Int.tmod node1_ g0_.1) (w64 ((w64 (Int.tdiv node1_ g0_.1)) + 1))).bind fun r4 =>
              some ((r4.1.1, ()), ())
            else
              bif (port2_ == 3) then
                (g_spec_NodeAt.m k g0_ (w64 ((Int.tmod node1_ g0_.1) - 1)) (w64 (Int.tdiv node1_ g0_.1))).bind fun r5 =>
                some ((r5.1.1, ()), ())
              else
                bif (port2_ == 4) then
                  some ((node1_, ()), ())
                else
                  some (((-1), ()), ())
def g_spec_NextNode.e : Entry Try.prog := mkEntry Dl [g_spec_l02Has.e, g_spec_NodeAt.e] (fun n => false) [] hm 100 Try.f100 (by kernel_rfl) (by kernel_rfl) (by kernel_rfl) [.v (.pair (.int .i64) (.int .i64)) true, .v (.int .i64) false, .v (.int .i64) false] [(false, [.v (.int .i64)])] (fun k a => g_spec_NextNode.m k a.1 a.2.1 a.2.2.1) (fun k a => by kernel_rfl)
/- 129 loop.example/g00984/spec.l03Leads -/
def g_spec_l03Leads.m (k : Nat) (g0_ : Int × Int) (channel1_ : Int) : Option ((Bool × Unit) × Unit) :=
  Option.bind (
    (g_spec_NodeCount.m k g0_).bind fun r1 =>
    (g_spec_l01In.m k channel1_ 0 (w64 ((w64 (4 * r1.1.1)) - 1))).bind fun r2 =>
    bif r2.1.1 then
      (g_spec_NextNode.m k g0_ (w64 (Int.tdiv channel1_ 4)) (Int.tmod channel1_ 4)).bind fun r3 =>
      some (decide (r3.1.1 ≥ 0))
    else
      some false) fun b4 =>
  some ((b4, ()), ())
def g_spec_l03Leads.e : Entry Try.prog := mkEntry Dl [g_spec_NodeCount.e, g_spec_l01In.e, g_spec_NextNode.e] (fun n => n == 1) [] hm 129 Try.f129 (by kernel_rfl) (by kernel_rfl) (by kernel_rfl) [.v (.pair (.int .i64) (.int .i64)) true, .v (.int .i64) false] [(false, [.v .bool])] (fun k a => g_spec_l03Leads.m k a.1 a.2.1) (fun k a => by kernel_rfl)
/- 144 loop.example/g00984/spec.MeshOk -/
def g_spec_MeshOk.p0 : LPat := ⟨42, [(1, false, [.p 0 0]), (3, false, [.v (.int .i64)])], [some [.v (.int .i64), .v (.int .i64), .v (.sl (.int .i64))]]⟩
def g_spec_MeshOk.F0 (k : Nat)  (rec0 : Int → Int → Int → (List Int) → Option ((Bool × Unit) × Unit)) (i3 : Int) (b0_0 : Int) (b0_1 : Int) (b0_2 : (List Int)) : Option ((Bool × Unit) × Unit) :=
  bif (decide (i3 < (b0_2.length : Int))) then
    bif ((decide (0 ≤ i3)) && (decide (i3 < (b0_2.length : Int)))) then
      (g_spec_l03Leads.m k (b0_0, b0_1) (List.getD b0_2 i3.toNat 0)).bind fun r2 =>
      bif (!r2.1.1) then
        some ((false, ()), ())
      else
        bif (decide (i3 > 0)) then
          bif ((decide (0 ≤ i3)) && (decide (i3 < (b0_2.length : Int)))) then
            bif ((decide (0 ≤ (w64 (i3 - 1)))) && (decide ((w64 (i3 - 1)) < (b0_2.length : Int)))) then
              bif (decide ((List.getD b0_2 i3.toNat 0) ≤ (List.getD b0_2 (w64 (i3 - 1)).toNat 0))) then
                some ((false, ()), ())
              else
                rec0 (w64 (i3 + 1)) b0_0 b0_1 b0_2
            else none
          else none
        else
          rec0 (w64 (i3 + 1)) b0_0 b0_1 b0_2
    else none
  else
    some ((true, ()), ())
def g_spec_MeshOk.L0 (k : Nat)  (j : Nat) (i3 : Int) (b0_0 : Int) (b0_1 : Int) (b0_2 : (List Int)) : Option ((Bool × Unit) × Unit) :=
  iter (fun (rec : g_spec_MeshOk.p0.den → Option ((Bool × Unit) × Unit)) s => g_spec_MeshOk.F0 k  (fun i3 b0_0 b0_1 b0_2 => rec (((), (i3, ()), ()), ((b0_0, b0_1, b0_2, ()), ()))) s.1.2.1.1 s.2.1.1 s.2.1.2.1 s.2.1.2.2.1) j (((), (i3, ()), ()), ((b0_0, b0_1, b0_2, ()), ()))
theorem g_spec_MeshOk.L0_s (k : Nat)  (j : Nat) (i3 : Int) (b0_0 : Int) (b0_1 : Int) (b0_2 : (List Int)) : g_spec_MeshOk.L0 k  (j + 1) i3 b0_0 b0_1 b0_2 = g_spec_MeshOk.F0 k  (g_spec_MeshOk.L0 k  j) i3 b0_0 b0_1 b0_2 := rfl
def g_spec_MeshOk.m (k : Nat) (m0_ : (Int × Int) × List Int) : Option ((Bool × Unit) × Unit) :=
  (g_spec_GridOk.m k m0_.1).bind fun r1 =>
  bif (!r1.1.1) then
    some ((false, ()), ())
  else
    g_spec_MeshOk.L0 k k 0 m0_.1.1 m0_.1.2 m0_.2
def g_spec_MeshOk.e : Entry Try.prog := mkEntry Dl [g_spec_GridOk.e, g_spec_l03Leads.e] (fun n => false) [(4, g_spec_MeshOk.p0)] hm 144 Try.f144 (by kernel_rfl) (by kernel_rfl) (by kernel_rfl) [.v (.pair (.pair (.int .i64) (.int .i64)) (.sl (.int .i64))) true] [(false, [.v .bool])] (fun k a => g_spec_MeshOk.m k a.1) (fun k a => by kernel_rfl)
/- 128 loop.example/g00984/spec.l04Sized -/
def g_spec_l04Sized.m (k : Nat) (m0_ : (Int × Int) × List Int) (t1_ : List Int) : Option ((Bool × Unit) × Unit) :=
  (g_spec_NodeCount.m k m0_.1).bind fun r1 =>
  Option.bind (
    (g_spec_MeshOk.m k m0_).bind fun r2 =>
    bif r2.1.1 then
      some ((t1_.length : Int) == (w64 (r1.1.1 * r1.1.1)))
    else
      some false) fun b3 =>
  some ((b3, ()), ())
def g_spec_l04Sized.e : Entry Try.prog := mkEntry Dl [g_spec_NodeCount.e, g_spec_MeshOk.e] (fun n => n == 2) [] hm 128 Try.f128 (by kernel_rfl) (by kernel_rfl) (by kernel_rfl) [.v (.pair (.pair (.int .i64) (.int .i64)) (.sl (.int .i64))) true, .v (.sl (.int .i64)) true] [(false, [.v .bool])] (fun k a => g_spec_l04Sized.m k a.1 a.2.1) (fun k a => by kernel_rfl)
/- 92 loop.example/g00984/spec.l03Find -/
def g_spec_l03Find.p0 : LPat := ⟨18, [(0, false, [.v (.sl (.int .i64))]), (1, false, [.v (.int .i64)]), (5, false, [.v (.int .i64)])], []⟩
def g_spec_l03Find.F0 (k : Nat)  (rec0 : (List Int) → Int → Int → Option ((Bool × Unit) × Unit)) (list0 : (List Int)) (n1 : Int) (i5 : Int) : Option ((Bool × Unit) × Unit) :=
  bif (decide (i5 < (list0.length : Int))) then
    bif ((decide (0 ≤ i5)) && (decide (i5 < (list0.length : Int)))) then
      bif ((List.getD list0 i5.toNat 0) == n1) then
        some ((true, ()), ())
      else
        rec0 list0 n1 (w64 (i5 + 1))
    else none
  else
    some ((false, ()), ())
def g_spec_l03Find.L0 (k : Nat)  (j : Nat) (list0 : (List Int)) (n1 : Int) (i5 : Int) : Option ((Bool × Unit) × Unit) :=
  iter (fun (rec : g_spec_l03Find.p0.den → Option ((Bool × Unit) × Unit)) s => g_spec_l03Find.F0 k  (fun list0 n1 i5 => rec (((list0, ()), (n1, ()), (i5, ()), ()), ())) s.1.1.1 s.1.2.1.1 s.1.2.2.1.1) j (((list0, ()), (n1, ()), (i5, ()), ()), ())
theorem g_spec_l03Find.L0_s (k : Nat)  (j : Nat) (list0 : (List Int)) (n1 : Int) (i5 : Int) : g_spec_l03Find.L0 k  (j + 1) list0 n1 i5 = g_spec_l03Find.F0 k  (g_spec_l03Find.L0 k  j) list0 n1 i5 := rfl
def g_spec_l03Find.m (k : Nat) (list0_ : List Int) (n1_ : Int) : Option ((Bool × Unit) × Unit) :=
  g_spec_l03Find.L0 k k list0_ n1_ 0
def g_spec_l03Find.e : Entry Try.prog := mkEntry Dl [] (fun n => false) [(2, g_spec_l03Find.p0)] hm 92 Try.f92 (by kernel_rfl) (by kernel_rfl) (by kernel_rfl) [.v (.sl (.int .i64)) false, .v (.int .i64) false] [(false, [.v .bool])] (fun k a => g_spec_l03Find.m k a.1 a.2.1) (fun k a => by kernel_rfl)
/- 99 loop.example/g00984/spec.l03Has -/
def g_spec_l03Has.m (k : Nat) (m0_ : (Int × Int) × List Int) (channel1_ : Int) : Option ((Bool × Unit) × Unit) :=
  Option.bind (
    (g_spec_l03Leads.m k m0_.1 channel1_).bind fun r1 =>
    bif r1.1.1 then
      (g_spec_l03Find.m k m0_.2 channel1_).bind fun r2 =>
      some (!r2.1.1)
    else
      some false) fun b3 =>
  some ((b3, ()), ())
def g_spec_l03Has.e : Entry Try.prog := mkEntry Dl [g_spec_l03Leads.e, g_spec_l03Find.e] (fun n => n == 1) [] hm 99 Try.f99 (by kernel_rfl) (by kernel_rfl) (by kernel_rfl) [.v (.pair (.pair (.int .i64) (.int .i64)) (.sl (.int .i64))) true, .v (.int .i64) false] [(false, [.v .bool])] (fun k a => g_spec_l03Has.m k a.1 a.2.1) (fun k a => by kernel_rfl)
/- 50 loop.example/g00984/spec.l04Walk -/
def g_spec_l04Walk.p0 : LPat := ⟨64, [(3, false, [.v (.int .i64)]), (4, false, [.p 0 0]), (5, false, [.p 1 0]), (9, false, [.o 3 (.int .i64)]), (10, false, [.v (.int .i64)]), (11, false, [.v (.int .i64)])], [some [.v (.int .i64), .v (.int .i64), .v (.sl (.int .i64))], some [.v (.sl (.int .i64))]]⟩
def g_spec_l04Walk.F0 (k : Nat)  (rec0 : Int → (List Int) → Int → Int → Int → Int → (List Int) → (List Int) → Option (((List Int) × Unit) × Unit)) (to3 : Int) (out9 : (List Int)) (n10 : Int) (at11 : Int) (b0_0 : Int) (b0_1 : Int) (b0_2 : (List Int)) (b1_0 : (List Int)) : Option (((List Int) × Unit) × Unit) :=
  bif (decide ((out9.length : Int) ≤ n10)) then
    bif ((decide (0 ≤ (w64 ((w64 (at11 * n10)) + to3)))) && (decide ((w64 ((w64 (at11 * n10)) + to3)) < (b1_0.length : Int)))) then
      bif ((List.getD b1_0 (w64 ((w64 (at11 * n10)) + to3)).toNat 0) == 4) then
        bif (at11 != to3) then
          some ((([] : List Int), ()), ())
        else
          some ((out9, ()), ())
      else
        Option.bind (
          (g_spec_l01In.m k (List.getD b1_0 (w64 ((w64 (at11 * n10)) + to3)).toNat 0) 0 3).bind fun r2 =>
          bif (!r2.1.1) then
            some true
          else
            (g_spec_l03Has.m k ((b0_0, b0_1), b0_2) (w64 ((w64 (4 * at11)) + (List.getD b1_0 (w64 ((w64 (at11 * n10)) + to3)).toNat 0)))).bind fun r3 =>
            some (!r3.1.1)) fun b4 =>
        bif b4 then
          some ((([] : List Int), ()), ())
        else
          bif (Nat.ble (((List.length out9) + 1) * 8) 140737488355328) then
            (g_spec_NextNode.m k (b0_0, b0_1) at11 (List.getD b1_0 (w64 ((w64 (at11 * n10)) + to3)).toNat 0)).bind fun r5 =>
            rec0 to3 (out9 ++ [(w64 ((w64 (4 * at11)) + (List.getD b1_0 (w64 ((w64 (at11 * n10)) + to3)).toNat 0)))]) n10 r5.1.1 b0_0 b0_1 b0_2 b1_0
          else none
    else none
  else
    some ((([] : List Int), ()), ())
def g_spec_l04Walk.L0 (k : Nat)  (j : Nat) (to3 : Int) (out9 : (List Int)) (n10 : Int) (at11 : Int) (b0_0 : Int) (b0_1 : Int) (b0_2 : (List Int)) (b1_0 : (List Int)) : Option (((List Int) × Unit) × Unit) :=
  iter (fun (rec : g_spec_l04Walk.p0.den → Option (((List Int) × Unit) × Unit)) s => g_spec_l04Walk.F0 k  (fun to3 out9 n10 at11 b0_0 b0_1 b0_2 b1_0 => rec (((to3, ()), (), (), (out9, ()), (n10, ()), (at11, ()), ()), ((b0_0, b0_1, b0_2, ()), (b1_0, ()), ()))) s.1.1.1 s.1.2.2.2.1.1 s.1.2.2.2.2.1.1 s.1.2.2.2.2.2.1.1 s.2.1.1 s.2.1.2.1 s.2.1.2.2.1 s.2.2.1.1) j (((to3, ()), (), (), (out9, ()), (n10, ()), (at11, ()), ()), ((b0_0, b0_1, b0_2, ()), (b1_0, ()), ()))
theorem g_spec_l04Walk.L0_s (k : Nat)  (j : Nat) (to3 : Int) (out9 : (List Int)) (n10 : Int) (at11 : Int) (b0_0 : Int) (b0_1 : Int) (b0_2 : (List Int)) (b1_0 : (List Int)) : g_spec_l04Walk.L0 k  (j + 1) to3 out9 n10 at11 b0_0 b0_1 b0_2 b1_0 = g_spec_l04Walk.F0 k  (g_spec_l04Walk.L0 k  j) to3 out9 n10 at11 b0_0 b0_1 b0_2 b1_0 := rfl
def g_spec_l04Walk.m (k : Nat) (m0_ : (Int × Int) × List Int) (t1_ : List Int) (from2_ : Int) (to3_ : Int) : Option (((List Int) × Unit) × Unit) :=
  (g_spec_NodeCount.m k m0_.1).bind fun r1 =>
  g_spec_l04Walk.L0 k k to3_ ([] : List Int) r1.1.1 from2_ m0_.1.1 m0_.1.2 m0_.2 t1_
def g_spec_l04Walk.e : Entry Try.prog := mkEntry Dl [g_spec_NodeCount.e, g_spec_l01In.e, g_spec_l03Has.e, g_spec_NextNode.e] (fun n => n == 10) [(4, g_spec_l04Walk.p0)] hm 50 Try.f50 (by kernel_rfl) (by kernel_rfl) (by kernel_rfl) [.v (.pair (.pair (.int .i64) (.int .i64)) (.sl (.int .i64))) true, .v (.sl (.int .i64)) true, .v (.int .i64) false, .v (.int .i64) false] [(false, [.o 3 (.int .i64)])] (fun k a => g_spec_l04Walk.m k a.1 a.2.1 a.2.2.1 a.2.2.2.1) (fun k a => by kernel_rfl)
/- 96 loop.example/g00984/spec.TableOk -/
def g_spec_TableOk.p1 : LPat := ⟨54, [(2, false, [.p 0 0]), (3, false, [.p 1 0]), (5, false, [.v (.int .i64)]), (6, false, [.v (.int .i64)]), (7, false, [.v (.int .i64)])], [some [.v (.int .i64), .v (.int .i64), .v (.sl (.int .i64))], some [.v (.sl (.int .i64))]]⟩
def g_spec_TableOk.p0 : LPat := ⟨54, [(2, false, [.p 0 0]), (3, false, [.p 1 0]), (5, false, [.v (.int .i64)]), (6, false, [.v (.int .i64)])], [some [.v (.int .i64), .v (.int .i64), .v (.sl (.int .i64))], some [.v (.sl (.int .i64))]]⟩
def g_spec_TableOk.F1 (k : Nat) (rec0 : Int → Int → Int → Int → (List Int) → (List Int) → Option ((Bool × Unit) × Unit)) (rec1 : Int → Int → Int → Int → Int → (List Int) → (List Int) → Option ((Bool × Unit) × Unit)) (n5' : Int) (a6' : Int) (b7' : Int) (b0_0' : Int) (b0_1' : Int) (b0_2' : (List Int)) (b1_0' : (List Int)) : Option ((Bool × Unit) × Unit) :=
  bif (decide (b7' < n5')) then
    bif (a6' == b7') then
      bif ((decide (0 ≤ (w64 ((w64 (a6' * n5')) + a6')))) && (decide ((w64 ((w64 (a6' * n5')) + a6')) < (b1_0'.length : Int)))) then
        bif ((List.getD b1_0' (w64 ((w64 (a6' * n5')) + a6')).toNat 0) != 4) then
          some ((false, ()), ())
        else
          bif (a6' != b7') then
            (g_spec_l04Walk.m k ((b0_0', b0_1'), b0_2') b1_0' a6' b7').bind fun r3 =>
            bif ((r3.1.1.length : Int) == 0) then
              some ((false, ()), ())
            else
              rec1 n5' a6' (w64 (b7' + 1)) b0_0' b0_1' b0_2' b1_0'
          else
            rec1 n5' a6' (w64 (b7' + 1)) b0_0' b0_1' b0_2' b1_0'
      else none
    else
      bif (a6' != b7') then
        (g_spec_l04Walk.m k ((b0_0', b0_1'), b0_2') b1_0' a6' b7').bind fun r4 =>
        bif ((r4.1.1.length : Int) == 0) then
          some ((false, ()), ())
        else
          rec1 n5' a6' (w64 (b7' + 1)) b0_0' b0_1' b0_2' b1_0'
      else
        rec1 n5' a6' (w64 (b7' + 1)) b0_0' b0_1' b0_2' b1_0'
  else
    rec0 n5' (w64 (a6' + 1)) b0_0' b0_1' b0_2' b1_0'
def g_spec_TableOk.L1 (k : Nat) (rec0 : Int → Int → Int → Int → (List Int) → (List Int) → Option ((Bool × Unit) × Unit)) (j : Nat) (n5' : Int) (a6' : Int) (b7' : Int) (b0_0' : Int) (b0_1' : Int) (b0_2' : (List Int)) (b1_0' : (List Int)) : Option ((Bool × Unit) × Unit) :=
  iter (fun (rec : g_spec_TableOk.p1.den → Option ((Bool × Unit) × Unit)) s => g_spec_TableOk.F1 k rec0 (fun n5' a6' b7' b0_0' b0_1' b0_2' b1_0' => rec (((), (), (n5', ()), (a6', ()), (b7', ()), ()), ((b0_0', b0_1', b0_2', ()), (b1_0', ()), ()))) s.1.2.2.1.1 s.1.2.2.2.1.1 s.1.2.2.2.2.1.1 s.2.1.1 s.2.1.2.1 s.2.1.2.2.1 s.2.2.1.1) j (((), (), (n5', ()), (a6', ()), (b7', ()), ()), ((b0_0', b0_1', b0_2', ()), (b1_0', ()), ()))
def g_spec_TableOk.F0 (k : Nat)  (rec0 : Int → Int → Int → Int → (List Int) → (List Int) → Option ((Bool × Unit) × Unit)) (n5 : Int) (a6 : Int) (b0_0 : Int) (b0_1 : Int) (b0_2 : (List Int)) (b1_0 : (List Int)) : Option ((Bool × Unit) × Unit) :=
  bif (decide (a6 < n5)) then
    g_spec_TableOk.L1 k rec0 k n5 a6 0 b0_0 b0_1 b0_2 b1_0
  else
    some ((true, ()), ())
def g_spec_TableOk.L0 (k : Nat)  (j : Nat) (n5 : Int) (a6 : Int) (b0_0 : Int) (b0_1 : Int) (b0_2 : (List Int)) (b1_0 : (List Int)) : Option ((Bool × Unit) × Unit) :=
  iter (fun (rec : g_spec_TableOk.p0.den → Option ((Bool × Unit) × Unit)) s => g_spec_TableOk.F0 k  (fun n5 a6 b0_0 b0_1 b0_2 b1_0 => rec (((), (), (n5, ()), (a6, ()), ()), ((b0_0, b0_1, b0_2, ()), (b1_0, ()), ()))) s.1.2.2.1.1 s.1.2.2.2.1.1 s.2.1.1 s.2.1.2.1 s.2.1.2.2.1 s.2.2.1.1) j (((), (), (n5, ()), (a6, ()), ()), ((b0_0, b0_1, b0_2, ()), (b1_0, ()), ()))
theorem g_spec_TableOk.L1_s (k : Nat) (rec0 : Int → Int → Int → Int → (List Int) → (List Int) → Option ((Bool × Unit) × Unit)) (j : Nat) (n5' : Int) (a6' : Int) (b7' : Int) (b0_0' : Int) (b0_1' : Int) (b0_2' : (List Int)) (b1_0' : (List Int)) : g_spec_TableOk.L1 k rec0 (j + 1) n5' a6' b7' b0_0' b0_1' b0_2' b1_0' = g_spec_TableOk.F1 k rec0 (g_spec_TableOk.L1 k rec0 j) n5' a6' b7' b0_0' b0_1' b0_2' b1_0' := rfl
theorem g_spec_TableOk.L0_s (k : Nat)  (j : Nat) (n5 : Int) (a6 : Int) (b0_0 : Int) (b0_1 : Int) (b0_2 : (List Int)) (b1_0 : (List Int)) : g_spec_TableOk.L0 k  (j + 1) n5 a6 b0_0 b0_1 b0_2 b1_0 = g_spec_TableOk.F0 k  (g_spec_TableOk.L0 k  j) n5 a6 b0_0 b0_1 b0_2 b1_0 := rfl
def g_spec_TableOk.m (k : Nat) (m0_ : (Int × Int) × List Int) (t1_ : List Int) : Option ((Bool × Unit) × Unit) :=
  (g_spec_l04Sized.m k m0_ t1_).bind fun r1 =>
  bif (!r1.1.1) then
    some ((false, ()), ())
  else
    (g_spec_NodeCount.m k m0_.1).bind fun r2 =>
    g_spec_TableOk.L0 k k r2.1.1 0 m0_.1.1 m0_.1.2 m0_.2 t1_
def g_spec_TableOk.e : Entry Try.prog := mkEntry Dl [g_spec_l04Sized.e, g_spec_NodeCount.e, g_spec_l04Walk.e] (fun n => false) [(8, g_spec_TableOk.p1), (5, g_spec_TableOk.p0)] hm 96 Try.f96 (by kernel_rfl) (by kernel_rfl) (by kernel_rfl) [.v (.pair (.pair (.int .i64) (.int .i64)) (.sl (.int .i64))) true, .v (.sl (.int .i64)) true] [(false, [.v .bool])] (fun k a => g_spec_TableOk.m k a.1 a.2.1) (fun k a => by kernel_rfl)
/- 45 loop.example/g00984/spec.ClassesOk -/
def g_spec_ClassesOk.m (k : Nat) (m0_ : (Int × Int) × List Int) (t1_ : (List Int) × List Int) : Option ((Bool × Unit) × Unit) :=
  Option.bind (
    (g_spec_TableOk.m k m0_ t1_.1).bind fun r1 =>
    bif r1.1.1 then
      (g_spec_TableOk.m k m0_ t1_.2).bind fun r2 =>
      some r2.1.1
    else
      some false) fun b3 =>
  some ((b3, ()), ())
def g_spec_ClassesOk.e : Entry Try.prog := mkEntry Dl [g_spec_TableOk.e] (fun n => n == 1) [] hm 45 Try.f45 (by kernel_rfl) (by kernel_rfl) (by kernel_rfl) [.v (.pair (.pair (.int .i64) (.int .i64)) (.sl (.int .i64))) true, .v (.pair (.sl (.int .i64)) (.sl (.int .i64))) true] [(false, [.v .bool])] (fun k a => g_spec_ClassesOk.m k a.1 a.2.1) (fun k a => by kernel_rfl)
/- 72 loop.example/g00984/spec.l15Flits -/
def g_spec_l15Flits.p0 : LPat := ⟨29, [(1, false, [.v (.sl (.pair (.int .i64) (.pair (.int .i64) (.pair (.int .i64) (.pair .bool .bool)))))]), (2, false, [.p 0 0]), (5, false, [.v (.int .i64)])], [some [.v (.int .i64), .v (.int .i64)]]⟩
def g_spec_l15Flits.F0 (k : Nat)  (rec0 : (List (Int × Int × Int × Bool × Bool)) → Int → Int → Int → Option ((Bool × Unit) × Unit)) (list1 : (List (Int × Int × Int × Bool × Bool))) (i5 : Int) (b0_0 : Int) (b0_1 : Int) : Option ((Bool × Unit) × Unit) :=
  bif (decide (i5 < (list1.length : Int))) then
    bif ((decide (0 ≤ i5)) && (decide (i5 < (list1.length : Int)))) then
      (g_spec_l02Has.m k (b0_0, b0_1) (List.getD list1 i5.toNat ((0), ((0), ((0), (false, false))))).2.1).bind fun r1 =>
      bif (!r1.1.1) then
        some ((false, ()), ())
      else
        bif ((decide (0 ≤ i5)) && (decide (i5 < (list1.length : Int)))) then
          (g_spec_l01In.m k (List.getD list1 i5.toNat ((0), ((0), ((0), (false, false))))).2.2.1 0 1).bind fun r2 =>
          bif (!r2.1.1) then
            some ((false, ()), ())
          else
            rec0 list1 (w64 (i5 + 1)) b0_0 b0_1
        else none
    else none
  else
    some ((true, ()), ())
def g_spec_l15Flits.L0 (k : Nat)  (j : Nat) (list1 : (List (Int × Int × Int × Bool × Bool))) (i5 : Int) (b0_0 : Int) (b0_1 : Int) : Option ((Bool × Unit) × Unit) :=
  iter (fun (rec : g_spec_l15Flits.p0.den → Option ((Bool × Unit) × Unit)) s => g_spec_l15Flits.F0 k  (fun list1 i5 b0_0 b0_1 => rec (((list1, ()), (), (i5, ()), ()), ((b0_0, b0_1, ()), ()))) s.1.1.1 s.1.2.2.1.1 s.2.1.1 s.2.1.2.1) j (((list1, ()), (), (i5, ()), ()), ((b0_0, b0_1, ()), ()))
theorem g_spec_l15Flits.L0_s (k : Nat)  (j : Nat) (list1 : (List (Int × Int × Int × Bool × Bool))) (i5 : Int) (b0_0 : Int) (b0_1 : Int) : g_spec_l15Flits.L0 k  (j + 1) list1 i5 b0_0 b0_1 = g_spec_l15Flits.F0 k  (g_spec_l15Flits.L0 k  j) list1 i5 b0_0 b0_1 := rfl
def g_spec_l15Flits.m (k : Nat) (g0_ : Int × Int) (list1_ : List (Int × Int × Int × Bool × Bool)) : Option ((Bool × Unit) × Unit) :=
  g_spec_l15Flits.L0 k k list1_ 0 g0_.1 g0_.2
def g_spec_l15Flits.e : Entry Try.prog := mkEntry Dl [g_spec_l02Has.e, g_spec_l01In.e] (fun n => false) [(2, g_spec_l15Flits.p0)] hm 72 Try.f72 (by kernel_rfl) (by kernel_rfl) (by kernel_rfl) [.v (.pair (.int .i64) (.int .i64)) true, .v (.sl (.pair (.int .i64) (.pair (.int .i64) (.pair (.int .i64) (.pair .bool .bool))))) false] [(false, [.v .bool])] (fun k a => g_spec_l15Flits.m k a.1 a.2.1) (fun k a => by kernel_rfl)
/- 31 loop.example/g00984/spec.NetOk -/
def g_spec_NetOk.p1 : LPat := ⟨145, [(1, false, [.p 0 0]), (3, false, [.v (.int .i64)]), (4, false, [.v (.int .i64)]), (5, false, [.v (.sl (.pair (.int .i64) (.pair (.int .i64) (.pair (.int .i64) (.pair .bool .bool)))))]), (6, false, [.v (.int .i64)])], [some [.v (.int .i64), .v (.int .i64), .v (.sl (.int .i64)), .v (.sl (.int .i64)), .v (.sl (.int .i64)), .v (.sl (.sl (.pair (.int .i64) (.pair (.int .i64) (.pair (.int .i64) (.pair .bool .bool)))))), .v (.sl (.int .i64)), .v (.sl (.int .i64)), .v (.sl (.sl (.pair (.int .i64) (.pair (.int .i64) (.pair (.int .i64) (.pair .bool .bool)))))), .v (.sl (.sl (.pair (.int .i64) (.pair (.int .i64) (.pair (.int .i64) (.pair .bool .bool)))))), .v (.int .i64)]]⟩
def g_spec_NetOk.p3 : LPat := ⟨145, [(1, false, [.p 0 0]), (3, false, [.v (.int .i64)]), (8, false, [.v (.int .i64)])], [some [.v (.int .i64), .v (.int .i64), .v (.sl (.int .i64)), .v (.sl (.int .i64)), .v (.sl (.int .i64)), .v (.sl (.sl (.pair (.int .i64) (.pair (.int .i64) (.pair (.int .i64) (.pair .bool .bool)))))), .v (.sl (.int .i64)), .v (.sl (.int .i64)), .v (.sl (.sl (.pair (.int .i64) (.pair (.int .i64) (.pair (.int .i64) (.pair .bool .bool)))))), .v (.sl (.sl (.pair (.int .i64) (.pair (.int .i64) (.pair (.int .i64) (.pair .bool .bool)))))), .v (.int .i64)]]⟩
def g_spec_NetOk.p2 : LPat := ⟨145, [(1, false, [.p 0 0]), (3, false, [.v (.int .i64)]), (7, false, [.v (.int .i64)])], [some [.v (.int .i64), .v (.int .i64), .v (.sl (.int .i64)), .v (.sl (.int .i64)), .v (.sl (.int .i64)), .v (.sl (.sl (.pair (.int .i64) (.pair (.int .i64) (.pair (.int .i64) (.pair .bool .bool)))))), .v (.sl (.int .i64)), .v (.sl (.int .i64)), .v (.sl (.sl (.pair (.int .i64) (.pair (.int .i64) (.pair (.int .i64) (.pair .bool .bool)))))), .v (.sl (.sl (.pair (.int .i64) (.pair (.int .i64) (.pair (.int .i64) (.pair .bool .bool)))))), .v (.int .i64)]]⟩
def g_spec_NetOk.p0 : LPat := ⟨145, [(1, false, [.p 0 0]), (3, false, [.v (.int .i64)]), (4, false, [.v (.int .i64)])], [some [.v (.int .i64), .v (.int .i64), .v (.sl (.int .i64)), .v (.sl (.int .i64)), .v (.sl (.int .i64)), .v (.sl (.sl (.pair (.int .i64) (.pair (.int .i64) (.pair (.int .i64) (.pair .bool .bool)))))), .v (.sl (.int .i64)), .v (.sl (.int .i64)), .v (.sl (.sl (.pair (.int .i64) (.pair (.int .i64) (.pair (.int .i64) (.pair .bool .bool)))))), .v (.sl (.sl (.pair (.int .i64) (.pair (.int .i64) (.pair (.int .i64) (.pair .bool .bool)))))), .v (.int .i64)]]⟩
def g_spec_NetOk.F1 (k : Nat) (rec0 : Int → Int → Int → Int → (List Int) → (List Int) → (List Int) → (List (List (Int × Int × Int × Bool × Bool))) → (List Int) → (List Int) → (List (List (Int × Int × Int × Bool × Bool))) → (List (List (Int × Int × Int × Bool × Bool))) → Int → Option ((Bool × Unit) × Unit)) (rec1 : Int → Int → (List (Int × Int × Int × Bool × Bool)) → Int → Int → Int → (List Int) → (List Int) → (List Int) → (List (List (Int × Int × Int × Bool × Bool))) → (List Int) → (List Int) → (List (List (Int × Int × Int × Bool × Bool))) → (List (List (Int × Int × Int × Bool × Bool))) → Int → Option ((Bool × Unit) × Unit)) (k3' : Int) (i4' : Int) (b5' : (List (Int × Int × Int × Bool × Bool))) (j6' : Int) (b0_0' : Int) (b0_1' : Int) (b0_2' : (List Int)) (b0_3' : (List Int)) (b0_4' : (List Int)) (b0_5' : (List (List (Int × Int × Int × Bool × Bool)))) (b0_6' : (List Int)) (b0_7' : (List Int)) (b0_8' : (List (List (Int × Int × Int × Bool × Bool)))) (b0_9' : (List (List (Int × Int × Int × Bool × Bool)))) (b0_10' : Int) : Option ((Bool × Unit) × Unit) :=
  bif (decide (j6' < (b5'.length : Int))) then
    bif ((decide (0 ≤ j6')) && (decide (j6' < (b5'.length : Int)))) then
      bif ((List.getD b5' j6'.toNat ((0), ((0), ((0), (false, false))))).2.2.1 != (Int.tmod i4' 2)) then
        some ((false, ()), ())
      else
        rec1 k3' i4' b5' (w64 (j6' + 1)) b0_0' b0_1' b0_2' b0_3' b0_4' b0_5' b0_6' b0_7' b0_8' b0_9' b0_10'
    else none
  else
    rec0 k3' (w64 (i4' + 1)) b0_0' b0_1' b0_2' b0_3' b0_4' b0_5' b0_6' b0_7' b0_8' b0_9' b0_10'
def g_spec_NetOk.L1 (k : Nat) (rec0 : Int → Int → Int → Int → (List Int) → (List Int) → (List Int) → (List (List (Int × Int × Int × Bool × Bool))) → (List Int) → (List Int) → (List (List (Int × Int × Int × Bool × Bool))) → (List (List (Int × Int × Int × Bool × Bool))) → Int → Option ((Bool × Unit) × Unit)) (j : Nat) (k3' : Int) (i4' : Int) (b5' : (List (Int × Int × Int × Bool × Bool))) (j6' : Int) (b0_0' : Int) (b0_1' : Int) (b0_2' : (List Int)) (b0_3' : (List Int)) (b0_4' : (List Int)) (b0_5' : (List (List (Int × Int × Int × Bool × Bool)))) (b0_6' : (List Int)) (b0_7' : (List Int)) (b0_8' : (List (List (Int × Int × Int × Bool × Bool)))) (b0_9' : (List (List (Int × Int × Int × Bool × Bool)))) (b0_10' : Int) : Option ((Bool × Unit) × Unit) :=
  iter (fun (rec : g_spec_NetOk.p1.den → Option ((Bool × Unit) × Unit)) s => g_spec_NetOk.F1 k rec0 (fun k3' i4' b5' j6' b0_0' b0_1' b0_2' b0_3' b0_4' b0_5' b0_6' b0_7' b0_8' b0_9' b0_10' => rec (((), (k3', ()), (i4', ()), (b5', ()), (j6', ()), ()), ((b0_0', b0_1', b0_2', b0_3', b0_4', b0_5', b0_6', b0_7', b0_8', b0_9', b0_10', ()), ()))) s.1.2.1.1 s.1.2.2.1.1 s.1.2.2.2.1.1 s.1.2.2.2.2.1.1 s.2.1.1 s.2.1.2.1 s.2.1.2.2.1 s.2.1.2.2.2.1 s.2.1.2.2.2.2.1 s.2.1.2.2.2.2.2.1 s.2.1.2.2.2.2.2.2.1 s.2.1.2.2.2.2.2.2.2.1 s.2.1.2.2.2.2.2.2.2.2.1 s.2.1.2.2.2.2.2.2.2.2.2.1 s.2.1.2.2.2.2.2.2.2.2.2.2.1) j (((), (k3', ()), (i4', ()), (b5', ()), (j6', ()), ()), ((b0_0', b0_1', b0_2', b0_3', b0_4', b0_5', b0_6', b0_7', b0_8', b0_9', b0_10', ()), ()))
def g_spec_NetOk.F3 (k : Nat)  (rec3 : Int → Int → Int → Int → (List Int) → (List Int) → (List Int) → (List (List (Int × Int × Int × Bool × Bool))) → (List Int) → (List Int) → (List (List (Int × Int × Int × Bool × Bool))) → (List (List (Int × Int × Int × Bool × Bool))) → Int → Option ((Bool × Unit) × Unit)) (k3 : Int) (i8 : Int) (b0_0 : Int) (b0_1 : Int) (b0_2 : (List Int)) (b0_3 : (List Int)) (b0_4 : (List Int)) (b0_5 : (List (List (Int × Int × Int × Bool × Bool)))) (b0_6 : (List Int)) (b0_7 : (List Int)) (b0_8 : (List (List (Int × Int × Int × Bool × Bool)))) (b0_9 : (List (List (Int × Int × Int × Bool × Bool)))) (b0_10 : Int) : Option ((Bool × Unit) × Unit) :=
  bif (decide (i8 < k3)) then
    bif ((decide (0 ≤ i8)) && (decide (i8 < (b0_8.length : Int)))) then
      bif (decide (((List.getD b0_8 i8.toNat ([] : List (Int × Int × Int × Bool × Bool))).length : Int) > 60)) then
        some ((false, ()), ())
      else
        bif ((decide (0 ≤ i8)) && (decide (i8 < (b0_8.length : Int)))) then
          (g_spec_l15Flits.m k (b0_0, b0_1) (List.getD b0_8 i8.toNat ([] : List (Int × Int × Int × Bool × Bool)))).bind fun r9 =>
          bif (!r9.1.1) then
            some ((false, ()), ())
          else
            rec3 k3 (w64 (i8 + 1)) b0_0 b0_1 b0_2 b0_3 b0_4 b0_5 b0_6 b0_7 b0_8 b0_9 b0_10
        else none
    else none
  else
    some ((true, ()), ())
def g_spec_NetOk.L3 (k : Nat)  (j : Nat) (k3 : Int) (i8 : Int) (b0_0 : Int) (b0_1 : Int) (b0_2 : (List Int)) (b0_3 : (List Int)) (b0_4 : (List Int)) (b0_5 : (List (List (Int × Int × Int × Bool × Bool)))) (b0_6 : (List Int)) (b0_7 : (List Int)) (b0_8 : (List (List (Int × Int × Int × Bool × Bool)))) (b0_9 : (List (List (Int × Int × Int × Bool × Bool)))) (b0_10 : Int) : Option ((Bool × Unit) × Unit) :=
  iter (fun (rec : g_spec_NetOk.p3.den → Option ((Bool × Unit) × Unit)) s => g_spec_NetOk.F3 k  (fun k3 i8 b0_0 b0_1 b0_2 b0_3 b0_4 b0_5 b0_6 b0_7 b0_8 b0_9 b0_10 => rec (((), (k3, ()), (i8, ()), ()), ((b0_0, b0_1, b0_2, b0_3, b0_4, b0_5, b0_6, b0_7, b0_8, b0_9, b0_10, ()), ()))) s.1.2.1.1 s.1.2.2.1.1 s.2.1.1 s.2.1.2.1 s.2.1.2.2.1 s.2.1.2.2.2.1 s.2.1.2.2.2.2.1 s.2.1.2.2.2.2.2.1 s.2.1.2.2.2.2.2.2.1 s.2.1.2.2.2.2.2.2.2.1 s.2.1.2.2.2.2.2.2.2.2.1 s.2.1.2.2.2.2.2.2.2.2.2.1 s.2.1.2.2.2.2.2.2.2.2.2.2.1) j (((), (k3, ()), (i8, ()), ()), ((b0_0, b0_1, b0_2, b0_3, b0_4, b0_5, b0_6, b0_7, b0_8, b0_9, b0_10, ()), ()))
def g_spec_NetOk.F2 (k : Nat)  (rec2 : Int → Int → Int → Int → (List Int) → (List Int) → (List Int) → (List (List (Int × Int × Int × Bool × Bool))) → (List Int) → (List Int) → (List (List (Int × Int × Int × Bool × Bool))) → (List (List (Int × Int × Int × Bool × Bool))) → Int → Option ((Bool × Unit) × Unit)) (k3 : Int) (i7 : Int) (b0_0 : Int) (b0_1 : Int) (b0_2 : (List Int)) (b0_3 : (List Int)) (b0_4 : (List Int)) (b0_5 : (List (List (Int × Int × Int × Bool × Bool)))) (b0_6 : (List Int)) (b0_7 : (List Int)) (b0_8 : (List (List (Int × Int × Int × Bool × Bool)))) (b0_9 : (List (List (Int × Int × Int × Bool × Bool)))) (b0_10 : Int) : Option ((Bool × Unit) × Unit) :=
  bif (decide (i7 < (w64 (5 * k3)))) then
    bif ((decide (0 ≤ i7)) && (decide (i7 < (b0_7.length : Int)))) then
      (g_spec_l01In.m k (List.getD b0_7 i7.toNat 0) 0 9).bind fun r8 =>
      bif (!r8.1.1) then
        some ((false, ()), ())
      else
        rec2 k3 (w64 (i7 + 1)) b0_0 b0_1 b0_2 b0_3 b0_4 b0_5 b0_6 b0_7 b0_8 b0_9 b0_10
    else none
  else
    g_spec_NetOk.L3 k k k3 0 b0_0 b0_1 b0_2 b0_3 b0_4 b0_5 b0_6 b0_7 b0_8 b0_9 b0_10
def g_spec_NetOk.L2 (k : Nat)  (j : Nat) (k3 : Int) (i7 : Int) (b0_0 : Int) (b0_1 : Int) (b0_2 : (List Int)) (b0_3 : (List Int)) (b0_4 : (List Int)) (b0_5 : (List (List (Int × Int × Int × Bool × Bool)))) (b0_6 : (List Int)) (b0_7 : (List Int)) (b0_8 : (List (List (Int × Int × Int × Bool × Bool)))) (b0_9 : (List (List (Int × Int × Int × Bool × Bool)))) (b0_10 : Int) : Option ((Bool × Unit) × Unit) :=
  iter (fun (rec : g_spec_NetOk.p2.den → Option ((Bool × Unit) × Unit)) s => g_spec_NetOk.F2 k  (fun k3 i7 b0_0 b0_1 b0_2 b0_3 b0_4 b0_5 b0_6 b0_7 b0_8 b0_9 b0_10 => rec (((), (k3, ()), (i7, ()), ()), ((b0_0, b0_1, b0_2, b0_3, b0_4, b0_5, b0_6, b0_7, b0_8, b0_9, b0_10, ()), ()))) s.1.2.1.1 s.1.2.2.1.1 s.2.1.1 s.2.1.2.1 s.2.1.2.2.1 s.2.1.2.2.2.1 s.2.1.2.2.2.2.1 s.2.1.2.2.2.2.2.1 s.2.1.2.2.2.2.2.2.1 s.2.1.2.2.2.2.2.2.2.1 s.2.1.2.2.2.2.2.2.2.2.1 s.2.1.2.2.2.2.2.2.2.2.2.1 s.2.1.2.2.2.2.2.2.2.2.2.2.1) j (((), (k3, ()), (i7, ()), ()), ((b0_0, b0_1, b0_2, b0_3, b0_4, b0_5, b0_6, b0_7, b0_8, b0_9, b0_10, ()), ()))
def g_spec_NetOk.F0 (k : Nat)  (rec0 : Int → Int → Int → Int → (List Int) → (List Int) → (List Int) → (List (List (Int × Int × Int × Bool × Bool))) → (List Int) → (List Int) → (List (List (Int × Int × Int × Bool × Bool))) → (List (List (Int × Int × Int × Bool × Bool))) → Int → Option ((Bool × Unit) × Unit)) (k3 : Int) (i4 : Int) (b0_0 : Int) (b0_1 : Int) (b0_2 : (List Int)) (b0_3 : (List Int)) (b0_4 : (List Int)) (b0_5 : (List (List (Int × Int × Int × Bool × Bool)))) (b0_6 : (List Int)) (b0_7 : (List Int)) (b0_8 : (List (List (Int × Int × Int × Bool × Bool)))) (b0_9 : (List (List (Int × Int × Int × Bool × Bool)))) (b0_10 : Int) : Option ((Bool × Unit) × Unit) :=
  bif (decide (i4 < (w64 (10 * k3)))) then
    bif ((decide (0 ≤ i4)) && (decide (i4 < (b0_5.length : Int)))) then
      Option.bind (
        bif (decide (((List.getD b0_5 i4.toNat ([] : List (Int × Int × Int × Bool × Bool))).length : Int) > 3)) then
          some true
        else
          (g_spec_l15Flits.m k (b0_0, b0_1) (List.getD b0_5 i4.toNat ([] : List (Int × Int × Int × Bool × Bool)))).bind fun r5 =>
          bif (!r5.1.1) then
            some true
          else
            bif ((decide (0 ≤ i4)) && (decide (i4 < (b0_6.length : Int)))) then
              (g_spec_l01In.m k (List.getD b0_6 i4.toNat 0) (-1) 4).bind fun r6 =>
              some (!r6.1.1)
            else none) fun b7 =>
      bif b7 then
        some ((false, ()), ())
      else
        g_spec_NetOk.L1 k rec0 k k3 i4 (List.getD b0_5 i4.toNat ([] : List (Int × Int × Int × Bool × Bool))) 0 b0_0 b0_1 b0_2 b0_3 b0_4 b0_5 b0_6 b0_7 b0_8 b0_9 b0_10
    else none
  else
    g_spec_NetOk.L2 k k k3 0 b0_0 b0_1 b0_2 b0_3 b0_4 b0_5 b0_6 b0_7 b0_8 b0_9 b0_10
def g_spec_NetOk.L0 (k : Nat)  (j : Nat) (k3 : Int) (i4 : Int) (b0_0 : Int) (b0_1 : Int) (b0_2 : (List Int)) (b0_3 : (List Int)) (b0_4 : (List Int)) (b0_5 : (List (List (Int × Int × Int × Bool × Bool)))) (b0_6 : (List Int)) (b0_7 : (List Int)) (b0_8 : (List (List (Int × Int × Int × Bool × Bool)))) (b0_9 : (List (List (Int × Int × Int × Bool × Bool)))) (b0_10 : Int) : Option ((Bool × Unit) × Unit) :=
  iter (fun (rec : g_spec_NetOk.p0.den → Option ((Bool × Unit) × Unit)) s => g_spec_NetOk.F0 k  (fun k3 i4 b0_0 b0_1 b0_2 b0_3 b0_4 b0_5 b0_6 b0_7 b0_8 b0_9 b0_10 => rec (((), (k3, ()), (i4, ()), ()), ((b0_0, b0_1, b0_2, b0_3, b0_4, b0_5, b0_6, b0_7, b0_8, b0_9, b0_10, ()), ()))) s.1.2.1.1 s.1.2.2.1.1 s.2.1.1 s.2.1.2.1 s.2.1.2.2.1 s.2.1.2.2.2.1 s.2.1.2.2.2.2.1 s.2.1.2.2.2.2.2.1 s.2.1.2.2.2.2.2.2.1 s.2.1.2.2.2.2.2.2.2.1 s.2.1.2.2.2.2.2.2.2.2.1 s.2.1.2.2.2.2.2.2.2.2.2.1 s.2.1.2.2.2.2.2.2.2.2.2.2.1) j (((), (k3, ()), (i4, ()), ()), ((b0_0, b0_1, b0_2, b0_3, b0_4, b0_5, b0_6, b0_7, b0_8, b0_9, b0_10, ()), ()))
theorem g_spec_NetOk.L1_s (k : Nat) (rec0 : Int → Int → Int → Int → (List Int) → (List Int) → (List Int) → (List (List (Int × Int × Int × Bool × Bool))) → (List Int) → (List Int) → (List (List (Int × Int × Int × Bool × Bool))) → (List (List (Int × Int × Int × Bool × Bool))) → Int → Option ((Bool × Unit) × Unit)) (j : Nat) (k3' : Int) (i4' : Int) (b5' : (List (Int × Int × Int × Bool × Bool))) (j6' : Int) (b0_0' : Int) (b0_1' : Int) (b0_2' : (List Int)) (b0_3' : (List Int)) (b0_4' : (List Int)) (b0_5' : (List (List (Int × Int × Int × Bool × Bool)))) (b0_6' : (List Int)) (b0_7' : (List Int)) (b0_8' : (List (List (Int × Int × Int × Bool × Bool)))) (b0_9' : (List (List (Int × Int × Int × Bool × Bool)))) (b0_10' : Int) : g_spec_NetOk.L1 k rec0 (j + 1) k3' i4' b5' j6' b0_0' b0_1' b0_2' b0_3' b0_4' b0_5' b0_6' b0_7' b0_8' b0_9' b0_10' = g_spec_NetOk.F1 k rec0 (g_spec_NetOk.L1 k rec0 j) k3' i4' b5' j6' b0_0' b0_1' b0_2' b0_3' b0_4' b0_5' b0_6' b0_7' b0_8' b0_9' b0_10' := rfl
theorem g_spec_NetOk.L3_s (k : Nat)  (j : Nat) (k3 : Int) (i8 : Int) (b0_0 : Int) (b0_1 : Int) (b0_2 : (List Int)) (b0_3 : (List Int)) (b0_4 : (List Int)) (b0_5 : (List (List (Int × Int × Int × Bool × Bool)))) (b0_6 : (List Int)) (b0_7 : (List Int)) (b0_8 : (List (List (Int × Int × Int × Bool × Bool)))) (b0_9 : (List (List (Int × Int × Int × Bool × Bool)))) (b0_10 : Int) : g_spec_NetOk.L3 k  (j + 1) k3 i8 b0_0 b0_1 b0_2 b0_3 b0_4 b0_5 b0_6 b0_7 b0_8 b0_9 b0_10 = g_spec_NetOk.F3 k  (g_spec_NetOk.L3 k  j) k3 i8 b0_0 b0_1 b0_2 b0_3 b0_4 b0_5 b0_6 b0_7 b0_8 b0_9 b0_10 := rfl
theorem g_spec_NetOk.L2_s (k : Nat)  (j : Nat) (k3 : Int) (i7 : Int) (b0_0 : Int) (b0_1 : Int) (b0_2 : (List Int)) (b0_3 : (List Int)) (b0_4 : (List Int)) (b0_5 : (List (List (Int × Int × Int × Bool × Bool)))) (b0_6 : (List Int)) (b0_7 : (List Int)) (b0_8 : (List (List (Int × Int × Int × Bool × Bool)))) (b0_9 : (List (List (Int × Int × Int × Bool × Bool)))) (b0_10 : Int) : g_spec_NetOk.L2 k  (j + 1) k3 i7 b0_0 b0_1 b0_2 b0_3 b0_4 b0_5 b0_6 b0_7 b0_8 b0_9 b0_10 = g_spec_NetOk.F2 k  (g_spec_NetOk.L2 k  j) k3 i7 b0_0 b0_1 b0_2 b0_3 b0_4 b0_5 b0_6 b0_7 b0_8 b0_9 b0_10 := rfl
theorem g_spec_NetOk.L0_s (k : Nat)  (j : Nat) (k3 : Int) (i4 : Int) (b0_0 : Int) (b0_1 : Int) (b0_2 : (List Int)) (b0_3 : (List Int)) (b0_4 : (List Int)) (b0_5 : (List (List (Int × Int × Int × Bool × Bool)))) (b0_6 : (List Int)) (b0_7 : (List Int)) (b0_8 : (List (List (Int × Int × Int × Bool × Bool)))) (b0_9 : (List (List (Int × Int × Int × Bool × Bool)))) (b0_10 : Int) : g_spec_NetOk.L0 k  (j + 1) k3 i4 b0_0 b0_1 b0_2 b0_3 b0_4 b0_5 b0_6 b0_7 b0_8 b0_9 b0_10 = g_spec_NetOk.F0 k  (g_spec_NetOk.L0 k  j) k3 i4 b0_0 b0_1 b0_2 b0_3 b0_4 b0_5 b0_6 b0_7 b0_8 b0_9 b0_10 := rfl
def g_spec_NetOk.m (k : Nat) (n0_ : ((Int × Int) × List Int) × ((List Int) × List Int) × (List (List (Int × Int × Int × Bool × Bool))) × (List Int) × (List Int) × (List (List (Int × Int × Int × Bool × Bool))) × (List (List (Int × Int × Int × Bool × Bool))) × Int) : Option ((Bool × Unit) × Unit) :=
  (g_spec_NodeCount.m k n0_.1.1).bind fun r1 =>
  Option.bind (
    (g_spec_ClassesOk.m k n0_.1 n0_.2.1).bind fun r2 =>
    bif (!r2.1.1) then
      some true
    else
      bif ((n0_.2.2.1.length : Int) != (w64 (10 * r1.1.1))) then
        some true
      else
        bif ((n0_.2.2.2.1.length : Int) != (w64 (10 * r1.1.1))) then
          some true
        else
          bif ((n0_.2.2.2.2.1.length : Int) != (w64 (5 * r1.1.1))) then
            some true
          else
            bif ((n0_.2.2.2.2.2.1.length : Int) != r1.1.1) then
              some true
            else
              bif ((n0_.2.2.2.2.2.2.1.length : Int) != r1.1.1) then
                some true
              else
                (g_spec_l01In.m k n0_.2.2.2.2.2.2.2 0 1000000).bind fun r3 =>
                some (!r3.1.1)) fun b4 =>
  bif b4 then
    some ((false, ()), ())
  else
    g_spec_NetOk.L0 k k r1.1.1 0 n0_.1.1.1 n0_.1.1.2 n0_.1.2 n0_.2.1.1 n0_.2.1.2 n0_.2.2.1 n0_.2.2.2.1 n0_.2.2.2.2.1 n0_.2.2.2.2.2.1 n0_.2.2.2.2.2.2.1 n0_.2.2.2.2.2.2.2
def g_spec_NetOk.e : Entry Try.prog := mkEntry Dl [g_spec_NodeCount.e, g_spec_ClassesOk.e, g_spec_l01In.e, g_spec_l15Flits.e] (fun n => n == 2 || n == 8) [(11, g_spec_NetOk.p1), (21, g_spec_NetOk.p3), (16, g_spec_NetOk.p2), (5, g_spec_NetOk.p0)] hm 31 Try.f31 (by kernel_rfl) (by kernel_rfl) (by kernel_rfl) [.v (.pair (.pair (.pair (.int .i64) (.int .i64)) (.sl (.int .i64))) (.pair (.pair (.sl (.int .i64)) (.sl (.int .i64))) (.pair (.sl (.sl (.pair (.int .i64) (.pair (.int .i64) (.pair (.int .i64) (.pair .bool .bool)))))) (.pair (.sl (.int .i64)) (.pair (.sl (.int .i64)) (.pair (.sl (.sl (.pair (.int .i64) (.pair (.int .i64) (.pair (.int .i64) (.pair .bool .bool)))))) (.pair (.sl (.sl (.pair (.int .i64) (.pair (.int .i64) (.pair (.int .i64) (.pair .bool .bool)))))) (.int .i64)))))))) true] [(false, [.v .bool])] (fun k a => g_spec_NetOk.m k a.1) (fun k a => by kernel_rfl)
/- 32 loop.example/g00984/spec.PacketOk -/
def g_spec_PacketOk.m (k : Nat) (g0_ : Int × Int) (p1_ : Int × Int × Int × Int × Int) : Option ((Bool × Unit) × Unit) :=
  Option.bind (
    (g_spec_l01In.m k p1_.1 1 9999).bind fun r1 =>
    bif r1.1.1 then
      (g_spec_l02Has.m k g0_ p1_.2.1).bind fun r2 =>
      bif r2.1.1 then
        (g_spec_l02Has.m k g0_ p1_.2.2.1).bind fun r3 =>
        bif r3.1.1 then
          bif (p1_.2.1 != p1_.2.2.1) then
            (g_spec_l01In.m k p1_.2.2.2.1 0 1).bind fun r4 =>
            bif r4.1.1 then
              (g_spec_l01In.m k p1_.2.2.2.2 1 5).bind fun r5 =>
              some r5.1.1
            else
              some false
          else
            some false
        else
          some false
      else
        some false
    else
      some false) fun b6 =>
  some ((b6, ()), ())
def g_spec_PacketOk.e : Entry Try.prog := mkEntry Dl [g_spec_l01In.e, g_spec_l02Has.e] (fun n => n == 1) [] hm 32 Try.f32 (by kernel_rfl) (by kernel_rfl) (by kernel_rfl) [.v (.pair (.int .i64) (.int .i64)) true, .v (.pair (.int .i64) (.pair (.int .i64) (.pair (.int .i64) (.pair (.int .i64) (.int .i64))))) true] [(false, [.v .bool])] (fun k a => g_spec_PacketOk.m k a.1 a.2.1) (fun k a => by kernel_rfl)
/- 118 loop.example/g00984/spec.ClassOnly -/
def g_spec_ClassOnly.p0 : LPat := ⟨29, [(0, false, [.v (.sl (.pair (.int .i64) (.pair (.int .i64) (.pair (.int .i64) (.pair .bool .bool)))))]), (1, false, [.v (.int .i64)]), (5, false, [.o 110 (.pair (.int .i64) (.pair (.int .i64) (.pair (.int .i64) (.pair .bool .bool))))]), (6, false, [.v (.int .i64)])], []⟩
def g_spec_ClassOnly.F0 (k : Nat)  (rec0 : (List (Int × Int × Int × Bool × Bool)) → Int → (List (Int × Int × Int × Bool × Bool)) → Int → Option (((List (Int × Int × Int × Bool × Bool)) × Unit) × Unit)) (list0 : (List (Int × Int × Int × Bool × Bool))) (class1 : Int) (out5 : (List (Int × Int × Int × Bool × Bool))) (i6 : Int) : Option (((List (Int × Int × Int × Bool × Bool)) × Unit) × Unit) :=
  bif (decide (i6 < (list0.length : Int))) then
    bif ((decide (0 ≤ i6)) && (decide (i6 < (list0.length : Int)))) then
      bif ((List.getD list0 i6.toNat ((0), ((0), ((0), (false, false))))).2.2.1 == class1) then
        bif ((decide (0 ≤ i6)) && (decide (i6 < (list0.length : Int)))) then
          bif (Nat.ble (((List.length out5) + 1) * 32) 140737488355328) then
            rec0 list0 class1 (out5 ++ [(List.getD list0 i6.toNat ((0), ((0), ((0), (false, false)))))]) (w64 (i6 + 1))
          else none
        else none
      else
        rec0 list0 class1 out5 (w64 (i6 + 1))
    else none
  else
    some ((out5, ()), ())
def g_spec_ClassOnly.L0 (k : Nat)  (j : Nat) (list0 : (List (Int × Int × Int × Bool × Bool))) (class1 : Int) (out5 : (List (Int × Int × Int × Bool × Bool))) (i6 : Int) : Option (((List (Int × Int × Int × Bool × Bool)) × Unit) × Unit) :=
  iter (fun (rec : g_spec_ClassOnly.p0.den → Option (((List (Int × Int × Int × Bool × Bool)) × Unit) × Unit)) s => g_spec_ClassOnly.F0 k  (fun list0 class1 out5 i6 => rec (((list0, ()), (class1, ()), (out5, ()), (i6, ()), ()), ())) s.1.1.1 s.1.2.1.1 s.1.2.2.1.1 s.1.2.2.2.1.1) j (((list0, ()), (class1, ()), (out5, ()), (i6, ()), ()), ())
theorem g_spec_ClassOnly.L0_s (k : Nat)  (j : Nat) (list0 : (List (Int × Int × Int × Bool × Bool))) (class1 : Int) (out5 : (List (Int × Int × Int × Bool × Bool))) (i6 : Int) : g_spec_ClassOnly.L0 k  (j + 1) list0 class1 out5 i6 = g_spec_ClassOnly.F0 k  (g_spec_ClassOnly.L0 k  j) list0 class1 out5 i6 := rfl
def g_spec_ClassOnly.m (k : Nat) (list0_ : List (Int × Int × Int × Bool × Bool)) (class1_ : Int) : Option (((List (Int × Int × Int × Bool × Bool)) × Unit) × Unit) :=
  g_spec_ClassOnly.L0 k k list0_ class1_ ([] : List (Int × Int × Int × Bool × Bool)) 0
def g_spec_ClassOnly.e : Entry Try.prog := mkEntry Dl [] (fun n => false) [(3, g_spec_ClassOnly.p0)] hm 118 Try.f118 (by kernel_rfl) (by kernel_rfl) (by kernel_rfl) [.v (.sl (.pair (.int .i64) (.pair (.int .i64) (.pair (.int .i64) (.pair .bool .bool))))) false, .v (.int .i64) false] [(false, [.o 110 (.pair (.int .i64) (.pair (.int .i64) (.pair (.int .i64) (.pair .bool .bool))))])] (fun k a => g_spec_ClassOnly.m k a.1 a.2.1) (fun k a => by kernel_rfl)
/- 118 loop.example/g00984/spec.ClassOnly -/
def g_spec_ClassOnly_1.p0 : LPat := ⟨29, [(0, false, [.v (.sl (.pair (.int .i64) (.pair (.int .i64) (.pair (.int .i64) (.pair .bool .bool)))))]), (1, false, [.v (.int .i64)]), (5, false, [.o 110 (.pair (.int .i64) (.pair (.int .i64) (.pair (.int .i64) (.pair .bool .bool))))]), (6, false, [.v (.int .i64)])], []⟩
def g_spec_ClassOnly_1.F0 (k : Nat)  (rec0 : (List (Int × Int × Int × Bool × Bool)) → Int → (List (Int × Int × Int × Bool × Bool)) → Int → Option (((List (Int × Int × Int × Bool × Bool)) × Unit) × Unit)) (list0 : (List (Int × Int × Int × Bool × Bool))) (class1 : Int) (out5 : (List (Int × Int × Int × Bool × Bool))) (i6 : Int) : Option (((List (Int × Int × Int × Bool × Bool)) × Unit) × Unit) :=
  bif (decide (i6 < (list0.length : Int))) then
    bif ((decide (0 ≤ i6)) && (decide (i6 < (list0.length : Int)))) then
      bif ((List.getD list0 i6.toNat ((0), ((0), ((0), (false, false))))).2.2.1 == class1) then
        bif ((decide (0 ≤ i6)) && (decide (i6 < (list0.length : Int)))) then
          bif (Nat.ble (((List.length out5) + 1) * 32) 140737488355328) then
            rec0 list0 class1 (out5 ++ [(List.getD list0 i6.toNat ((0), ((0), ((0), (false, false)))))]) (w64 (i6 + 1))
          else none
        else none
      else
        rec0 list0 class1 out5 (w64 (i6 + 1))
    else none
  else
    some ((out5, ()), ())
def g_spec_ClassOnly_1.L0 (k : Nat)  (j : Nat) (list0 : (List (Int × Int × Int × Bool × Bool))) (class1 : Int) (out5 : (List (Int × Int × Int × Bool × Bool))) (i6 : Int) : Option (((List (Int × Int × Int × Bool × Bool)) × Unit) × Unit) :=
  iter (fun (rec : g_spec_ClassOnly_1.p0.den → Option (((List (Int × Int × Int × Bool × Bool)) × Unit) × Unit)) s => g_spec_ClassOnly_1.F0 k  (fun list0 class1 out5 i6 => rec (((list0, ()), (class1, ()), (out5, ()), (i6, ()), ()), ())) s.1.1.1 s.1.2.1.1 s.1.2.2.1.1 s.1.2.2.2.1.1) j (((list0, ()), (class1, ()), (out5, ()), (i6, ()), ()), ())
theorem g_spec_ClassOnly_1.L0_s (k : Nat)  (j : Nat) (list0 : (List (Int × Int × Int × Bool × Bool))) (class1 : Int) (out5 : (List (Int × Int × Int × Bool × Bool))) (i6 : Int) : g_spec_ClassOnly_1.L0 k  (j + 1) list0 class1 out5 i6 = g_spec_ClassOnly_1.F0 k  (g_spec_ClassOnly_1.L0 k  j) list0 class1 out5 i6 := rfl
def g_spec_ClassOnly_1.m (k : Nat) (list0_ : List (Int × Int × Int × Bool × Bool)) (class1_ : Int) : Option (((List (Int × Int × Int × Bool × Bool)) × Unit) × Unit) :=
  g_spec_ClassOnly_1.L0 k k list0_ class1_ ([] : List (Int × Int × Int × Bool × Bool)) 0
def g_spec_ClassOnly_1.e : Entry Try.prog := mkEntry Dl [] (fun n => false) [(3, g_spec_ClassOnly_1.p0)] hm 118 Try.f118 (by kernel_rfl) (by kernel_rfl) (by kernel_rfl) [.v (.sl (.pair (.int .i64) (.pair (.int .i64) (.pair (.int .i64) (.pair .bool .bool))))) false, .v (.int .i64) false] [(false, [.v (.sl (.pair (.int .i64) (.pair (.int .i64) (.pair (.int .i64) (.pair .bool .bool)))))])] (fun k a => g_spec_ClassOnly_1.m k a.1 a.2.1) (fun k a => by kernel_rfl)
/- 140 loop.example/g00984/spec.IsWhole -/
def g_spec_IsWhole.p0 : LPat := ⟨60, [(0, false, [.v (.sl (.pair (.int .i64) (.pair (.int .i64) (.pair (.int .i64) (.pair .bool .bool)))))]), (3, false, [.v (.int .i64)])], []⟩
def g_spec_IsWhole.F0 (k : Nat)  (rec0 : (List (Int × Int × Int × Bool × Bool)) → Int → Option ((Bool × Unit) × Unit)) (list0 : (List (Int × Int × Int × Bool × Bool))) (i3 : Int) : Option ((Bool × Unit) × Unit) :=
  bif (decide (i3 < (list0.length : Int))) then
    bif ((decide (0 ≤ i3)) && (decide (i3 < (list0.length : Int)))) then
      bif ((decide (0 ≤ 0)) && (decide (0 < (list0.length : Int)))) then
        bif ((List.getD list0 i3.toNat ((0), ((0), ((0), (false, false))))).1 != (List.getD list0 0 ((0), ((0), ((0), (false, false))))).1) then
          some ((false, ()), ())
        else
          bif ((decide (0 ≤ 0)) && (decide (0 < (list0.length : Int)))) then
            bif ((List.getD list0 i3.toNat ((0), ((0), ((0), (false, false))))).2.1 != (List.getD list0 0 ((0), ((0), ((0), (false, false))))).2.1) then
              some ((false, ()), ())
            else
              bif ((decide (0 ≤ 0)) && (decide (0 < (list0.length : Int)))) then
                bif ((List.getD list0 i3.toNat ((0), ((0), ((0), (false, false))))).2.2.1 != (List.getD list0 0 ((0), ((0), ((0), (false, false))))).2.2.1) then
                  some ((false, ()), ())
                else
                  bif (!((List.getD list0 i3.toNat ((0), ((0), ((0), (false, false))))).2.2.2.1 == (i3 == 0))) then
                    some ((false, ()), ())
                  else
                    bif (!((List.getD list0 i3.toNat ((0), ((0), ((0), (false, false))))).2.2.2.2 == (i3 == (w64 ((list0.length : Int) - 1))))) then
                      some ((false, ()), ())
                    else
                      rec0 list0 (w64 (i3 + 1))
              else none
          else none
      else none
    else none
  else
    some (((decide ((list0.length : Int) > 0)), ()), ())
def g_spec_IsWhole.L0 (k : Nat)  (j : Nat) (list0 : (List (Int × Int × Int × Bool × Bool))) (i3 : Int) : Option ((Bool × Unit) × Unit) :=
  iter (fun (rec : g_spec_IsWhole.p0.den → Option ((Bool × Unit) × Unit)) s => g_spec_IsWhole.F0 k  (fun list0 i3 => rec (((list0, ()), (i3, ()), ()), ())) s.1.1.1 s.1.2.1.1) j (((list0, ()), (i3, ()), ()), ())
theorem g_spec_IsWhole.L0_s (k : Nat)  (j : Nat) (list0 : (List (Int × Int × Int × Bool × Bool))) (i3 : Int) : g_spec_IsWhole.L0 k  (j + 1) list0 i3 = g_spec_IsWhole.F0 k  (g_spec_IsWhole.L0 k  j) list0 i3 := rfl
def g_spec_IsWhole.m (k : Nat) (list0_ : List (Int × Int × Int × Bool × Bool)) : Option ((Bool × Unit) × Unit) :=
  g_spec_IsWhole.L0 k k list0_ 0
def g_spec_IsWhole.e : Entry Try.prog := mkEntry Dl [] (fun n => false) [(2, g_spec_IsWhole.p0)] hm 140 Try.f140 (by kernel_rfl) (by kernel_rfl) (by kernel_rfl) [.v (.sl (.pair (.int .i64) (.pair (.int .i64) (.pair (.int .i64) (.pair .bool .bool))))) false] [(false, [.v .bool])] (fun k a => g_spec_IsWhole.m k a.1) (fun k a => by kernel_rfl)
/- 119 loop.example/g00984/spec.WholePackets -/
def g_spec_WholePackets.p0 : LPat := ⟨36, [(0, false, [.v (.sl (.pair (.int .i64) (.pair (.int .i64) (.pair (.int .i64) (.pair .bool .bool)))))]), (4, false, [.o 3 (.int .i64)]), (5, false, [.v (.int .i64)]), (6, false, [.v (.int .i64)])], []⟩
def g_spec_WholePackets.F0 (k : Nat)  (rec0 : (List (Int × Int × Int × Bool × Bool)) → (List Int) → Int → Int → Option (((List Int) × Unit) × (Bool × Unit) × Unit)) (list0 : (List (Int × Int × Int × Bool × Bool))) (out4 : (List Int)) (begin5 : Int) (i6 : Int) : Option (((List Int) × Unit) × (Bool × Unit) × Unit) :=
  bif (decide (i6 < (list0.length : Int))) then
    bif ((decide (0 ≤ begin5)) && ((decide (begin5 ≤ (w64 (i6 + 1)))) && (decide ((w64 (i6 + 1)) ≤ (list0.length : Int))))) then
      (g_spec_IsWhole.m k (List.drop begin5.toNat (List.take (w64 (i6 + 1)).toNat list0))).bind fun r1 =>
      bif r1.1.1 then
        bif ((decide (0 ≤ i6)) && (decide (i6 < (list0.length : Int)))) then
          bif (Nat.ble (((List.length out4) + 1) * 8) 140737488355328) then
            rec0 list0 (out4 ++ [(List.getD list0 i6.toNat ((0), ((0), ((0), (false, false))))).1]) (w64 (i6 + 1)) (w64 (i6 + 1))
          else none
        else none
      else
        rec0 list0 out4 begin5 (w64 (i6 + 1))
    else none
  else
    bif (decide (begin5 < (list0.length : Int))) then
      some ((([] : List Int), ()), ((false, ()), ()))
    else
      some ((out4, ()), ((true, ()), ()))
def g_spec_WholePackets.L0 (k : Nat)  (j : Nat) (list0 : (List (Int × Int × Int × Bool × Bool))) (out4 : (List Int)) (begin5 : Int) (i6 : Int) : Option (((List Int) × Unit) × (Bool × Unit) × Unit) :=
  iter (fun (rec : g_spec_WholePackets.p0.den → Option (((List Int) × Unit) × (Bool × Unit) × Unit)) s => g_spec_WholePackets.F0 k  (fun list0 out4 begin5 i6 => rec (((list0, ()), (out4, ()), (begin5, ()), (i6, ()), ()), ())) s.1.1.1 s.1.2.1.1 s.1.2.2.1.1 s.1.2.2.2.1.1) j (((list0, ()), (out4, ()), (begin5, ()), (i6, ()), ()), ())
theorem g_spec_WholePackets.L0_s (k : Nat)  (j : Nat) (list0 : (List (Int × Int × Int × Bool × Bool))) (out4 : (List Int)) (begin5 : Int) (i6 : Int) : g_spec_WholePackets.L0 k  (j + 1) list0 out4 begin5 i6 = g_spec_WholePackets.F0 k  (g_spec_WholePackets.L0 k  j) list0 out4 begin5 i6 := rfl
def g_spec_WholePackets.m (k : Nat) (list0_ : List (Int × Int × Int × Bool × Bool)) : Option (((List Int) × Unit) × (Bool × Unit) × Unit) :=
  g_spec_WholePackets.L0 k k list0_ ([] : List Int) 0 0
def g_spec_WholePackets.e : Entry Try.prog := mkEntry Dl [g_spec_IsWhole.e] (fun n => false) [(4, g_spec_WholePackets.p0)] hm 119 Try.f119 (by kernel_rfl) (by kernel_rfl) (by kernel_rfl) [.v (.sl (.pair (.int .i64) (.pair (.int .i64) (.pair (.int .i64) (.pair .bool .bool))))) false] [(false, [.o 3 (.int .i64)]), (false, [.v .bool])] (fun k a => g_spec_WholePackets.m k a.1) (fun k a => by kernel_rfl)
/- 74 loop.example/g00984/spec.l22At -/
def g_spec_l22At.p0 : LPat := ⟨38, [(8, false, [.v (.sl (.pair (.int .i64) (.pair (.int .i64) (.pair (.int .i64) (.pair .bool .bool)))))])], []⟩
def g_spec_l22At.F0 (k : Nat)  (rec0 : (List (Int × Int × Int × Bool × Bool)) → Option (((List Int) × Unit) × (Bool × Unit) × Unit)) (list8 : (List (Int × Int × Int × Bool × Bool))) : Option (((List Int) × Unit) × (Bool × Unit) × Unit) :=
  Option.bind (
    bif (decide ((list8.length : Int) > 0)) then
      bif ((decide (0 ≤ (w64 ((list8.length : Int) - 1)))) && (decide ((w64 ((list8.length : Int) - 1)) < (list8.length : Int)))) then
        some (!(List.getD list8 (w64 ((list8.length : Int) - 1)).toNat ((0), ((0), ((0), (false, false))))).2.2.2.2)
      else none
    else
      some false) fun b2 =>
  bif b2 then
    bif ((decide (0 ≤ 0)) && ((decide (0 ≤ (w64 ((list8.length : Int) - 1)))) && (decide ((w64 ((list8.length : Int) - 1)) ≤ (list8.length : Int))))) then
      rec0 (List.drop 0 (List.take (w64 ((list8.length : Int) - 1)).toNat list8))
    else none
  else
    (g_spec_WholePackets.m k list8).bind fun r3 =>
    some ((r3.1.1, ()), ((r3.2.1.1, ()), ()))
def g_spec_l22At.L0 (k : Nat)  (j : Nat) (list8 : (List (Int × Int × Int × Bool × Bool))) : Option (((List Int) × Unit) × (Bool × Unit) × Unit) :=
  iter (fun (rec : g_spec_l22At.p0.den → Option (((List Int) × Unit) × (Bool × Unit) × Unit)) s => g_spec_l22At.F0 k  (fun list8 => rec (((list8, ()), ()), ())) s.1.1.1) j (((list8, ()), ()), ())
theorem g_spec_l22At.L0_s (k : Nat)  (j : Nat) (list8 : (List (Int × Int × Int × Bool × Bool))) : g_spec_l22At.L0 k  (j + 1) list8 = g_spec_l22At.F0 k  (g_spec_l22At.L0 k  j) list8 := rfl
def g_spec_l22At.m (k : Nat) (n0_ : ((Int × Int) × List Int) × ((List Int) × List Int) × (List (List (Int × Int × Int × Bool × Bool))) × (List Int) × (List Int) × (List (List (Int × Int × Int × Bool × Bool))) × (List (List (Int × Int × Int × Bool × Bool))) × Int) (node1_ : Int) (class2_ : Int) : Option (((List Int) × Unit) × (Bool × Unit) × Unit) :=
  bif ((decide (0 ≤ node1_)) && (decide (node1_ < (n0_.2.2.2.2.2.2.1.length : Int)))) then
    (g_spec_ClassOnly_1.m k (List.getD n0_.2.2.2.2.2.2.1 node1_.toNat ([] : List (Int × Int × Int × Bool × Bool))) class2_).bind fun r1 =>
    g_spec_l22At.L0 k k r1.1.1
  else none
def g_spec_l22At.e : Entry Try.prog := mkEntry Dl [g_spec_ClassOnly_1.e, g_spec_WholePackets.e] (fun n => n == 2) [(2, g_spec_l22At.p0)] hm 74 Try.f74 (by kernel_rfl) (by kernel_rfl) (by kernel_rfl) [.v (.pair (.pair (.pair (.int .i64) (.int .i64)) (.sl (.int .i64))) (.pair (.pair (.sl (.int .i64)) (.sl (.int .i64))) (.pair (.sl (.sl (.pair (.int .i64) (.pair (.int .i64) (.pair (.int .i64) (.pair .bool .bool)))))) (.pair (.sl (.int .i64)) (.pair (.sl (.int .i64)) (.pair (.sl (.sl (.pair (.int .i64) (.pair (.int .i64) (.pair (.int .i64) (.pair .bool .bool)))))) (.pair (.sl (.sl (.pair (.int .i64) (.pair (.int .i64) (.pair (.int .i64) (.pair .bool .bool)))))) (.int .i64)))))))) true, .v (.int .i64) false, .v (.int .i64) false] [(false, [.o 3 (.int .i64)]), (false, [.v .bool])] (fun k a => g_spec_l22At.m k a.1 a.2.1 a.2.2.1) (fun k a => by kernel_rfl)
/- 76 loop.example/g00984/spec.l22From -/
def g_spec_l22From.p1 : LPat := ⟨65, [(0, false, [.v (.sl (.int .i64))]), (1, false, [.v (.sl (.pair (.int .i64) (.pair (.int .i64) (.pair (.int .i64) (.pair (.int .i64) (.int .i64))))))]), (2, false, [.v (.int .i64)]), (3, false, [.v (.int .i64)]), (4, false, [.v (.int .i64)]), (11, false, [.o 3 (.int .i64)]), (12, false, [.v (.int .i64)]), (13, false, [.v (.int .i64)])], []⟩
def g_spec_l22From.p0 : LPat := ⟨65, [(0, false, [.v (.sl (.int .i64))]), (1, false, [.v (.sl (.pair (.int .i64) (.pair (.int .i64) (.pair (.int .i64) (.pair (.int .i64) (.int .i64))))))]), (2, false, [.v (.int .i64)]), (3, false, [.v (.int .i64)]), (4, false, [.v (.int .i64)]), (11, false, [.o 3 (.int .i64)]), (12, false, [.v (.int .i64)])], []⟩
def g_spec_l22From.F1 (k : Nat) (rec0 : (List Int) → (List (Int × Int × Int × Int × Int)) → Int → Int → Int → (List Int) → Int → Option (((List Int) × Unit) × Unit)) (rec1 : (List Int) → (List (Int × Int × Int × Int × Int)) → Int → Int → Int → (List Int) → Int → Int → Option (((List Int) × Unit) × Unit)) (ids0' : (List Int)) (list1' : (List (Int × Int × Int × Int × Int))) (from2' : Int) (to3' : Int) (class4' : Int) (out11' : (List Int)) (i12' : Int) (k13' : Int) : Option (((List Int) × Unit) × Unit) :=
  bif (decide (k13' < (list1'.length : Int))) then
    bif ((decide (0 ≤ k13')) && (decide (k13' < (list1'.length : Int)))) then
      bif ((decide (0 ≤ i12')) && (decide (i12' < (ids0'.length : Int)))) then
        bif ((List.getD list1' k13'.toNat ((0), ((0), ((0), ((0), (0)))))).1 == (List.getD ids0' i12'.toNat 0)) then
          bif ((List.getD list1' k13'.toNat ((0), ((0), ((0), ((0), (0)))))).2.1 == from2') then
            bif ((List.getD list1' k13'.toNat ((0), ((0), ((0), ((0), (0)))))).2.2.1 == to3') then
              bif ((List.getD list1' k13'.toNat ((0), ((0), ((0), ((0), (0)))))).2.2.2.1 == class4') then
                bif ((decide (0 ≤ i12')) && (decide (i12' < (ids0'.length : Int)))) then
                  bif (Nat.ble (((List.length out11') + 1) * 8) 140737488355328) then
                    rec0 ids0' list1' from2' to3' class4' (out11' ++ [(List.getD ids0' i12'.toNat 0)]) (w64 (i12' + 1))
                  else none
                else none
              else
                rec1 ids0' list1' from2' to3' class4' out11' i12' (w64 (k13' + 1))
            else
              rec1 ids0' list1' from2' to3' class4' out11' i12' (w64 (k13' + 1))
          else
            rec1 ids0' list1' from2' to3' class4' out11' i12' (w64 (k13' + 1))
        else
          rec1 ids0' list1' from2' to3' class4' out11' i12' (w64 (k13' + 1))
      else none
    else none
  else
    rec0 ids0' list1' from2' to3' class4' out11' (w64 (i12' + 1))
def g_spec_l22From.L1 (k : Nat) (rec0 : (List Int) → (List (Int × Int × Int × Int × Int)) → Int → Int → Int → (List Int) → Int → Option (((List Int) × Unit) × Unit)) (j : Nat) (ids0' : (List Int)) (list1' : (List (Int × Int × Int × Int × Int))) (from2' : Int) (to3' : Int) (class4' : Int) (out11' : (List Int)) (i12' : Int) (k13' : Int) : Option (((List Int) × Unit) × Unit) :=
  iter (fun (rec : g_spec_l22From.p1.den → Option (((List Int) × Unit) × Unit)) s => g_spec_l22From.F1 k rec0 (fun ids0' list1' from2' to3' class4' out11' i12' k13' => rec (((ids0', ()), (list1', ()), (from2', ()), (to3', ()), (class4', ()), (out11', ()), (i12', ()), (k13', ()), ()), ())) s.1.1.1 s.1.2.1.1 s.1.2.2.1.1 s.1.2.2.2.1.1 s.1.2.2.2.2.1.1 s.1.2.2.2.2.2.1.1 s.1.2.2.2.2.2.2.1.1 s.1.2.2.2.2.2.2.2.1.1) j (((ids0', ()), (list1', ()), (from2', ()), (to3', ()), (class4', ()), (out11', ()), (i12', ()), (k13', ()), ()), ())
def g_spec_l22From.F0 (k : Nat)  (rec0 : (List Int) → (List (Int × Int × Int × Int × Int)) → Int → Int → Int → (List Int) → Int → Option (((List Int) × Unit) × Unit)) (ids0 : (List Int)) (list1 : (List (Int × Int × Int × Int × Int))) (from2 : Int) (to3 : Int) (class4 : Int) (out11 : (List Int)) (i12 : Int) : Option (((List Int) × Unit) × Unit) :=
  bif (decide (i12 < (ids0.length : Int))) then
    g_spec_l22From.L1 k rec0 k ids0 list1 from2 to3 class4 out11 i12 0
  else
    some ((out11, ()), ())
def g_spec_l22From.L0 (k : Nat)  (j : Nat) (ids0 : (List Int)) (list1 : (List (Int × Int × Int × Int × Int))) (from2 : Int) (to3 : Int) (class4 : Int) (out11 : (List Int)) (i12 : Int) : Option (((List Int) × Unit) × Unit) :=
  iter (fun (rec : g_spec_l22From.p0.den → Option (((List Int) × Unit) × Unit)) s => g_spec_l22From.F0 k  (fun ids0 list1 from2 to3 class4 out11 i12 => rec (((ids0, ()), (list1, ()), (from2, ()), (to3, ()), (class4, ()), (out11, ()), (i12, ()), ()), ())) s.1.1.1 s.1.2.1.1 s.1.2.2.1.1 s.1.2.2.2.1.1 s.1.2.2.2.2.1.1 s.1.2.2.2.2.2.1.1 s.1.2.2.2.2.2.2.1.1) j (((ids0, ()), (list1, ()), (from2, ()), (to3, ()), (class4, ()), (out11, ()), (i12, ()), ()), ())
theorem g_spec_l22From.L1_s (k : Nat) (rec0 : (List Int) → (List (Int × Int × Int × Int × Int)) → Int → Int → Int → (List Int) → Int → Option (((List Int) × Unit) × Unit)) (j : Nat) (ids0' : (List Int)) (list1' : (List (Int × Int × Int × Int × Int))) (from2' : Int) (to3' : Int) (class4' : Int) (out11' : (List Int)) (i12' : Int) (k13' : Int) : g_spec_l22From.L1 k rec0 (j + 1) ids0' list1' from2' to3' class4' out11' i12' k13' = g_spec_l22From.F1 k rec0 (g_spec_l22From.L1 k rec0 j) ids0' list1' from2' to3' class4' out11' i12' k13' := rfl
theorem g_spec_l22From.L0_s (k : Nat)  (j : Nat) (ids0 : (List Int)) (list1 : (List (Int × Int × Int × Int × Int))) (from2 : Int) (to3 : Int) (class4 : Int) (out11 : (List Int)) (i12 : Int) : g_spec_l22From.L0 k  (j + 1) ids0 list1 from2 to3 class4 out11 i12 = g_spec_l22From.F0 k  (g_spec_l22From.L0 k  j) ids0 list1 from2 to3 class4 out11 i12 := rfl
def g_spec_l22From.m (k : Nat) (ids0_ : List Int) (list1_ : List (Int × Int × Int × Int × Int)) (from2_ : Int) (to3_ : Int) (class4_ : Int) : Option (((List Int) × Unit) × Unit) :=
  g_spec_l22From.L0 k k ids0_ list1_ from2_ to3_ class4_ ([] : List Int) 0
def g_spec_l22From.e : Entry Try.prog := mkEntry Dl [] (fun n => false) [(6, g_spec_l22From.p1), (3, g_spec_l22From.p0)] hm 76 Try.f76 (by kernel_rfl) (by kernel_rfl) (by kernel_rfl) [.v (.sl (.int .i64)) false, .v (.sl (.pair (.int .i64) (.pair (.int .i64) (.pair (.int .i64) (.pair (.int .i64) (.int .i64)))))) false, .v (.int .i64) false, .v (.int .i64) false, .v (.int .i64) false] [(false, [.o 3 (.int .i64)])] (fun k a => g_spec_l22From.m k a.1 a.2.1 a.2.2.1 a.2.2.2.1 a.2.2.2.2.1) (fun k a => by kernel_rfl)
/- 77 loop.example/g00984/spec.SentFrom -/
def g_spec_SentFrom.p0 : LPat := ⟨52, [(0, false, [.v (.sl (.pair (.int .i64) (.pair (.int .i64) (.pair (.int .i64) (.pair (.int .i64) (.int .i64))))))]), (1, false, [.v (.int .i64)]), (2, false, [.v (.int .i64)]), (3, false, [.v (.int .i64)]), (9, false, [.o 3 (.int .i64)]), (10, false, [.v (.int .i64)])], []⟩
def g_spec_SentFrom.F0 (k : Nat)  (rec0 : (List (Int × Int × Int × Int × Int)) → Int → Int → Int → (List Int) → Int → Option (((List Int) × Unit) × Unit)) (list0 : (List (Int × Int × Int × Int × Int))) (from1 : Int) (to2 : Int) (class3 : Int) (out9 : (List Int)) (i10 : Int) : Option (((List Int) × Unit) × Unit) :=
  bif (decide (i10 < (list0.length : Int))) then
    Option.bind (
      bif ((decide (0 ≤ i10)) && (decide (i10 < (list0.length : Int)))) then
        bif ((List.getD list0 i10.toNat ((0), ((0), ((0), ((0), (0)))))).2.1 == from1) then
          bif ((decide (0 ≤ i10)) && (decide (i10 < (list0.length : Int)))) then
            bif ((List.getD list0 i10.toNat ((0), ((0), ((0), ((0), (0)))))).2.2.1 == to2) then
              bif ((decide (0 ≤ i10)) && (decide (i10 < (list0.length : Int)))) then
                some ((List.getD list0 i10.toNat ((0), ((0), ((0), ((0), (0)))))).2.2.2.1 == class3)
              else none
            else
              some false
          else none
        else
          some false
      else none) fun b1 =>
    bif b1 then
      bif ((decide (0 ≤ i10)) && (decide (i10 < (list0.length : Int)))) then
        bif (Nat.ble (((List.length out9) + 1) * 8) 140737488355328) then
          rec0 list0 from1 to2 class3 (out9 ++ [(List.getD list0 i10.toNat ((0), ((0), ((0), ((0), (0)))))).1]) (w64 (i10 + 1))
        else none
      else none
    else
      rec0 list0 from1 to2 class3 out9 (w64 (i10 + 1))
  else
    some ((out9, ()), ())
def g_spec_SentFrom.L0 (k : Nat)  (j : Nat) (list0 : (List (Int × Int × Int × Int × Int))) (from1 : Int) (to2 : Int) (class3 : Int) (out9 : (List Int)) (i10 : Int) : Option (((List Int) × Unit) × Unit) :=
  iter (fun (rec : g_spec_SentFrom.p0.den → Option (((List Int) × Unit) × Unit)) s => g_spec_SentFrom.F0 k  (fun list0 from1 to2 class3 out9 i10 => rec (((list0, ()), (from1, ()), (to2, ()), (class3, ()), (out9, ()), (i10, ()), ()), ())) s.1.1.1 s.1.2.1.1 s.1.2.2.1.1 s.1.2.2.2.1.1 s.1.2.2.2.2.1.1 s.1.2.2.2.2.2.1.1) j (((list0, ()), (from1, ()), (to2, ()), (class3, ()), (out9, ()), (i10, ()), ()), ())
theorem g_spec_SentFrom.L0_s (k : Nat)  (j : Nat) (list0 : (List (Int × Int × Int × Int × Int))) (from1 : Int) (to2 : Int) (class3 : Int) (out9 : (List Int)) (i10 : Int) : g_spec_SentFrom.L0 k  (j + 1) list0 from1 to2 class3 out9 i10 = g_spec_SentFrom.F0 k  (g_spec_SentFrom.L0 k  j) list0 from1 to2 class3 out9 i10 := rfl
def g_spec_SentFrom.m (k : Nat) (list0_ : List (Int × Int × Int × Int × Int)) (from1_ : Int) (to2_ : Int) (class3_ : Int) : Option (((List Int) × Unit) × Unit) :=
  g_spec_SentFrom.L0 k k list0_ from1_ to2_ class3_ ([] : List Int) 0
def g_spec_SentFrom.e : Entry Try.prog := mkEntry Dl [] (fun n => n == 5) [(3, g_spec_SentFrom.p0)] hm 77 Try.f77 (by kernel_rfl) (by kernel_rfl) (by kernel_rfl) [.v (.sl (.pair (.int .i64) (.pair (.int .i64) (.pair (.int .i64) (.pair (.int .i64) (.int .i64)))))) false, .v (.int .i64) false, .v (.int .i64) false, .v (.int .i64) false] [(false, [.o 3 (.int .i64)])] (fun k a => g_spec_SentFrom.m k a.1 a.2.1 a.2.2.1 a.2.2.2.1) (fun k a => by kernel_rfl)
/- 75 loop.example/g00984/spec.IsPrefixOf -/
def g_spec_IsPrefixOf.p0 : LPat := ⟨27, [(0, false, [.v (.sl (.int .i64))]), (1, false, [.v (.sl (.int .i64))]), (5, false, [.v (.int .i64)])], []⟩
def g_spec_IsPrefixOf.F0 (k : Nat)  (rec0 : (List Int) → (List Int) → Int → Option ((Bool × Unit) × Unit)) (a0 : (List Int)) (b1 : (List Int)) (i5 : Int) : Option ((Bool × Unit) × Unit) :=
  bif (decide (i5 < (a0.length : Int))) then
    bif (decide (i5 ≥ (b1.length : Int))) then
      some ((false, ()), ())
    else
      bif ((decide (0 ≤ i5)) && (decide (i5 < (a0.length : Int)))) then
        bif ((decide (0 ≤ i5)) && (decide (i5 < (b1.length : Int)))) then
          bif ((List.getD a0 i5.toNat 0) != (List.getD b1 i5.toNat 0)) then
            some ((false, ()), ())
          else
            rec0 a0 b1 (w64 (i5 + 1))
        else none
      else none
  else
    some ((true, ()), ())
def g_spec_IsPrefixOf.L0 (k : Nat)  (j : Nat) (a0 : (List Int)) (b1 : (List Int)) (i5 : Int) : Option ((Bool × Unit) × Unit) :=
  iter (fun (rec : g_spec_IsPrefixOf.p0.den → Option ((Bool × Unit) × Unit)) s => g_spec_IsPrefixOf.F0 k  (fun a0 b1 i5 => rec (((a0, ()), (b1, ()), (i5, ()), ()), ())) s.1.1.1 s.1.2.1.1 s.1.2.2.1.1) j (((a0, ()), (b1, ()), (i5, ()), ()), ())
theorem g_spec_IsPrefixOf.L0_s (k : Nat)  (j : Nat) (a0 : (List Int)) (b1 : (List Int)) (i5 : Int) : g_spec_IsPrefixOf.L0 k  (j + 1) a0 b1 i5 = g_spec_IsPrefixOf.F0 k  (g_spec_IsPrefixOf.L0 k  j) a0 b1 i5 := rfl
def g_spec_IsPrefixOf.m (k : Nat) (a0_ : List Int) (b1_ : List Int) : Option ((Bool × Unit) × Unit) :=
  g_spec_IsPrefixOf.L0 k k a0_ b1_ 0
def g_spec_IsPrefixOf.e : Entry Try.prog := mkEntry Dl [] (fun n => false) [(2, g_spec_IsPrefixOf.p0)] hm 75 Try.f75 (by kernel_rfl) (by kernel_rfl) (by kernel_rfl) [.v (.sl (.int .i64)) false, .v (.sl (.int .i64)) false] [(false, [.v .bool])] (fun k a => g_spec_IsPrefixOf.m k a.1 a.2.1) (fun k a => by kernel_rfl)
/- 33 loop.example/g00984/spec.KeepsOrder -/
def g_spec_KeepsOrder.p1 : LPat := ⟨59, [(1, false, [.v (.sl (.pair (.int .i64) (.pair (.int .i64) (.pair (.int .i64) (.pair (.int .i64) (.int .i64))))))]), (2, false, [.p 0 0]), (5, false, [.v (.int .i64)]), (6, false, [.v (.int .i64)]), (7, false, [.o 3 (.int .i64)]), (9, false, [.v (.int .i64)])], [some [.v (.int .i64), .v (.int .i64), .v (.sl (.int .i64)), .v (.sl (.int .i64)), .v (.sl (.int .i64)), .v (.sl (.sl (.pair (.int .i64) (.pair (.int .i64) (.pair (.int .i64) (.pair .bool .bool)))))), .v (.sl (.int .i64)), .v (.sl (.int .i64)), .v (.sl (.sl (.pair (.int .i64) (.pair (.int .i64) (.pair (.int .i64) (.pair .bool .bool)))))), .v (.sl (.sl (.pair (.int .i64) (.pair (.int .i64) (.pair (.int .i64) (.pair .bool .bool)))))), .v (.int .i64)]]⟩
def g_spec_KeepsOrder.p0 : LPat := ⟨59, [(1, false, [.v (.sl (.pair (.int .i64) (.pair (.int .i64) (.pair (.int .i64) (.pair (.int .i64) (.int .i64))))))]), (2, false, [.p 0 0]), (5, false, [.v (.int .i64)]), (6, false, [.v (.int .i64)])], [some [.v (.int .i64), .v (.int .i64), .v (.sl (.int .i64)), .v (.sl (.int .i64)), .v (.sl (.int .i64)), .v (.sl (.sl (.pair (.int .i64) (.pair (.int .i64) (.pair (.int .i64) (.pair .bool .bool)))))), .v (.sl (.int .i64)), .v (.sl (.int .i64)), .v (.sl (.sl (.pair (.int .i64) (.pair (.int .i64) (.pair (.int .i64) (.pair .bool .bool)))))), .v (.sl (.sl (.pair (.int .i64) (.pair (.int .i64) (.pair (.int .i64) (.pair .bool .bool)))))), .v (.int .i64)]]⟩
def g_spec_KeepsOrder.F1 (k : Nat) (rec0 : (List (Int × Int × Int × Int × Int)) → Int → Int → Int → Int → (List Int) → (List Int) → (List Int) → (List (List (Int × Int × Int × Bool × Bool))) → (List Int) → (List Int) → (List (List (Int × Int × Int × Bool × Bool))) → (List (List (Int × Int × Int × Bool × Bool))) → Int → Option ((Bool × Unit) × Unit)) (rec1 : (List (Int × Int × Int × Int × Int)) → Int → Int → (List Int) → Int → Int → Int → (List Int) → (List Int) → (List Int) → (List (List (Int × Int × Int × Bool × Bool))) → (List Int) → (List Int) → (List (List (Int × Int × Int × Bool × Bool))) → (List (List (Int × Int × Int × Bool × Bool))) → Int → Option ((Bool × Unit) × Unit)) (list1' : (List (Int × Int × Int × Int × Int))) (k5' : Int) (i6' : Int) (ids7' : (List Int)) (from9' : Int) (b0_0' : Int) (b0_1' : Int) (b0_2' : (List Int)) (b0_3' : (List Int)) (b0_4' : (List Int)) (b0_5' : (List (List (Int × Int × Int × Bool × Bool)))) (b0_6' : (List Int)) (b0_7' : (List Int)) (b0_8' : (List (List (Int × Int × Int × Bool × Bool)))) (b0_9' : (List (List (Int × Int × Int × Bool × Bool)))) (b0_10' : Int) : Option ((Bool × Unit) × Unit) :=
  Option.bind (
    bif (decide (from9' < k5')) then
      some (decide ((ids7'.length : Int) > 0))
    else
      some false) fun b4 =>
  bif b4 then
    (g_spec_l22From.m k ids7' list1' from9' (w64 (Int.tdiv i6' 2)) (Int.tmod i6' 2)).bind fun r5 =>
    (g_spec_SentFrom.m k list1' from9' (w64 (Int.tdiv i6' 2)) (Int.tmod i6' 2)).bind fun r6 =>
    (g_spec_IsPrefixOf.m k r5.1.1 r6.1.1).bind fun r7 =>
    bif (!r7.1.1) then
      some ((false, ()), ())
    else
      rec1 list1' k5' i6' ids7' (w64 (from9' + 1)) b0_0' b0_1' b0_2' b0_3' b0_4' b0_5' b0_6' b0_7' b0_8' b0_9' b0_10'
  else
    rec0 list1' k5' (w64 (i6' + 1)) b0_0' b0_1' b0_2' b0_3' b0_4' b0_5' b0_6' b0_7' b0_8' b0_9' b0_10'
def g_spec_KeepsOrder.L1 (k : Nat) (rec0 : (List (Int × Int × Int × Int × Int)) → Int → Int → Int → Int → (List Int) → (List Int) → (List Int) → (List (List (Int × Int × Int × Bool × Bool))) → (List Int) → (List Int) → (List (List (Int × Int × Int × Bool × Bool))) → (List (List (Int × Int × Int × Bool × Bool))) → Int → Option ((Bool × Unit) × Unit)) (j : Nat) (list1' : (List (Int × Int × Int × Int × Int))) (k5' : Int) (i6' : Int) (ids7' : (List Int)) (from9' : Int) (b0_0' : Int) (b0_1' : Int) (b0_2' : (List Int)) (b0_3' : (List Int)) (b0_4' : (List Int)) (b0_5' : (List (List (Int × Int × Int × Bool × Bool)))) (b0_6' : (List Int)) (b0_7' : (List Int)) (b0_8' : (List (List (Int × Int × Int × Bool × Bool)))) (b0_9' : (List (List (Int × Int × Int × Bool × Bool)))) (b0_10' : Int) : Option ((Bool × Unit) × Unit) :=
  iter (fun (rec : g_spec_KeepsOrder.p1.den → Option ((Bool × Unit) × Unit)) s => g_spec_KeepsOrder.F1 k rec0 (fun list1' k5' i6' ids7' from9' b0_0' b0_1' b0_2' b0_3' b0_4' b0_5' b0_6' b0_7' b0_8' b0_9' b0_10' => rec (((list1', ()), (), (k5', ()), (i6', ()), (ids7', ()), (from9', ()), ()), ((b0_0', b0_1', b0_2', b0_3', b0_4', b0_5', b0_6', b0_7', b0_8', b0_9', b0_10', ()), ()))) s.1.1.1 s.1.2.2.1.1 s.1.2.2.2.1.1 s.1.2.2.2.2.1.1 s.1.2.2.2.2.2.1.1 s.2.1.1 s.2.1.2.1 s.2.1.2.2.1 s.2.1.2.2.2.1 s.2.1.2.2.2.2.1 s.2.1.2.2.2.2.2.1 s.2.1.2.2.2.2.2.2.1 s.2.1.2.2.2.2.2.2.2.1 s.2.1.2.2.2.2.2.2.2.2.1 s.2.1.2.2.2.2.2.2.2.2.2.1 s.2.1.2.2.2.2.2.2.2.2.2.2.1) j (((list1', ()), (), (k5', ()), (i6', ()), (ids7', ()), (from9', ()), ()), ((b0_0', b0_1', b0_2', b0_3', b0_4', b0_5', b0_6', b0_7', b0_8', b0_9', b0_10', ()), ()))
def g_spec_KeepsOrder.F0 (k : Nat)  (rec0 : (List (Int × Int × Int × Int × Int)) → Int → Int → Int → Int → (List Int) → (List Int) → (List Int) → (List (List (Int × Int × Int × Bool × Bool))) → (List Int) → (List Int) → (List (List (Int × Int × Int × Bool × Bool))) → (List (List (Int × Int × Int × Bool × Bool))) → Int → Option ((Bool × Unit) × Unit)) (list1 : (List (Int × Int × Int × Int × Int))) (k5 : Int) (i6 : Int) (b0_0 : Int) (b0_1 : Int) (b0_2 : (List Int)) (b0_3 : (List Int)) (b0_4 : (List Int)) (b0_5 : (List (List (Int × Int × Int × Bool × Bool)))) (b0_6 : (List Int)) (b0_7 : (List Int)) (b0_8 : (List (List (Int × Int × Int × Bool × Bool)))) (b0_9 : (List (List (Int × Int × Int × Bool × Bool)))) (b0_10 : Int) : Option ((Bool × Unit) × Unit) :=
  bif (decide (i6 < (w64 (2 * k5)))) then
    (g_spec_l22At.m k (((b0_0, b0_1), b0_2), ((b0_3, b0_4), (b0_5, (b0_6, (b0_7, (b0_8, (b0_9, b0_10))))))) (w64 (Int.tdiv i6 2)) (Int.tmod i6 2)).bind fun r3 =>
    g_spec_KeepsOrder.L1 k rec0 k list1 k5 i6 r3.1.1 0 b0_0 b0_1 b0_2 b0_3 b0_4 b0_5 b0_6 b0_7 b0_8 b0_9 b0_10
  else
    some ((true, ()), ())
def g_spec_KeepsOrder.L0 (k : Nat)  (j : Nat) (list1 : (List (Int × Int × Int × Int × Int))) (k5 : Int) (i6 : Int) (b0_0 : Int) (b0_1 : Int) (b0_2 : (List Int)) (b0_3 : (List Int)) (b0_4 : (List Int)) (b0_5 : (List (List (Int × Int × Int × Bool × Bool)))) (b0_6 : (List Int)) (b0_7 : (List Int)) (b0_8 : (List (List (Int × Int × Int × Bool × Bool)))) (b0_9 : (List (List (Int × Int × Int × Bool × Bool)))) (b0_10 : Int) : Option ((Bool × Unit) × Unit) :=
  iter (fun (rec : g_spec_KeepsOrder.p0.den → Option ((Bool × Unit) × Unit)) s => g_spec_KeepsOrder.F0 k  (fun list1 k5 i6 b0_0 b0_1 b0_2 b0_3 b0_4 b0_5 b0_6 b0_7 b0_8 b0_9 b0_10 => rec (((list1, ()), (), (k5, ()), (i6, ()), ()), ((b0_0, b0_1, b0_2, b0_3, b0_4, b0_5, b0_6, b0_7, b0_8, b0_9, b0_10, ()), ()))) s.1.1.1 s.1.2.2.1.1 s.1.2.2.2.1.1 s.2.1.1 s.2.1.2.1 s.2.1.2.2.1 s.2.1.2.2.2.1 s.2.1.2.2.2.2.1 s.2.1.2.2.2.2.2.1 s.2.1.2.2.2.2.2.2.1 s.2.1.2.2.2.2.2.2.2.1 s.2.1.2.2.2.2.2.2.2.2.1 s.2.1.2.2.2.2.2.2.2.2.2.1 s.2.1.2.2.2.2.2.2.2.2.2.2.1) j (((list1, ()), (), (k5, ()), (i6, ()), ()), ((b0_0, b0_1, b0_2, b0_3, b0_4, b0_5, b0_6, b0_7, b0_8, b0_9, b0_10, ()), ()))
theorem g_spec_KeepsOrder.L1_s (k : Nat) (rec0 : (List (Int × Int × Int × Int × Int)) → Int → Int → Int → Int → (List Int) → (List Int) → (List Int) → (List (List (Int × Int × Int × Bool × Bool))) → (List Int) → (List Int) → (List (List (Int × Int × Int × Bool × Bool))) → (List (List (Int × Int × Int × Bool × Bool))) → Int → Option ((Bool × Unit) × Unit)) (j : Nat) (list1' : (List (Int × Int × Int × Int × Int))) (k5' : Int) (i6' : Int) (ids7' : (List Int)) (from9' : Int) (b0_0' : Int) (b0_1' : Int) (b0_2' : (List Int)) (b0_3' : (List Int)) (b0_4' : (List Int)) (b0_5' : (List (List (Int × Int × Int × Bool × Bool)))) (b0_6' : (List Int)) (b0_7' : (List Int)) (b0_8' : (List (List (Int × Int × Int × Bool × Bool)))) (b0_9' : (List (List (Int × Int × Int × Bool × Bool)))) (b0_10' : Int) : g_spec_KeepsOrder.L1 k rec0 (j + 1) list1' k5' i6' ids7' from9' b0_0' b0_1' b0_2' b0_3' b0_4' b0_5' b0_6' b0_7' b0_8' b0_9' b0_10' = g_spec_KeepsOrder.F1 k rec0 (g_spec_KeepsOrder.L1 k rec0 j) list1' k5' i6' ids7' from9' b0_0' b0_1' b0_2' b0_3' b0_4' b0_5' b0_6' b0_7' b0_8' b0_9' b0_10' := rfl
theorem g_spec_KeepsOrder.L0_s (k : Nat)  (j : Nat) (list1 : (List (Int × Int × Int × Int × Int))) (k5 : Int) (i6 : Int) (b0_0 : Int) (b0_1 : Int) (b0_2 : (List Int)) (b0_3 : (List Int)) (b0_4 : (List Int)) (b0_5 : (List (List (Int × Int × Int × Bool × Bool)))) (b0_6 : (List Int)) (b0_7 : (List Int)) (b0_8 : (List (List (Int × Int × Int × Bool × Bool)))) (b0_9 : (List (List (Int × Int × Int × Bool × Bool)))) (b0_10 : Int) : g_spec_KeepsOrder.L0 k  (j + 1) list1 k5 i6 b0_0 b0_1 b0_2 b0_3 b0_4 b0_5 b0_6 b0_7 b0_8 b0_9 b0_10 = g_spec_KeepsOrder.F0 k  (g_spec_KeepsOrder.L0 k  j) list1 k5 i6 b0_0 b0_1 b0_2 b0_3 b0_4 b0_5 b0_6 b0_7 b0_8 b0_9 b0_10 := rfl
def g_spec_KeepsOrder.m (k : Nat) (n0_ : ((Int × Int) × List Int) × ((List Int) × List Int) × (List (List (Int × Int × Int × Bool × Bool))) × (List Int) × (List Int) × (List (List (Int × Int × Int × Bool × Bool))) × (List (List (Int × Int × Int × Bool × Bool))) × Int) (list1_ : List (Int × Int × Int × Int × Int)) : Option ((Bool × Unit) × Unit) :=
  (g_spec_NetOk.m k n0_).bind fun r1 =>
  bif (!r1.1.1) then
    some ((false, ()), ())
  else
    (g_spec_NodeCount.m k n0_.1.1).bind fun r2 =>
    g_spec_KeepsOrder.L0 k k list1_ r2.1.1 0 n0_.1.1.1 n0_.1.1.2 n0_.1.2 n0_.2.1.1 n0_.2.1.2 n0_.2.2.1 n0_.2.2.2.1 n0_.2.2.2.2.1 n0_.2.2.2.2.2.1 n0_.2.2.2.2.2.2.1 n0_.2.2.2.2.2.2.2
def g_spec_KeepsOrder.e : Entry Try.prog := mkEntry Dl [g_spec_NetOk.e, g_spec_NodeCount.e, g_spec_l22At.e, g_spec_l22From.e, g_spec_SentFrom.e, g_spec_IsPrefixOf.e] (fun n => n == 9) [(9, g_spec_KeepsOrder.p1), (5, g_spec_KeepsOrder.p0)] hm 33 Try.f33 (by kernel_rfl) (by kernel_rfl) (by kernel_rfl) [.v (.pair (.pair (.pair (.int .i64) (.int .i64)) (.sl (.int .i64))) (.pair (.pair (.sl (.int .i64)) (.sl (.int .i64))) (.pair (.sl (.sl (.pair (.int .i64) (.pair (.int .i64) (.pair (.int .i64) (.pair .bool .bool)))))) (.pair (.sl (.int .i64)) (.pair (.sl (.int .i64)) (.pair (.sl (.sl (.pair (.int .i64) (.pair (.int .i64) (.pair (.int .i64) (.pair .bool .bool)))))) (.pair (.sl (.sl (.pair (.int .i64) (.pair (.int .i64) (.pair (.int .i64) (.pair .bool .bool)))))) (.int .i64)))))))) true, .v (.sl (.pair (.int .i64) (.pair (.int .i64) (.pair (.int .i64) (.pair (.int .i64) (.int .i64)))))) false] [(false, [.v .bool])] (fun k a => g_spec_KeepsOrder.m k a.1 a.2.1) (fun k a => by kernel_rfl)
/- 8 loop.example/g00984/spec.ChipOk -/
def g_spec_ChipOk.p0 : LPat := ⟨48, [(1, false, [.p 0 0]), (3, false, [.v (.int .i64)])], [some [.v (.int .i64), .v (.int .i64), .v (.sl (.int .i64)), .v (.sl (.int .i64)), .v (.sl (.int .i64)), .v (.sl (.sl (.pair (.int .i64) (.pair (.int .i64) (.pair (.int .i64) (.pair .bool .bool)))))), .v (.sl (.int .i64)), .v (.sl (.int .i64)), .v (.sl (.sl (.pair (.int .i64) (.pair (.int .i64) (.pair (.int .i64) (.pair .bool .bool)))))), .v (.sl (.sl (.pair (.int .i64) (.pair (.int .i64) (.pair (.int .i64) (.pair .bool .bool)))))), .v (.int .i64), .v (.sl (.pair (.int .i64) (.pair (.int .i64) (.pair (.int .i64) (.pair (.int .i64) (.int .i64))))))]]⟩
def g_spec_ChipOk.F0 (k : Nat)  (rec0 : Int → Int → Int → (List Int) → (List Int) → (List Int) → (List (List (Int × Int × Int × Bool × Bool))) → (List Int) → (List Int) → (List (List (Int × Int × Int × Bool × Bool))) → (List (List (Int × Int × Int × Bool × Bool))) → Int → (List (Int × Int × Int × Int × Int)) → Option ((Bool × Unit) × Unit)) (i3 : Int) (b0_0 : Int) (b0_1 : Int) (b0_2 : (List Int)) (b0_3 : (List Int)) (b0_4 : (List Int)) (b0_5 : (List (List (Int × Int × Int × Bool × Bool)))) (b0_6 : (List Int)) (b0_7 : (List Int)) (b0_8 : (List (List (Int × Int × Int × Bool × Bool)))) (b0_9 : (List (List (Int × Int × Int × Bool × Bool)))) (b0_10 : Int) (b0_11 : (List (Int × Int × Int × Int × Int))) : Option ((Bool × Unit) × Unit) :=
  bif (decide (i3 < (b0_11.length : Int))) then
    bif ((decide (0 ≤ i3)) && (decide (i3 < (b0_11.length : Int)))) then
      (g_spec_PacketOk.m k (b0_0, b0_1) (List.getD b0_11 i3.toNat ((0), ((0), ((0), ((0), (0))))))).bind fun r3 =>
      bif (!r3.1.1) then
        some ((false, ()), ())
      else
        bif ((decide (0 ≤ i3)) && (decide (i3 < (b0_11.length : Int)))) then
          bif ((List.getD b0_11 i3.toNat ((0), ((0), ((0), ((0), (0)))))).1 != (w64 (i3 + 1))) then
            some ((false, ()), ())
          else
            rec0 (w64 (i3 + 1)) b0_0 b0_1 b0_2 b0_3 b0_4 b0_5 b0_6 b0_7 b0_8 b0_9 b0_10 b0_11
        else none
    else none
  else
    (g_spec_KeepsOrder.m k (((b0_0, b0_1), b0_2), ((b0_3, b0_4), (b0_5, (b0_6, (b0_7, (b0_8, (b0_9, b0_10))))))) b0_11).bind fun r4 =>
    some ((r4.1.1, ()), ())
def g_spec_ChipOk.L0 (k : Nat)  (j : Nat) (i3 : Int) (b0_0 : Int) (b0_1 : Int) (b0_2 : (List Int)) (b0_3 : (List Int)) (b0_4 : (List Int)) (b0_5 : (List (List (Int × Int × Int × Bool × Bool)))) (b0_6 : (List Int)) (b0_7 : (List Int)) (b0_8 : (List (List (Int × Int × Int × Bool × Bool)))) (b0_9 : (List (List (Int × Int × Int × Bool × Bool)))) (b0_10 : Int) (b0_11 : (List (Int × Int × Int × Int × Int))) : Option ((Bool × Unit) × Unit) :=
  iter (fun (rec : g_spec_ChipOk.p0.den → Option ((Bool × Unit) × Unit)) s => g_spec_ChipOk.F0 k  (fun i3 b0_0 b0_1 b0_2 b0_3 b0_4 b0_5 b0_6 b0_7 b0_8 b0_9 b0_10 b0_11 => rec (((), (i3, ()), ()), ((b0_0, b0_1, b0_2, b0_3, b0_4, b0_5, b0_6, b0_7, b0_8, b0_9, b0_10, b0_11, ()), ()))) s.1.2.1.1 s.2.1.1 s.2.1.2.1 s.2.1.2.2.1 s.2.1.2.2.2.1 s.2.1.2.2.2.2.1 s.2.1.2.2.2.2.2.1 s.2.1.2.2.2.2.2.2.1 s.2.1.2.2.2.2.2.2.2.1 s.2.1.2.2.2.2.2.2.2.2.1 s.2.1.2.2.2.2.2.2.2.2.2.1 s.2.1.2.2.2.2.2.2.2.2.2.2.1 s.2.1.2.2.2.2.2.2.2.2.2.2.2.1) j (((), (i3, ()), ()), ((b0_0, b0_1, b0_2, b0_3, b0_4, b0_5, b0_6, b0_7, b0_8, b0_9, b0_10, b0_11, ()), ()))
theorem g_spec_ChipOk.L0_s (k : Nat)  (j : Nat) (i3 : Int) (b0_0 : Int) (b0_1 : Int) (b0_2 : (List Int)) (b0_3 : (List Int)) (b0_4 : (List Int)) (b0_5 : (List (List (Int × Int × Int × Bool × Bool)))) (b0_6 : (List Int)) (b0_7 : (List Int)) (b0_8 : (List (List (Int × Int × Int × Bool × Bool)))) (b0_9 : (List (List (Int × Int × Int × Bool × Bool)))) (b0_10 : Int) (b0_11 : (List (Int × Int × Int × Int × Int))) : g_spec_ChipOk.L0 k  (j + 1) i3 b0_0 b0_1 b0_2 b0_3 b0_4 b0_5 b0_6 b0_7 b0_8 b0_9 b0_10 b0_11 = g_spec_ChipOk.F0 k  (g_spec_ChipOk.L0 k  j) i3 b0_0 b0_1 b0_2 b0_3 b0_4 b0_5 b0_6 b0_7 b0_8 b0_9 b0_10 b0_11 := rfl
def g_spec_ChipOk.m (k : Nat) (c0_ : (((Int × Int) × List Int) × ((List Int) × List Int) × (List (List (Int × Int × Int × Bool × Bool))) × (List Int) × (List Int) × (List (List (Int × Int × Int × Bool × Bool))) × (List (List (Int × Int × Int × Bool × Bool))) × Int) × List (Int × Int × Int × Int × Int)) : Option ((Bool × Unit) × Unit) :=
  Option.bind (
    (g_spec_NetOk.m k c0_.1).bind fun r1 =>
    bif (!r1.1.1) then
      some true
    else
      some (decide ((c0_.2.length : Int) > 200))) fun b2 =>
  bif b2 then
    some ((false, ()), ())
  else
    g_spec_ChipOk.L0 k k 0 c0_.1.1.1.1 c0_.1.1.1.2 c0_.1.1.2 c0_.1.2.1.1 c0_.1.2.1.2 c0_.1.2.2.1 c0_.1.2.2.2.1 c0_.1.2.2.2.2.1 c0_.1.2.2.2.2.2.1 c0_.1.2.2.2.2.2.2.1 c0_.1.2.2.2.2.2.2.2 c0_.2
def g_spec_ChipOk.e : Entry Try.prog := mkEntry Dl [g_spec_NetOk.e, g_spec_PacketOk.e, g_spec_KeepsOrder.e] (fun n => n == 1) [(4, g_spec_ChipOk.p0)] hm 8 Try.f8 (by kernel_rfl) (by kernel_rfl) (by kernel_rfl) [.v (.pair (.pair (.pair (.pair (.int .i64) (.int .i64)) (.sl (.int .i64))) (.pair (.pair (.sl (.int .i64)) (.sl (.int .i64))) (.pair (.sl (.sl (.pair (.int .i64) (.pair (.int .i64) (.pair (.int .i64) (.pair .bool .bool)))))) (.pair (.sl (.int .i64)) (.pair (.sl (.int .i64)) (.pair (.sl (.sl (.pair (.int .i64) (.pair (.int .i64) (.pair (.int .i64) (.pair .bool .bool)))))) (.pair (.sl (.sl (.pair (.int .i64) (.pair (.int .i64) (.pair (.int .i64) (.pair .bool .bool)))))) (.int .i64)))))))) (.sl (.pair (.int .i64) (.pair (.int .i64) (.pair (.int .i64) (.pair (.int .i64) (.int .i64))))))) true] [(false, [.v .bool])] (fun k a => g_spec_ChipOk.m k a.1) (fun k a => by kernel_rfl)
/- 84 loop.example/g00984/impl.inside -/
def g_impl_inside.m (k : Nat) (n0_ : Int) (low1_ : Int) (high2_ : Int) : Option ((Bool × Unit) × Unit) :=
  Option.bind (
    bif (decide (low1_ ≤ n0_)) then
      some (decide (n0_ ≤ high2_))
    else
      some false) fun b1 =>
  some ((b1, ()), ())
def g_impl_inside.e : Entry Try.prog := mkEntry Dl [] (fun n => n == 1) [] hm 84 Try.f84 (by kernel_rfl) (by kernel_rfl) (by kernel_rfl) [.v (.int .i64) false, .v (.int .i64) false, .v (.int .i64) false] [(false, [.v .bool])] (fun k a => g_impl_inside.m k a.1 a.2.1 a.2.2.1) (fun k a => by kernel_rfl)
/- 121 loop.example/g00984/impl.GridOk -/
def g_impl_GridOk.m (k : Nat) (g0_ : Int × Int) : Option ((Bool × Unit) × Unit) :=
  Option.bind (
    (g_impl_inside.m k g0_.1 1 4).bind fun r1 =>
    bif r1.1.1 then
      (g_impl_inside.m k g0_.2 1 4).bind fun r2 =>
      some r2.1.1
    else
      some false) fun b3 =>
  some ((b3, ()), ())
def g_impl_GridOk.e : Entry Try.prog := mkEntry Dl [g_impl_inside.e] (fun n => n == 1) [] hm 121 Try.f121 (by kernel_rfl) (by kernel_rfl) (by kernel_rfl) [.v (.pair (.int .i64) (.int .i64)) true] [(false, [.v .bool])] (fun k a => g_impl_GridOk.m k a.1) (fun k a => by kernel_rfl)
/- 80 loop.example/g00984/impl.NodeCount -/
def g_impl_NodeCount.m (k : Nat) (g0_ : Int × Int) : Option ((Int × Unit) × Unit) :=
  (g_impl_GridOk.m k g0_).bind fun r1 =>
  bif (!r1.1.1) then
    some (((0), ()), ())
  else
    some (((w64 (g0_.1 * g0_.2)), ()), ())
def g_impl_NodeCount.e : Entry Try.prog := mkEntry Dl [g_impl_GridOk.e] (fun n => false) [] hm 80 Try.f80 (by kernel_rfl) (by kernel_rfl) (by kernel_rfl) [.v (.pair (.int .i64) (.int .i64)) true] [(false, [.v (.int .i64)])] (fun k a => g_impl_NodeCount.m k a.1) (fun k a => by kernel_rfl)
/- 85 loop.example/g00984/impl.isNode -/
def g_impl_isNode.m (k : Nat) (g0_ : Int × Int) (node1_ : Int) : Option ((Bool × Unit) × Unit) :=
  (g_impl_NodeCount.m k g0_).bind fun r1 =>
  (g_impl_inside.m k node1_ 0 (w64 (r1.1.1 - 1))).bind fun r2 =>
  some ((r2.1.1, ()), ())
def g_impl_isNode.e : Entry Try.prog := mkEntry Dl [g_impl_NodeCount.e, g_impl_inside.e] (fun n => false) [] hm 85 Try.f85 (by kernel_rfl) (by kernel_rfl) (by kernel_rfl) [.v (.pair (.int .i64) (.int .i64)) true, .v (.int .i64) false] [(false, [.v .bool])] (fun k a => g_impl_isNode.m k a.1 a.2.1) (fun k a => by kernel_rfl)
/- 145 loop.example/g00984/impl.NodeAt -/
def g_impl_NodeAt.m (k : Nat) (g0_ : Int × Int) (x1_ : Int) (y2_ : Int) : Option ((Int × Unit) × Unit) :=
  Option.bind (
    (g_impl_GridOk.m k g0_).bind fun r1 =>
    bif (!r1.1.1) then
      some true
    else
      (g_impl_inside.m k x1_ 0 (w64 (g0_.1 - 1))).bind fun r2 =>
      bif (!r2.1.1) then
        some true
      else
        (g_impl_inside.m k y2_ 0 (w64 (g0_.2 - 1))).bind fun r3 =>
        some (!r3.1.1)) fun b4 =>
  bif b4 then
    some (((-1), ()), ())
  else
    some (((w64 ((w64 (y2_ * g0_.1)) + x1_)), ()), ())
def g_impl_NodeAt.e : Entry Try.prog := mkEntry Dl [g_impl_GridOk.e, g_impl_inside.e] (fun n => n == 1) [] hm 145 Try.f145 (by kernel_rfl) (by kernel_rfl) (by kernel_rfl) [.v (.pair (.int .i64) (.int .i64)) true, .v (.int .i64) false, .v (.int .i64) false] [(false, [.v (.int .i64)])] (fun k a => g_impl_NodeAt.m k a.1 a.2.1 a.2.2.1) (fun k a => by kernel_rfl)
/- 134 loop.example/g00984/impl.NextNode -/
def g_impl_NextNode.m (k : Nat) (g0_ : Int × Int) (node1_ : Int) (port2_ : Int) : Option ((Int × Unit) × Unit) :=
  (g_impl_isNode.m k g0_ node1_).bind fun r1 =>
  bif (!r1.1.1) then
    some (((-1), ()), ())
  else
    bif (g0_.1 == 0) then
      none
    else
      bif (g0_.1 == 0) then
        none
      else
        bif (port2_ == 0) then
          (g_impl_NodeAt.m k g0_ (Int.tmod node1_ g0_.1) (w64 ((w64 (Int.tdiv node1_ g0_.1)) - 1))).bind fun r2 =>
          some ((r2.1.1, ()), ())
        else
          bif (port2_ == 1) then
            (g_impl_NodeAt.m k g0_ (w64 ((Int.tmod node1_ g0_.1) + 1)) (w64 (Int.tdiv node1_ g0_.1))).bind fun r3 =>
            some ((r3.1.1, ()), ())
          else
            bif (port2_ == 2) then
              (g_impl_NodeAt.m k g0_ (Int.tmod node1_ g0_.1) (w64 ((w64 (Int.tdiv node1_ g0_.1)) + 1))).bind fun r4 =>
              some ((r4.1.1, ()), ())
            else
              bif (port2_ == 3) then
                (g_impl_NodeAt.m k g0_ (w64 ((Int.tmod node1_ g0_.1) - 1)) (w64 (Int.tdiv node1_ g0_.1))).bind fun r5 =>
                some ((r5.1.1, ()), ())
              else
                bif (port2_ == 4) then
                  some ((node1_, ()), ())
                else
                  some (((-1), ()), ())
def g_impl_NextNode.e : Entry Try.prog := mkEntry Dl [g_impl_isNode.e, g_impl_NodeAt.e] (fun n => false) [] hm 134 Try.f134 (by kernel_rfl) (by kernel_rfl) (by kernel_rfl) [.v (.pair (.int .i64) (.int .i64)) true, .v (.int .i64) false, .v (.int .i64) false] [(false, [.v (.int .i64)])] (fun k a => g_impl_NextNode.m k a.1 a.2.1 a.2.2.1) (fun k a => by kernel_rfl)
/- 133 loop.example/g00984/impl.leads -/
def g_impl_leads.m (k : Nat) (g0_ : Int × Int) (channel1_ : Int) : Option ((Bool × Unit) × Unit) :=
  Option.bind (
    (g_impl_NodeCount.m k g0_).bind fun r1 =>
    (g_impl_inside.m k channel1_ 0 (w64 ((w64 (4 * r1.1.1)) - 1))).bind fun r2 =>
    bif r2.1.1 then
      (g_impl_NextNode.m k g0_ (w64 (Int.tdiv channel1_ 4)) (Int.tmod channel1_ 4)).bind fun r3 =>
      some (decide (r3.1.1 ≥ 0))
    else
      some false) fun b4 =>
  some ((b4, ()), ())
def g_impl_leads.e : Entry Try.prog := mkEntry Dl [g_impl_NodeCount.e, g_impl_inside.e, g_impl_NextNode.e] (fun n => n == 1) [] hm 133 Try.f133 (by kernel_rfl) (by kernel_rfl) (by kernel_rfl) [.v (.pair (.int .i64) (.int .i64)) true, .v (.int .i64) false] [(false, [.v .bool])] (fun k a => g_impl_leads.m k a.1 a.2.1) (fun k a => by kernel_rfl)
/- 106 loop.example/g00984/impl.MeshOk -/
def g_impl_MeshOk.p0 : LPat := ⟨36, [(1, false, [.p 0 0]), (6, false, [.v (.sl (.int .i64))]), (7, false, [.v (.int .i64)]), (8, false, [.v (.int .i64)])], [some [.v (.int .i64), .v (.int .i64), .v (.sl (.int .i64))]]⟩
def g_impl_MeshOk.F0 (k : Nat)  (rec0 : (List Int) → Int → Int → Int → Int → (List Int) → Option ((Bool × Unit) × Unit)) (t6 : (List Int)) (t7 : Int) (t8 : Int) (b0_0 : Int) (b0_1 : Int) (b0_2 : (List Int)) : Option ((Bool × Unit) × Unit) :=
  bif (decide (t8 < t7)) then
    bif ((decide (0 ≤ t8)) && (decide (t8 < (t6.length : Int)))) then
      Option.bind (
        (g_impl_leads.m k (b0_0, b0_1) (List.getD t6 t8.toNat 0)).bind fun r1 =>
        bif (!r1.1.1) then
          some true
        else
          bif (decide (t8 > 0)) then
            bif ((decide (0 ≤ (w64 (t8 - 1)))) && (decide ((w64 (t8 - 1)) < (b0_2.length : Int)))) then
              some (decide ((List.getD b0_2 (w64 (t8 - 1)).toNat 0) ≥ (List.getD t6 t8.toNat 0)))
            else none
          else
            some false) fun b2 =>
      bif b2 then
        some ((false, ()), ())
      else
        rec0 t6 t7 (w64 (t8 + 1)) b0_0 b0_1 b0_2
    else none
  else
    (g_impl_GridOk.m k (b0_0, b0_1)).bind fun r3 =>
    some ((r3.1.1, ()), ())
def g_impl_MeshOk.L0 (k : Nat)  (j : Nat) (t6 : (List Int)) (t7 : Int) (t8 : Int) (b0_0 : Int) (b0_1 : Int) (b0_2 : (List Int)) : Option ((Bool × Unit) × Unit) :=
  iter (fun (rec : g_impl_MeshOk.p0.den → Option ((Bool × Unit) × Unit)) s => g_impl_MeshOk.F0 k  (fun t6 t7 t8 b0_0 b0_1 b0_2 => rec (((), (t6, ()), (t7, ()), (t8, ()), ()), ((b0_0, b0_1, b0_2, ()), ()))) s.1.2.1.1 s.1.2.2.1.1 s.1.2.2.2.1.1 s.2.1.1 s.2.1.2.1 s.2.1.2.2.1) j (((), (t6, ()), (t7, ()), (t8, ()), ()), ((b0_0, b0_1, b0_2, ()), ()))
theorem g_impl_MeshOk.L0_s (k : Nat)  (j : Nat) (t6 : (List Int)) (t7 : Int) (t8 : Int) (b0_0 : Int) (b0_1 : Int) (b0_2 : (List Int)) : g_impl_MeshOk.L0 k  (j + 1) t6 t7 t8 b0_0 b0_1 b0_2 = g_impl_MeshOk.F0 k  (g_impl_MeshOk.L0 k  j) t6 t7 t8 b0_0 b0_1 b0_2 := rfl
def g_impl_MeshOk.m (k : Nat) (m0_ : (Int × Int) × List Int) : Option ((Bool × Unit) × Unit) :=
  g_impl_MeshOk.L0 k k m0_.2 (m0_.2.length : Int) 0 m0_.1.1 m0_.1.2 m0_.2
def g_impl_MeshOk.e : Entry Try.prog := mkEntry Dl [g_impl_leads.e, g_impl_GridOk.e] (fun n => n == 4) [(2, g_impl_MeshOk.p0)] hm 106 Try.f106 (by kernel_rfl) (by kernel_rfl) (by kernel_rfl) [.v (.pair (.pair (.int .i64) (.int .i64)) (.sl (.int .i64))) true] [(false, [.v .bool])] (fun k a => g_impl_MeshOk.m k a.1) (fun k a => by kernel_rfl)
/- 107 loop.example/g00984/impl.PortAt -/
def g_impl_PortAt.m (k : Nat) (m0_ : (Int × Int) × List Int) (t1_ : List Int) (node2_ : Int) (to3_ : Int) : Option ((Int × Unit) × Unit) :=
  (g_impl_NodeCount.m k m0_.1).bind fun r1 =>
  Option.bind (
    (g_impl_MeshOk.m k m0_).bind fun r2 =>
    bif (!r2.1.1) then
      some true
    else
      (g_impl_inside.m k node2_ 0 (w64 (r1.1.1 - 1))).bind fun r3 =>
      bif (!r3.1.1) then
        some true
      else
        (g_impl_inside.m k to3_ 0 (w64 (r1.1.1 - 1))).bind fun r4 =>
        bif (!r4.1.1) then
          some true
        else
          bif ((t1_.length : Int) != (w64 (r1.1.1 * r1.1.1))) then
            some true
          else
            bif ((decide (0 ≤ (w64 ((w64 (node2_ * r1.1.1)) + to3_)))) && (decide ((w64 ((w64 (node2_ * r1.1.1)) + to3_)) < (t1_.length : Int)))) then
              (g_impl_inside.m k (List.getD t1_ (w64 ((w64 (node2_ * r1.1.1)) + to3_)).toNat 0) 0 4).bind fun r5 =>
              some (!r5.1.1)
            else none) fun b6 =>
  bif b6 then
    some (((-1), ()), ())
  else
    bif ((decide (0 ≤ (w64 ((w64 (node2_ * r1.1.1)) + to3_)))) && (decide ((w64 ((w64 (node2_ * r1.1.1)) + to3_)) < (t1_.length : Int)))) then
      some (((List.getD t1_ (w64 ((w64 (node2_ * r1.1.1)) + to3_)).toNat 0), ()), ())
    else none
def g_impl_PortAt.e : Entry Try.prog := mkEntry Dl [g_impl_NodeCount.e, g_impl_MeshOk.e, g_impl_inside.e] (fun n => n == 2) [] hm 107 Try.f107 (by kernel_rfl) (by kernel_rfl) (by kernel_rfl) [.v (.pair (.pair (.int .i64) (.int .i64)) (.sl (.int .i64))) true, .v (.sl (.int .i64)) true, .v (.int .i64) false, .v (.int .i64) false] [(false, [.v (.int .i64)])] (fun k a => g_impl_PortAt.m k a.1 a.2.1 a.2.2.1 a.2.2.2.1) (fun k a => by kernel_rfl)
/- 127 slices.Index[[]int,int] -/
def g_slices_Index_f127.p0 : LPat := ⟨19, [(0, false, [.v (.sl (.int .i64))]), (1, false, [.v (.int .i64)]), (7, false, [.v (.int .i64)]), (8, false, [.v (.int .i64)])], []⟩
def g_slices_Index_f127.F0 (k : Nat)  (rec0 : (List Int) → Int → Int → Int → Option ((Int × Unit) × Unit)) (s0 : (List Int)) (v1 : Int) (t7 : Int) (t8 : Int) : Option ((Int × Unit) × Unit) :=
  bif (decide (t8 < t7)) then
    bif ((decide (0 ≤ t8)) && (decide (t8 < (s0.length : Int)))) then
      bif (v1 == (List.getD s0 t8.toNat 0)) then
        some ((t8, ()), ())
      else
        rec0 s0 v1 t7 (w64 (t8 + 1))
    else none
  else
    some (((-1), ()), ())
def g_slices_Index_f127.L0 (k : Nat)  (j : Nat) (s0 : (List Int)) (v1 : Int) (t7 : Int) (t8 : Int) : Option ((Int × Unit) × Unit) :=
  iter (fun (rec : g_slices_Index_f127.p0.den → Option ((Int × Unit) × Unit)) s => g_slices_Index_f127.F0 k  (fun s0 v1 t7 t8 => rec (((s0, ()), (v1, ()), (t7, ()), (t8, ()), ()), ())) s.1.1.1 s.1.2.1.1 s.1.2.2.1.1 s.1.2.2.2.1.1) j (((s0, ()), (v1, ()), (t7, ()), (t8, ()), ()), ())
theorem g_slices_Index_f127.L0_s (k : Nat)  (j : Nat) (s0 : (List Int)) (v1 : Int) (t7 : Int) (t8 : Int) : g_slices_Index_f127.L0 k  (j + 1) s0 v1 t7 t8 = g_slices_Index_f127.F0 k  (g_slices_Index_f127.L0 k  j) s0 v1 t7 t8 := rfl
def g_slices_Index_f127.m (k : Nat) (s0_ : List Int) (v1_ : Int) : Option ((Int × Unit) × Unit) :=
  g_slices_Index_f127.L0 k k s0_ v1_ (s0_.length : Int) 0
def g_slices_Index_f127.e : Entry Try.prog := mkEntry Dl [] (fun n => false) [(2, g_slices_Index_f127.p0)] hm 127 Try.f127 (by kernel_rfl) (by kernel_rfl) (by kernel_rfl) [.v (.sl (.int .i64)) false, .v (.int .i64) false] [(false, [.v (.int .i64)])] (fun k a => g_slices_Index_f127.m k a.1 a.2.1) (fun k a => by kernel_rfl)
/- 95 slices.Contains[[]int,int] -/
def g_slices_Contains_f95.m (k : Nat) (s0_ : List Int) (v1_ : Int) : Option ((Bool × Unit) × Unit) :=
  (g_slices_Index_f127.m k s0_ v1_).bind fun r1 =>
  some (((decide (r1.1.1 ≥ 0)), ()), ())
def g_slices_Contains_f95.e : Entry Try.prog := mkEntry Dl [g_slices_Index_f127.e] (fun n => false) [] hm 95 Try.f95 (by kernel_rfl) (by kernel_rfl) (by kernel_rfl) [.v (.sl (.int .i64)) false, .v (.int .i64) false] [(false, [.v .bool])] (fun k a => g_slices_Contains_f95.m k a.1 a.2.1) (fun k a => by kernel_rfl)
/- 108 loop.example/g00984/impl.HasChannel -/
def g_impl_HasChannel.m (k : Nat) (m0_ : (Int × Int) × List Int) (channel1_ : Int) : Option ((Bool × Unit) × Unit) :=
  Option.bind (
    (g_impl_MeshOk.m k m0_).bind fun r1 =>
    bif r1.1.1 then
      (g_impl_leads.m k m0_.1 channel1_).bind fun r2 =>
      bif r2.1.1 then
        (g_slices_Contains_f95.m k m0_.2 channel1_).bind fun r3 =>
        some (!r3.1.1)
      else
        some false
    else
      some false) fun b4 =>
  some ((b4, ()), ())
def g_impl_HasChannel.e : Entry Try.prog := mkEntry Dl [g_impl_MeshOk.e, g_impl_leads.e, g_slices_Contains_f95.e] (fun n => n == 1) [] hm 108 Try.f108 (by kernel_rfl) (by kernel_rfl) (by kernel_rfl) [.v (.pair (.pair (.int .i64) (.int .i64)) (.sl (.int .i64))) true, .v (.int .i64) false] [(false, [.v .bool])] (fun k a => g_impl_HasChannel.m k a.1 a.2.1) (fun k a => by kernel_rfl)
/- 109 loop.example/g00984/impl.endOf -/
def g_impl_endOf.m (k : Nat) (m0_ : (Int × Int) × List Int) (channel1_ : Int) : Option ((Int × Unit) × Unit) :=
  (g_impl_NextNode.m k m0_.1 (w64 (Int.tdiv channel1_ 4)) (Int.tmod channel1_ 4)).bind fun r1 =>
  some ((r1.1.1, ()), ())
def g_impl_endOf.e : Entry Try.prog := mkEntry Dl [g_impl_NextNode.e] (fun n => false) [] hm 109 Try.f109 (by kernel_rfl) (by kernel_rfl) (by kernel_rfl) [.v (.pair (.pair (.int .i64) (.int .i64)) (.sl (.int .i64))) true, .v (.int .i64) false] [(false, [.v (.int .i64)])] (fun k a => g_impl_endOf.m k a.1 a.2.1) (fun k a => by kernel_rfl)
/- 60 loop.example/g00984/impl.WalkTable -/
def g_impl_WalkTable.p0 : LPat := ⟨80, [(3, false, [.v (.int .i64)]), (4, false, [.p 0 0]), (5, false, [.p 1 0]), (9, false, [.o 3 (.int .i64)]), (10, false, [.v (.int .i64)])], [some [.v (.int .i64), .v (.int .i64), .v (.sl (.int .i64))], some [.v (.sl (.int .i64))]]⟩
def g_impl_WalkTable.F0 (k : Nat)  (rec0 : Int → (List Int) → Int → Int → Int → (List Int) → (List Int) → Option (((List Int) × Unit) × Unit)) (to3 : Int) (out9 : (List Int)) (node10 : Int) (b0_0 : Int) (b0_1 : Int) (b0_2 : (List Int)) (b1_0 : (List Int)) : Option (((List Int) × Unit) × Unit) :=
  (g_impl_PortAt.m k ((b0_0, b0_1), b0_2) b1_0 node10 to3).bind fun r5 =>
  bif (decide (r5.1.1 < 0)) then
    some ((([] : List Int), ()), ())
  else
    bif (r5.1.1 == 4) then
      bif (node10 != to3) then
        some ((([] : List Int), ()), ())
      else
        some ((out9, ()), ())
    else
      Option.bind (
        (g_impl_HasChannel.m k ((b0_0, b0_1), b0_2) (w64 ((w64 (4 * node10)) + r5.1.1))).bind fun r6 =>
        bif (!r6.1.1) then
          some true
        else
          (g_impl_NodeCount.m k (b0_0, b0_1)).bind fun r7 =>
          some ((out9.length : Int) == r7.1.1)) fun b8 =>
      bif b8 then
        some ((([] : List Int), ()), ())
      else
        bif (Nat.ble (((List.length out9) + 1) * 8) 140737488355328) then
          (g_impl_endOf.m k ((b0_0, b0_1), b0_2) (w64 ((w64 (4 * node10)) + r5.1.1))).bind fun r9 =>
          rec0 to3 (out9 ++ [(w64 ((w64 (4 * node10)) + r5.1.1))]) r9.1.1 b0_0 b0_1 b0_2 b1_0
        else none
def g_impl_WalkTable.L0 (k : Nat)  (j : Nat) (to3 : Int) (out9 : (List Int)) (node10 : Int) (b0_0 : Int) (b0_1 : Int) (b0_2 : (List Int)) (b1_0 : (List Int)) : Option (((List Int) × Unit) × Unit) :=
  iter (fun (rec : g_impl_WalkTable.p0.den → Option (((List Int) × Unit) × Unit)) s => g_impl_WalkTable.F0 k  (fun to3 out9 node10 b0_0 b0_1 b0_2 b1_0 => rec (((to3, ()), (), (), (out9, ()), (node10, ()), ()), ((b0_0, b0_1, b0_2, ()), (b1_0, ()), ()))) s.1.1.1 s.1.2.2.2.1.1 s.1.2.2.2.2.1.1 s.2.1.1 s.2.1.2.1 s.2.1.2.2.1 s.2.2.1.1) j (((to3, ()), (), (), (out9, ()), (node10, ()), ()), ((b0_0, b0_1, b0_2, ()), (b1_0, ()), ()))
theorem g_impl_WalkTable.L0_s (k : Nat)  (j : Nat) (to3 : Int) (out9 : (List Int)) (node10 : Int) (b0_0 : Int) (b0_1 : Int) (b0_2 : (List Int)) (b1_0 : (List Int)) : g_impl_WalkTable.L0 k  (j + 1) to3 out9 node10 b0_0 b0_1 b0_2 b1_0 = g_impl_WalkTable.F0 k  (g_impl_WalkTable.L0 k  j) to3 out9 node10 b0_0 b0_1 b0_2 b1_0 := rfl
def g_impl_WalkTable.m (k : Nat) (m0_ : (Int × Int) × List Int) (t1_ : List Int) (from2_ : Int) (to3_ : Int) : Option (((List Int) × Unit) × Unit) :=
  Option.bind (
    bif (from2_ == to3_) then
      some true
    else
      (g_impl_MeshOk.m k m0_).bind fun r1 =>
      bif (!r1.1.1) then
        some true
      else
        (g_impl_isNode.m k m0_.1 from2_).bind fun r2 =>
        bif (!r2.1.1) then
          some true
        else
          (g_impl_isNode.m k m0_.1 to3_).bind fun r3 =>
          some (!r3.1.1)) fun b4 =>
  bif b4 then
    some ((([] : List Int), ()), ())
  else
    g_impl_WalkTable.L0 k k to3_ ([] : List Int) from2_ m0_.1.1 m0_.1.2 m0_.2 t1_
def g_impl_WalkTable.e : Entry Try.prog := mkEntry Dl [g_impl_MeshOk.e, g_impl_isNode.e, g_impl_PortAt.e, g_impl_HasChannel.e, g_impl_NodeCount.e, g_impl_endOf.e] (fun n => n == 1 || n == 11) [(4, g_impl_WalkTable.p0)] hm 60 Try.f60 (by kernel_rfl) (by kernel_rfl) (by kernel_rfl) [.v (.pair (.pair (.int .i64) (.int .i64)) (.sl (.int .i64))) true, .v (.sl (.int .i64)) true, .v (.int .i64) false, .v (.int .i64) false] [(false, [.o 3 (.int .i64)])] (fun k a => g_impl_WalkTable.m k a.1 a.2.1 a.2.2.1 a.2.2.2.1) (fun k a => by kernel_rfl)
/- 131 loop.example/g00984/impl.TableOk$1 -/
def g_impl_TableOk_1_f131.m (k : Nat) (from0_ : Int) (to1_ : Int) (t2_ : (Int × Int) × List Int) (t3_ : List Int) : Option ((Bool × Unit) × Unit) :=
  (g_impl_WalkTable.m k t2_ t3_ from0_ to1_).bind fun r1 =>
  some (((decide ((r1.1.1.length : Int) > 0)), ()), ())
def g_impl_TableOk_1_f131.e : Entry Try.prog := mkEntry Dl [g_impl_WalkTable.e] (fun n => false) [] hm 131 Try.f131 (by kernel_rfl) (by kernel_rfl) (by kernel_rfl) [.v (.int .i64) false, .v (.int .i64) false, .tp (.pair (.pair (.int .i64) (.int .i64)) (.sl (.int .i64))), .tp (.sl (.int .i64))] [(false, [.v .bool])] (fun k a => g_impl_TableOk_1_f131.m k a.1 a.2.1 a.2.2.1 a.2.2.2.1) (fun k a => by kernel_rfl)
/- 58 loop.example/g00984/impl.pairs -/
def g_impl_pairs.p1 : LPat := ⟨30, [(1, false, [.f 131 [.tp (.pair (.pair (.int .i64) (.int .i64)) (.sl (.int .i64))), .tp (.sl (.int .i64))]]), (5, false, [.v (.int .i64)]), (6, false, [.v (.int .i64)]), (10, false, [.v (.int .i64)]), (11, false, [.v (.int .i64)]), (14, false, [.v (.int .i64)]), (15, false, [.v (.int .i64)])], []⟩
def g_impl_pairs.p0 : LPat := ⟨30, [(1, false, [.f 131 [.tp (.pair (.pair (.int .i64) (.int .i64)) (.sl (.int .i64))), .tp (.sl (.int .i64))]]), (5, false, [.v (.int .i64)]), (10, false, [.v (.int .i64)]), (11, false, [.v (.int .i64)])], []⟩
def g_impl_pairs.F1 (k : Nat) (rec0 : (((Int × Int) × List Int) × (List Int) × Unit) → Int → Int → Int → Option ((Bool × Unit) × Unit)) (rec1 : (((Int × Int) × List Int) × (List Int) × Unit) → Int → Int → Int → Int → Int → Int → Option ((Bool × Unit) × Unit)) (visit1' : (((Int × Int) × List Int) × (List Int) × Unit)) (n5' : Int) (from6' : Int) (t10' : Int) (t11' : Int) (t14' : Int) (t15' : Int) : Option ((Bool × Unit) × Unit) :=
  bif (decide (t15' < t14')) then
    Option.bind (
      bif (from6' != t15') then
        (g_impl_TableOk_1_f131.m k from6' t15' visit1'.1 visit1'.2.1).bind fun r2 =>
        some (!r2.1.1)
      else
        some false) fun b3 =>
    bif b3 then
      some ((false, ()), ())
    else
      rec1 (visit1'.1, (visit1'.2.1, ())) n5' from6' t10' t11' t14' (w64 (t15' + 1))
  else
    rec0 (visit1'.1, (visit1'.2.1, ())) n5' t10' (w64 (t11' + 1))
def g_impl_pairs.L1 (k : Nat) (rec0 : (((Int × Int) × List Int) × (List Int) × Unit) → Int → Int → Int → Option ((Bool × Unit) × Unit)) (j : Nat) (visit1' : (((Int × Int) × List Int) × (List Int) × Unit)) (n5' : Int) (from6' : Int) (t10' : Int) (t11' : Int) (t14' : Int) (t15' : Int) : Option ((Bool × Unit) × Unit) :=
  iter (fun (rec : g_impl_pairs.p1.den → Option ((Bool × Unit) × Unit)) s => g_impl_pairs.F1 k rec0 (fun visit1' n5' from6' t10' t11' t14' t15' => rec (((visit1', ()), (n5', ()), (from6', ()), (t10', ()), (t11', ()), (t14', ()), (t15', ()), ()), ())) s.1.1.1 s.1.2.1.1 s.1.2.2.1.1 s.1.2.2.2.1.1 s.1.2.2.2.2.1.1 s.1.2.2.2.2.2.1.1 s.1.2.2.2.2.2.2.1.1) j (((visit1', ()), (n5', ()), (from6', ()), (t10', ()), (t11', ()), (t14', ()), (t15', ()), ()), ())
def g_impl_pairs.F0 (k : Nat)  (rec0 : (((Int × Int) × List Int) × (List Int) × Unit) → Int → Int → Int → Option ((Bool × Unit) × Unit)) (visit1 : (((Int × Int) × List Int) × (List Int) × Unit)) (n5 : Int) (t10 : Int) (t11 : Int) : Option ((Bool × Unit) × Unit) :=
  bif (decide (t11 < t10)) then
    g_impl_pairs.L1 k rec0 k (visit1.1, (visit1.2.1, ())) n5 t11 t10 t11 n5 0
  else
    some ((true, ()), ())
def g_impl_pairs.L0 (k : Nat)  (j : Nat) (visit1 : (((Int × Int) × List Int) × (List Int) × Unit)) (n5 : Int) (t10 : Int) (t11 : Int) : Option ((Bool × Unit) × Unit) :=
  iter (fun (rec : g_impl_pairs.p0.den → Option ((Bool × Unit) × Unit)) s => g_impl_pairs.F0 k  (fun visit1 n5 t10 t11 => rec (((visit1, ()), (n5, ()), (t10, ()), (t11, ()), ()), ())) s.1.1.1 s.1.2.1.1 s.1.2.2.1.1 s.1.2.2.2.1.1) j (((visit1, ()), (n5, ()), (t10, ()), (t11, ()), ()), ())
theorem g_impl_pairs.L1_s (k : Nat) (rec0 : (((Int × Int) × List Int) × (List Int) × Unit) → Int → Int → Int → Option ((Bool × Unit) × Unit)) (j : Nat) (visit1' : (((Int × Int) × List Int) × (List Int) × Unit)) (n5' : Int) (from6' : Int) (t10' : Int) (t11' : Int) (t14' : Int) (t15' : Int) : g_impl_pairs.L1 k rec0 (j + 1) visit1' n5' from6' t10' t11' t14' t15' = g_impl_pairs.F1 k rec0 (g_impl_pairs.L1 k rec0 j) visit1' n5' from6' t10' t11' t14' t15' := rfl
theorem g_impl_pairs.L0_s (k : Nat)  (j : Nat) (visit1 : (((Int × Int) × List Int) × (List Int) × Unit)) (n5 : Int) (t10 : Int) (t11 : Int) : g_impl_pairs.L0 k  (j + 1) visit1 n5 t10 t11 = g_impl_pairs.F0 k  (g_impl_pairs.L0 k  j) visit1 n5 t10 t11 := rfl
def g_impl_pairs.m (k : Nat) (g0_ : Int × Int) (visit1_ : ((Int × Int) × List Int) × (List Int) × Unit) : Option ((Bool × Unit) × Unit) :=
  (g_impl_NodeCount.m k g0_).bind fun r1 =>
  g_impl_pairs.L0 k k (visit1_.1, (visit1_.2.1, ())) r1.1.1 r1.1.1 0
def g_impl_pairs.e : Entry Try.prog := mkEntry Dl [g_impl_NodeCount.e, g_impl_TableOk_1_f131.e] (fun n => n == 8) [(6, g_impl_pairs.p1), (3, g_impl_pairs.p0)] hm 58 Try.f58 (by kernel_rfl) (by kernel_rfl) (by kernel_rfl) [.v (.pair (.int .i64) (.int .i64)) true, .f 131 [.tp (.pair (.pair (.int .i64) (.int .i64)) (.sl (.int .i64))), .tp (.sl (.int .i64))]] [(false, [.v .bool])] (fun k a => g_impl_pairs.m k a.1 a.2.1) (fun k a => by kernel_rfl)
/- 102 loop.example/g00984/impl.TableOk -/
def g_impl_TableOk.p0 : LPat := ⟨41, [(2, false, [.p 0 0]), (3, false, [.p 1 0]), (5, false, [.v (.int .i64)]), (22, false, [.v (.int .i64)]), (23, false, [.v (.int .i64)])], [some [.v (.int .i64), .v (.int .i64), .v (.sl (.int .i64))], some [.v (.sl (.int .i64))]]⟩
def g_impl_TableOk.F0 (k : Nat)  (rec0 : Int → Int → Int → Int → Int → (List Int) → (List Int) → Option ((Bool × Unit) × Unit)) (n5 : Int) (t22 : Int) (t23 : Int) (b0_0 : Int) (b0_1 : Int) (b0_2 : (List Int)) (b1_0 : (List Int)) : Option ((Bool × Unit) × Unit) :=
  bif (decide (t23 < t22)) then
    bif ((decide (0 ≤ (w64 ((w64 (t23 * n5)) + t23)))) && (decide ((w64 ((w64 (t23 * n5)) + t23)) < (b1_0.length : Int)))) then
      bif ((List.getD b1_0 (w64 ((w64 (t23 * n5)) + t23)).toNat 0) != 4) then
        some ((false, ()), ())
      else
        rec0 n5 t22 (w64 (t23 + 1)) b0_0 b0_1 b0_2 b1_0
    else none
  else
    (g_impl_pairs.m k (b0_0, b0_1) (((b0_0, b0_1), b0_2), (b1_0, ()))).bind fun r4 =>
    some ((r4.1.1, ()), ())
def g_impl_TableOk.L0 (k : Nat)  (j : Nat) (n5 : Int) (t22 : Int) (t23 : Int) (b0_0 : Int) (b0_1 : Int) (b0_2 : (List Int)) (b1_0 : (List Int)) : Option ((Bool × Unit) × Unit) :=
  iter (fun (rec : g_impl_TableOk.p0.den → Option ((Bool × Unit) × Unit)) s => g_impl_TableOk.F0 k  (fun n5 t22 t23 b0_0 b0_1 b0_2 b1_0 => rec (((), (), (n5, ()), (t22, ()), (t23, ()), ()), ((b0_0, b0_1, b0_2, ()), (b1_0, ()), ()))) s.1.2.2.1.1 s.1.2.2.2.1.1 s.1.2.2.2.2.1.1 s.2.1.1 s.2.1.2.1 s.2.1.2.2.1 s.2.2.1.1) j (((), (), (n5, ()), (t22, ()), (t23, ()), ()), ((b0_0, b0_1, b0_2, ()), (b1_0, ()), ()))
theorem g_impl_TableOk.L0_s (k : Nat)  (j : Nat) (n5 : Int) (t22 : Int) (t23 : Int) (b0_0 : Int) (b0_1 : Int) (b0_2 : (List Int)) (b1_0 : (List Int)) : g_impl_TableOk.L0 k  (j + 1) n5 t22 t23 b0_0 b0_1 b0_2 b1_0 = g_impl_TableOk.F0 k  (g_impl_TableOk.L0 k  j) n5 t22 t23 b0_0 b0_1 b0_2 b1_0 := rfl
def g_impl_TableOk.m (k : Nat) (m0_ : (Int × Int) × List Int) (t1_ : List Int) : Option ((Bool × Unit) × Unit) :=
  (g_impl_NodeCount.m k m0_.1).bind fun r1 =>
  Option.bind (
    (g_impl_MeshOk.m k m0_).bind fun r2 =>
    bif (!r2.1.1) then
      some true
    else
      some ((t1_.length : Int) != (w64 (r1.1.1 * r1.1.1)))) fun b3 =>
  bif b3 then
    some ((false, ()), ())
  else
    g_impl_TableOk.L0 k k r1.1.1 r1.1.1 0 m0_.1.1 m0_.1.2 m0_.2 t1_
def g_impl_TableOk.e : Entry Try.prog := mkEntry Dl [g_impl_NodeCount.e, g_impl_MeshOk.e, g_impl_pairs.e] (fun n => n == 2) [(5, g_impl_TableOk.p0)] hm 102 Try.f102 (by kernel_rfl) (by kernel_rfl) (by kernel_rfl) [.v (.pair (.pair (.int .i64) (.int .i64)) (.sl (.int .i64))) true, .v (.sl (.int .i64)) true] [(false, [.v .bool])] (fun k a => g_impl_TableOk.m k a.1 a.2.1) (fun k a => by kernel_rfl)
/- 55 loop.example/g00984/impl.ClassesOk -/
def g_impl_ClassesOk.m (k : Nat) (m0_ : (Int × Int) × List Int) (t1_ : (List Int) × List Int) : Option ((Bool × Unit) × Unit) :=
  Option.bind (
    (g_impl_TableOk.m k m0_ t1_.1).bind fun r1 =>
    bif r1.1.1 then
      (g_impl_TableOk.m k m0_ t1_.2).bind fun r2 =>
      some r2.1.1
    else
      some false) fun b3 =>
  some ((b3, ()), ())
def g_impl_ClassesOk.e : Entry Try.prog := mkEntry Dl [g_impl_TableOk.e] (fun n => n == 1) [] hm 55 Try.f55 (by kernel_rfl) (by kernel_rfl) (by kernel_rfl) [.v (.pair (.pair (.int .i64) (.int .i64)) (.sl (.int .i64))) true, .v (.pair (.sl (.int .i64)) (.sl (.int .i64))) true] [(false, [.v .bool])] (fun k a => g_impl_ClassesOk.m k a.1 a.2.1) (fun k a => by kernel_rfl)
/- 81 loop.example/g00984/impl.ClassOnly -/
def g_impl_ClassOnly.p0 : LPat := ⟨25, [(1, false, [.v (.int .i64)]), (5, false, [.o 110 (.pair (.int .i64) (.pair (.int .i64) (.pair (.int .i64) (.pair .bool .bool))))]), (9, false, [.v (.sl (.pair (.int .i64) (.pair (.int .i64) (.pair (.int .i64) (.pair .bool .bool)))))]), (10, false, [.v (.int .i64)]), (11, false, [.v (.int .i64)])], []⟩
def g_impl_ClassOnly.F0 (k : Nat)  (rec0 : Int → (List (Int × Int × Int × Bool × Bool)) → (List (Int × Int × Int × Bool × Bool)) → Int → Int → Option (((List (Int × Int × Int × Bool × Bool)) × Unit) × Unit)) (class1 : Int) (out5 : (List (Int × Int × Int × Bool × Bool))) (t9 : (List (Int × Int × Int × Bool × Bool))) (t10 : Int) (t11 : Int) : Option (((List (Int × Int × Int × Bool × Bool)) × Unit) × Unit) :=
  bif (decide (t11 < t10)) then
    bif ((decide (0 ≤ t11)) && (decide (t11 < (t9.length : Int)))) then
      bif ((List.getD t9 t11.toNat ((0), ((0), ((0), (false, false))))).2.2.1 == class1) then
        bif (Nat.ble (((List.length out5) + 1) * 32) 140737488355328) then
          rec0 class1 (out5 ++ [(List.getD t9 t11.toNat ((0), ((0), ((0), (false, false)))))]) t9 t10 (w64 (t11 + 1))
        else none
      else
        rec0 class1 out5 t9 t10 (w64 (t11 + 1))
    else none
  else
    some ((out5, ()), ())
def g_impl_ClassOnly.L0 (k : Nat)  (j : Nat) (class1 : Int) (out5 : (List (Int × Int × Int × Bool × Bool))) (t9 : (List (Int × Int × Int × Bool × Bool))) (t10 : Int) (t11 : Int) : Option (((List (Int × Int × Int × Bool × Bool)) × Unit) × Unit) :=
  iter (fun (rec : g_impl_ClassOnly.p0.den → Option (((List (Int × Int × Int × Bool × Bool)) × Unit) × Unit)) s => g_impl_ClassOnly.F0 k  (fun class1 out5 t9 t10 t11 => rec (((class1, ()), (out5, ()), (t9, ()), (t10, ()), (t11, ()), ()), ())) s.1.1.1 s.1.2.1.1 s.1.2.2.1.1 s.1.2.2.2.1.1 s.1.2.2.2.2.1.1) j (((class1, ()), (out5, ()), (t9, ()), (t10, ()), (t11, ()), ()), ())
theorem g_impl_ClassOnly.L0_s (k : Nat)  (j : Nat) (class1 : Int) (out5 : (List (Int × Int × Int × Bool × Bool))) (t9 : (List (Int × Int × Int × Bool × Bool))) (t10 : Int) (t11 : Int) : g_impl_ClassOnly.L0 k  (j + 1) class1 out5 t9 t10 t11 = g_impl_ClassOnly.F0 k  (g_impl_ClassOnly.L0 k  j) class1 out5 t9 t10 t11 := rfl
def g_impl_ClassOnly.m (k : Nat) (list0_ : List (Int × Int × Int × Bool × Bool)) (class1_ : Int) : Option (((List (Int × Int × Int × Bool × Bool)) × Unit) × Unit) :=
  g_impl_ClassOnly.L0 k k class1_ ([] : List (Int × Int × Int × Bool × Bool)) list0_ (list0_.length : Int) 0
def g_impl_ClassOnly.e : Entry Try.prog := mkEntry Dl [] (fun n => false) [(3, g_impl_ClassOnly.p0)] hm 81 Try.f81 (by kernel_rfl) (by kernel_rfl) (by kernel_rfl) [.v (.sl (.pair (.int .i64) (.pair (.int .i64) (.pair (.int .i64) (.pair .bool .bool))))) false, .v (.int .i64) false] [(false, [.o 110 (.pair (.int .i64) (.pair (.int .i64) (.pair (.int .i64) (.pair .bool .bool))))])] (fun k a => g_impl_ClassOnly.m k a.1 a.2.1) (fun k a => by kernel_rfl)
/- 82 loop.example/g00984/impl.areFlits -/
def g_impl_areFlits.p0 : LPat := ⟨25, [(2, false, [.p 0 0]), (7, false, [.v (.sl (.pair (.int .i64) (.pair (.int .i64) (.pair (.int .i64) (.pair .bool .bool)))))]), (8, false, [.v (.int .i64)]), (9, false, [.v (.int .i64)])], [some [.v (.int .i64), .v (.int .i64)]]⟩
def g_impl_areFlits.F0 (k : Nat)  (rec0 : (List (Int × Int × Int × Bool × Bool)) → Int → Int → Int → Int → Option ((Bool × Unit) × Unit)) (t7 : (List (Int × Int × Int × Bool × Bool))) (t8 : Int) (t9 : Int) (b0_0 : Int) (b0_1 : Int) : Option ((Bool × Unit) × Unit) :=
  bif (decide (t9 < t8)) then
    bif ((decide (0 ≤ t9)) && (decide (t9 < (t7.length : Int)))) then
      Option.bind (
        (g_impl_isNode.m k (b0_0, b0_1) (List.getD t7 t9.toNat ((0), ((0), ((0), (false, false))))).2.1).bind fun r1 =>
        bif (!r1.1.1) then
          some true
        else
          (g_impl_inside.m k (List.getD t7 t9.toNat ((0), ((0), ((0), (false, false))))).2.2.1 0 1).bind fun r2 =>
          some (!r2.1.1)) fun b3 =>
      bif b3 then
        some ((false, ()), ())
      else
        rec0 t7 t8 (w64 (t9 + 1)) b0_0 b0_1
    else none
  else
    some ((true, ()), ())
def g_impl_areFlits.L0 (k : Nat)  (j : Nat) (t7 : (List (Int × Int × Int × Bool × Bool))) (t8 : Int) (t9 : Int) (b0_0 : Int) (b0_1 : Int) : Option ((Bool × Unit) × Unit) :=
  iter (fun (rec : g_impl_areFlits.p0.den → Option ((Bool × Unit) × Unit)) s => g_impl_areFlits.F0 k  (fun t7 t8 t9 b0_0 b0_1 => rec (((), (t7, ()), (t8, ()), (t9, ()), ()), ((b0_0, b0_1, ()), ()))) s.1.2.1.1 s.1.2.2.1.1 s.1.2.2.2.1.1 s.2.1.1 s.2.1.2.1) j (((), (t7, ()), (t8, ()), (t9, ()), ()), ((b0_0, b0_1, ()), ()))
theorem g_impl_areFlits.L0_s (k : Nat)  (j : Nat) (t7 : (List (Int × Int × Int × Bool × Bool))) (t8 : Int) (t9 : Int) (b0_0 : Int) (b0_1 : Int) : g_impl_areFlits.L0 k  (j + 1) t7 t8 t9 b0_0 b0_1 = g_impl_areFlits.F0 k  (g_impl_areFlits.L0 k  j) t7 t8 t9 b0_0 b0_1 := rfl
def g_impl_areFlits.m (k : Nat) (g0_ : Int × Int) (list1_ : List (Int × Int × Int × Bool × Bool)) : Option ((Bool × Unit) × Unit) :=
  g_impl_areFlits.L0 k k list1_ (list1_.length : Int) 0 g0_.1 g0_.2
def g_impl_areFlits.e : Entry Try.prog := mkEntry Dl [g_impl_isNode.e, g_impl_inside.e] (fun n => n == 4) [(2, g_impl_areFlits.p0)] hm 82 Try.f82 (by kernel_rfl) (by kernel_rfl) (by kernel_rfl) [.v (.pair (.int .i64) (.int .i64)) true, .v (.sl (.pair (.int .i64) (.pair (.int .i64) (.pair (.int .i64) (.pair .bool .bool))))) false] [(false, [.v .bool])] (fun k a => g_impl_areFlits.m k a.1 a.2.1) (fun k a => by kernel_rfl)
/- 83 loop.example/g00984/impl.areInside -/
def g_impl_areInside.p0 : LPat := ⟨21, [(1, false, [.v (.int .i64)]), (2, false, [.v (.int .i64)]), (9, false, [.v (.sl (.int .i64))]), (10, false, [.v (.int .i64)]), (11, false, [.v (.int .i64)])], []⟩
def g_impl_areInside.F0 (k : Nat)  (rec0 : Int → Int → (List Int) → Int → Int → Option ((Bool × Unit) × Unit)) (low1 : Int) (high2 : Int) (t9 : (List Int)) (t10 : Int) (t11 : Int) : Option ((Bool × Unit) × Unit) :=
  bif (decide (t11 < t10)) then
    bif ((decide (0 ≤ t11)) && (decide (t11 < (t9.length : Int)))) then
      (g_impl_inside.m k (List.getD t9 t11.toNat 0) low1 high2).bind fun r1 =>
      bif (!r1.1.1) then
        some ((false, ()), ())
      else
        rec0 low1 high2 t9 t10 (w64 (t11 + 1))
    else none
  else
    some ((true, ()), ())
def g_impl_areInside.L0 (k : Nat)  (j : Nat) (low1 : Int) (high2 : Int) (t9 : (List Int)) (t10 : Int) (t11 : Int) : Option ((Bool × Unit) × Unit) :=
  iter (fun (rec : g_impl_areInside.p0.den → Option ((Bool × Unit) × Unit)) s => g_impl_areInside.F0 k  (fun low1 high2 t9 t10 t11 => rec (((low1, ()), (high2, ()), (t9, ()), (t10, ()), (t11, ()), ()), ())) s.1.1.1 s.1.2.1.1 s.1.2.2.1.1 s.1.2.2.2.1.1 s.1.2.2.2.2.1.1) j (((low1, ()), (high2, ()), (t9, ()), (t10, ()), (t11, ()), ()), ())
theorem g_impl_areInside.L0_s (k : Nat)  (j : Nat) (low1 : Int) (high2 : Int) (t9 : (List Int)) (t10 : Int) (t11 : Int) : g_impl_areInside.L0 k  (j + 1) low1 high2 t9 t10 t11 = g_impl_areInside.F0 k  (g_impl_areInside.L0 k  j) low1 high2 t9 t10 t11 := rfl
def g_impl_areInside.m (k : Nat) (list0_ : List Int) (low1_ : Int) (high2_ : Int) : Option ((Bool × Unit) × Unit) :=
  g_impl_areInside.L0 k k low1_ high2_ list0_ (list0_.length : Int) 0
def g_impl_areInside.e : Entry Try.prog := mkEntry Dl [g_impl_inside.e] (fun n => false) [(2, g_impl_areInside.p0)] hm 83 Try.f83 (by kernel_rfl) (by kernel_rfl) (by kernel_rfl) [.v (.sl (.int .i64)) false, .v (.int .i64) false, .v (.int .i64) false] [(false, [.v .bool])] (fun k a => g_impl_areInside.m k a.1 a.2.1 a.2.2.1) (fun k a => by kernel_rfl)
/- 36 loop.example/g00984/impl.NetOk -/
def g_impl_NetOk.p1 : LPat := ⟨118, [(1, false, [.p 0 0]), (87, false, [.v (.sl (.sl (.pair (.int .i64) (.pair (.int .i64) (.pair (.int .i64) (.pair .bool .bool))))))]), (88, false, [.v (.int .i64)]), (89, false, [.v (.int .i64)])], [some [.v (.int .i64), .v (.int .i64), .v (.sl (.int .i64)), .v (.sl (.int .i64)), .v (.sl (.int .i64)), .v (.sl (.sl (.pair (.int .i64) (.pair (.int .i64) (.pair (.int .i64) (.pair .bool .bool)))))), .v (.sl (.int .i64)), .v (.sl (.int .i64)), .v (.sl (.sl (.pair (.int .i64) (.pair (.int .i64) (.pair (.int .i64) (.pair .bool .bool)))))), .v (.sl (.sl (.pair (.int .i64) (.pair (.int .i64) (.pair (.int .i64) (.pair .bool .bool)))))), .v (.int .i64)]]⟩
def g_impl_NetOk.p0 : LPat := ⟨118, [(1, false, [.p 0 0]), (57, false, [.v (.sl (.sl (.pair (.int .i64) (.pair (.int .i64) (.pair (.int .i64) (.pair .bool .bool))))))]), (58, false, [.v (.int .i64)]), (59, false, [.v (.int .i64)])], [some [.v (.int .i64), .v (.int .i64), .v (.sl (.int .i64)), .v (.sl (.int .i64)), .v (.sl (.int .i64)), .v (.sl (.sl (.pair (.int .i64) (.pair (.int .i64) (.pair (.int .i64) (.pair .bool .bool)))))), .v (.sl (.int .i64)), .v (.sl (.int .i64)), .v (.sl (.sl (.pair (.int .i64) (.pair (.int .i64) (.pair (.int .i64) (.pair .bool .bool)))))), .v (.sl (.sl (.pair (.int .i64) (.pair (.int .i64) (.pair (.int .i64) (.pair .bool .bool)))))), .v (.int .i64)]]⟩
def g_impl_NetOk.F1 (k : Nat)  (rec1 : (List (List (Int × Int × Int × Bool × Bool))) → Int → Int → Int → Int → (List Int) → (List Int) → (List Int) → (List (List (Int × Int × Int × Bool × Bool))) → (List Int) → (List Int) → (List (List (Int × Int × Int × Bool × Bool))) → (List (List (Int × Int × Int × Bool × Bool))) → Int → Option ((Bool × Unit) × Unit)) (t87 : (List (List (Int × Int × Int × Bool × Bool)))) (t88 : Int) (t89 : Int) (b0_0 : Int) (b0_1 : Int) (b0_2 : (List Int)) (b0_3 : (List Int)) (b0_4 : (List Int)) (b0_5 : (List (List (Int × Int × Int × Bool × Bool)))) (b0_6 : (List Int)) (b0_7 : (List Int)) (b0_8 : (List (List (Int × Int × Int × Bool × Bool)))) (b0_9 : (List (List (Int × Int × Int × Bool × Bool)))) (b0_10 : Int) : Option ((Bool × Unit) × Unit) :=
  bif (decide (t89 < t88)) then
    bif ((decide (0 ≤ t89)) && (decide (t89 < (t87.length : Int)))) then
      Option.bind (
        bif (decide (((List.getD t87 t89.toNat ([] : List (Int × Int × Int × Bool × Bool))).length : Int) > 60)) then
          some true
        else
          (g_impl_areFlits.m k (b0_0, b0_1) (List.getD t87 t89.toNat ([] : List (Int × Int × Int × Bool × Bool)))).bind fun r6 =>
          some (!r6.1.1)) fun b7 =>
      bif b7 then
        some ((false, ()), ())
      else
        rec1 t87 t88 (w64 (t89 + 1)) b0_0 b0_1 b0_2 b0_3 b0_4 b0_5 b0_6 b0_7 b0_8 b0_9 b0_10
    else none
  else
    Option.bind (
      (g_impl_areInside.m k b0_6 (-1) 4).bind fun r8 =>
      bif r8.1.1 then
        (g_impl_areInside.m k b0_7 0 9).bind fun r9 =>
        bif r9.1.1 then
          (g_impl_inside.m k b0_10 0 1000000).bind fun r10 =>
          some r10.1.1
        else
          some false
      else
        some false) fun b11 =>
    some ((b11, ()), ())
def g_impl_NetOk.L1 (k : Nat)  (j : Nat) (t87 : (List (List (Int × Int × Int × Bool × Bool)))) (t88 : Int) (t89 : Int) (b0_0 : Int) (b0_1 : Int) (b0_2 : (List Int)) (b0_3 : (List Int)) (b0_4 : (List Int)) (b0_5 : (List (List (Int × Int × Int × Bool × Bool)))) (b0_6 : (List Int)) (b0_7 : (List Int)) (b0_8 : (List (List (Int × Int × Int × Bool × Bool)))) (b0_9 : (List (List (Int × Int × Int × Bool × Bool)))) (b0_10 : Int) : Option ((Bool × Unit) × Unit) :=
  iter (fun (rec : g_impl_NetOk.p1.den → Option ((Bool × Unit) × Unit)) s => g_impl_NetOk.F1 k  (fun t87 t88 t89 b0_0 b0_1 b0_2 b0_3 b0_4 b0_5 b0_6 b0_7 b0_8 b0_9 b0_10 => rec (((), (t87, ()), (t88, ()), (t89, ()), ()), ((b0_0, b0_1, b0_2, b0_3, b0_4, b0_5, b0_6, b0_7, b0_8, b0_9, b0_10, ()), ()))) s.1.2.1.1 s.1.2.2.1.1 s.1.2.2.2.1.1 s.2.1.1 s.2.1.2.1 s.2.1.2.2.1 s.2.1.2.2.2.1 s.2.1.2.2.2.2.1 s.2.1.2.2.2.2.2.1 s.2.1.2.2.2.2.2.2.1 s.2.1.2.2.2.2.2.2.2.1 s.2.1.2.2.2.2.2.2.2.2.1 s.2.1.2.2.2.2.2.2.2.2.2.1 s.2.1.2.2.2.2.2.2.2.2.2.2.1) j (((), (t87, ()), (t88, ()), (t89, ()), ()), ((b0_0, b0_1, b0_2, b0_3, b0_4, b0_5, b0_6, b0_7, b0_8, b0_9, b0_10, ()), ()))
def g_impl_NetOk.F0 (k : Nat)  (rec0 : (List (List (Int × Int × Int × Bool × Bool))) → Int → Int → Int → Int → (List Int) → (List Int) → (List Int) → (List (List (Int × Int × Int × Bool × Bool))) → (List Int) → (List Int) → (List (List (Int × Int × Int × Bool × Bool))) → (List (List (Int × Int × Int × Bool × Bool))) → Int → Option ((Bool × Unit) × Unit)) (t57 : (List (List (Int × Int × Int × Bool × Bool)))) (t58 : Int) (t59 : Int) (b0_0 : Int) (b0_1 : Int) (b0_2 : (List Int)) (b0_3 : (List Int)) (b0_4 : (List Int)) (b0_5 : (List (List (Int × Int × Int × Bool × Bool)))) (b0_6 : (List Int)) (b0_7 : (List Int)) (b0_8 : (List (List (Int × Int × Int × Bool × Bool)))) (b0_9 : (List (List (Int × Int × Int × Bool × Bool)))) (b0_10 : Int) : Option ((Bool × Unit) × Unit) :=
  bif (decide (t59 < t58)) then
    bif ((decide (0 ≤ t59)) && (decide (t59 < (t57.length : Int)))) then
      bif (decide (((List.getD t57 t59.toNat ([] : List (Int × Int × Int × Bool × Bool))).length : Int) > 3)) then
        some ((false, ()), ())
      else
        (g_impl_ClassOnly.m k (List.getD t57 t59.toNat ([] : List (Int × Int × Int × Bool × Bool))) (Int.tmod t59 2)).bind fun r4 =>
        bif ((r4.1.1.length : Int) != ((List.getD t57 t59.toNat ([] : List (Int × Int × Int × Bool × Bool))).length : Int)) then
          some ((false, ()), ())
        else
          (g_impl_areFlits.m k (b0_0, b0_1) (List.getD t57 t59.toNat ([] : List (Int × Int × Int × Bool × Bool)))).bind fun r5 =>
          bif (!r5.1.1) then
            some ((false, ()), ())
          else
            rec0 t57 t58 (w64 (t59 + 1)) b0_0 b0_1 b0_2 b0_3 b0_4 b0_5 b0_6 b0_7 b0_8 b0_9 b0_10
    else none
  else
    g_impl_NetOk.L1 k k b0_8 (b0_8.length : Int) 0 b0_0 b0_1 b0_2 b0_3 b0_4 b0_5 b0_6 b0_7 b0_8 b0_9 b0_10
def g_impl_NetOk.L0 (k : Nat)  (j : Nat) (t57 : (List (List (Int × Int × Int × Bool × Bool)))) (t58 : Int) (t59 : Int) (b0_0 : Int) (b0_1 : Int) (b0_2 : (List Int)) (b0_3 : (List Int)) (b0_4 : (List Int)) (b0_5 : (List (List (Int × Int × Int × Bool × Bool)))) (b0_6 : (List Int)) (b0_7 : (List Int)) (b0_8 : (List (List (Int × Int × Int × Bool × Bool)))) (b0_9 : (List (List (Int × Int × Int × Bool × Bool)))) (b0_10 : Int) : Option ((Bool × Unit) × Unit) :=
  iter (fun (rec : g_impl_NetOk.p0.den → Option ((Bool × Unit) × Unit)) s => g_impl_NetOk.F0 k  (fun t57 t58 t59 b0_0 b0_1 b0_2 b0_3 b0_4 b0_5 b0_6 b0_7 b0_8 b0_9 b0_10 => rec (((), (t57, ()), (t58, ()), (t59, ()), ()), ((b0_0, b0_1, b0_2, b0_3, b0_4, b0_5, b0_6, b0_7, b0_8, b0_9, b0_10, ()), ()))) s.1.2.1.1 s.1.2.2.1.1 s.1.2.2.2.1.1 s.2.1.1 s.2.1.2.1 s.2.1.2.2.1 s.2.1.2.2.2.1 s.2.1.2.2.2.2.1 s.2.1.2.2.2.2.2.1 s.2.1.2.2.2.2.2.2.1 s.2.1.2.2.2.2.2.2.2.1 s.2.1.2.2.2.2.2.2.2.2.1 s.2.1.2.2.2.2.2.2.2.2.2.1 s.2.1.2.2.2.2.2.2.2.2.2.2.1) j (((), (t57, ()), (t58, ()), (t59, ()), ()), ((b0_0, b0_1, b0_2, b0_3, b0_4, b0_5, b0_6, b0_7, b0_8, b0_9, b0_10, ()), ()))
theorem g_impl_NetOk.L1_s (k : Nat)  (j : Nat) (t87 : (List (List (Int × Int × Int × Bool × Bool)))) (t88 : Int) (t89 : Int) (b0_0 : Int) (b0_1 : Int) (b0_2 : (List Int)) (b0_3 : (List Int)) (b0_4 : (List Int)) (b0_5 : (List (List (Int × Int × Int × Bool × Bool)))) (b0_6 : (List Int)) (b0_7 : (List Int)) (b0_8 : (List (List (Int × Int × Int × Bool × Bool)))) (b0_9 : (List (List (Int × Int × Int × Bool × Bool)))) (b0_10 : Int) : g_impl_NetOk.L1 k  (j + 1) t87 t88 t89 b0_0 b0_1 b0_2 b0_3 b0_4 b0_5 b0_6 b0_7 b0_8 b0_9 b0_10 = g_impl_NetOk.F1 k  (g_impl_NetOk.L1 k  j) t87 t88 t89 b0_0 b0_1 b0_2 b0_3 b0_4 b0_5 b0_6 b0_7 b0_8 b0_9 b0_10 := rfl
theorem g_impl_NetOk.L0_s (k : Nat)  (j : Nat) (t57 : (List (List (Int × Int × Int × Bool × Bool)))) (t58 : Int) (t59 : Int) (b0_0 : Int) (b0_1 : Int) (b0_2 : (List Int)) (b0_3 : (List Int)) (b0_4 : (List Int)) (b0_5 : (List (List (Int × Int × Int × Bool × Bool)))) (b0_6 : (List Int)) (b0_7 : (List Int)) (b0_8 : (List (List (Int × Int × Int × Bool × Bool)))) (b0_9 : (List (List (Int × Int × Int × Bool × Bool)))) (b0_10 : Int) : g_impl_NetOk.L0 k  (j + 1) t57 t58 t59 b0_0 b0_1 b0_2 b0_3 b0_4 b0_5 b0_6 b0_7 b0_8 b0_9 b0_10 = g_impl_NetOk.F0 k  (g_impl_NetOk.L0 k  j) t57 t58 t59 b0_0 b0_1 b0_2 b0_3 b0_4 b0_5 b0_6 b0_7 b0_8 b0_9 b0_10 := rfl
def g_impl_NetOk.m (k : Nat) (n0_ : ((Int × Int) × List Int) × ((List Int) × List Int) × (List (List (Int × Int × Int × Bool × Bool))) × (List Int) × (List Int) × (List (List (Int × Int × Int × Bool × Bool))) × (List (List (Int × Int × Int × Bool × Bool))) × Int) : Option ((Bool × Unit) × Unit) :=
  (g_impl_NodeCount.m k n0_.1.1).bind fun r1 =>
  Option.bind (
    (g_impl_ClassesOk.m k n0_.1 n0_.2.1).bind fun r2 =>
    bif (!r2.1.1) then
      some true
    else
      bif ((n0_.2.2.1.length : Int) != (w64 (10 * r1.1.1))) then
        some true
      else
        bif ((n0_.2.2.2.1.length : Int) != (w64 (10 * r1.1.1))) then
          some true
        else
          bif ((n0_.2.2.2.2.1.length : Int) != (w64 (5 * r1.1.1))) then
            some true
          else
            bif ((n0_.2.2.2.2.2.1.length : Int) != r1.1.1) then
              some true
            else
              some ((n0_.2.2.2.2.2.2.1.length : Int) != r1.1.1)) fun b3 =>
  bif b3 then
    some ((false, ()), ())
  else
    g_impl_NetOk.L0 k k n0_.2.2.1 (n0_.2.2.1.length : Int) 0 n0_.1.1.1 n0_.1.1.2 n0_.1.2 n0_.2.1.1 n0_.2.1.2 n0_.2.2.1 n0_.2.2.2.1 n0_.2.2.2.2.1 n0_.2.2.2.2.2.1 n0_.2.2.2.2.2.2.1 n0_.2.2.2.2.2.2.2
def g_impl_NetOk.e : Entry Try.prog := mkEntry Dl [g_impl_NodeCount.e, g_impl_ClassesOk.e, g_impl_ClassOnly.e, g_impl_areFlits.e, g_impl_areInside.e, g_impl_inside.e] (fun n => n == 2 || n == 13 || n == 16) [(11, g_impl_NetOk.p1), (5, g_impl_NetOk.p0)] hm 36 Try.f36 (by kernel_rfl) (by kernel_rfl) (by kernel_rfl) [.v (.pair (.pair (.pair (.int .i64) (.int .i64)) (.sl (.int .i64))) (.pair (.pair (.sl (.int .i64)) (.sl (.int .i64))) (.pair (.sl (.sl (.pair (.int .i64) (.pair (.int .i64) (.pair (.int .i64) (.pair .bool .bool)))))) (.pair (.sl (.int .i64)) (.pair (.sl (.int .i64)) (.pair (.sl (.sl (.pair (.int .i64) (.pair (.int .i64) (.pair (.int .i64) (.pair .bool .bool)))))) (.pair (.sl (.sl (.pair (.int .i64) (.pair (.int .i64) (.pair (.int .i64) (.pair .bool .bool)))))) (.int .i64)))))))) true] [(false, [.v .bool])] (fun k a => g_impl_NetOk.m k a.1) (fun k a => by kernel_rfl)
/- 37 loop.example/g00984/impl.PacketOk -/
def g_impl_PacketOk.m (k : Nat) (g0_ : Int × Int) (p1_ : Int × Int × Int × Int × Int) : Option ((Bool × Unit) × Unit) :=
  Option.bind (
    (g_impl_inside.m k p1_.1 1 9999).bind fun r1 =>
    bif r1.1.1 then
      (g_impl_isNode.m k g0_ p1_.2.1).bind fun r2 =>
      bif r2.1.1 then
        (g_impl_isNode.m k g0_ p1_.2.2.1).bind fun r3 =>
        bif r3.1.1 then
          bif (p1_.2.1 != p1_.2.2.1) then
            (g_impl_inside.m k p1_.2.2.2.1 0 1).bind fun r4 =>
            bif r4.1.1 then
              (g_impl_inside.m k p1_.2.2.2.2 1 5).bind fun r5 =>
              some r5.1.1
            else
              some false
          else
            some false
        else
          some false
      else
        some false
    else
      some false) fun b6 =>
  some ((b6, ()), ())
def g_impl_PacketOk.e : Entry Try.prog := mkEntry Dl [g_impl_inside.e, g_impl_isNode.e] (fun n => n == 1) [] hm 37 Try.f37 (by kernel_rfl) (by kernel_rfl) (by kernel_rfl) [.v (.pair (.int .i64) (.int .i64)) true, .v (.pair (.int .i64) (.pair (.int .i64) (.pair (.int .i64) (.pair (.int .i64) (.int .i64))))) true] [(false, [.v .bool])] (fun k a => g_impl_PacketOk.m k a.1 a.2.1) (fun k a => by kernel_rfl)
/- 81 loop.example/g00984/impl.ClassOnly -/
def g_impl_ClassOnly_1.p0 : LPat := ⟨25, [(1, false, [.v (.int .i64)]), (5, false, [.o 110 (.pair (.int .i64) (.pair (.int .i64) (.pair (.int .i64) (.pair .bool .bool))))]), (9, false, [.v (.sl (.pair (.int .i64) (.pair (.int .i64) (.pair (.int .i64) (.pair .bool .bool)))))]), (10, false, [.v (.int .i64)]), (11, false, [.v (.int .i64)])], []⟩
def g_impl_ClassOnly_1.F0 (k : Nat)  (rec0 : Int → (List (Int × Int × Int × Bool × Bool)) → (List (Int × Int × Int × Bool × Bool)) → Int → Int → Option (((List (Int × Int × Int × Bool × Bool)) × Unit) × Unit)) (class1 : Int) (out5 : (List (Int × Int × Int × Bool × Bool))) (t9 : (List (Int × Int × Int × Bool × Bool))) (t10 : Int) (t11 : Int) : Option (((List (Int × Int × Int × Bool × Bool)) × Unit) × Unit) :=
  bif (decide (t11 < t10)) then
    bif ((decide (0 ≤ t11)) && (decide (t11 < (t9.length : Int)))) then
      bif ((List.getD t9 t11.toNat ((0), ((0), ((0), (false, false))))).2.2.1 == class1) then
        bif (Nat.ble (((List.length out5) + 1) * 32) 140737488355328) then
          rec0 class1 (out5 ++ [(List.getD t9 t11.toNat ((0), ((0), ((0), (false, false)))))]) t9 t10 (w64 (t11 + 1))
        else none
      else
        rec0 class1 out5 t9 t10 (w64 (t11 + 1))
    else none
  else
    some ((out5, ()), ())
def g_impl_ClassOnly_1.L0 (k : Nat)  (j : Nat) (class1 : Int) (out5 : (List (Int × Int × Int × Bool × Bool))) (t9 : (List (Int × Int × Int × Bool × Bool))) (t10 : Int) (t11 : Int) : Option (((List (Int × Int × Int × Bool × Bool)) × Unit) × Unit) :=
  iter (fun (rec : g_impl_ClassOnly_1.p0.den → Option (((List (Int × Int × Int × Bool × Bool)) × Unit) × Unit)) s => g_impl_ClassOnly_1.F0 k  (fun class1 out5 t9 t10 t11 => rec (((class1, ()), (out5, ()), (t9, ()), (t10, ()), (t11, ()), ()), ())) s.1.1.1 s.1.2.1.1 s.1.2.2.1.1 s.1.2.2.2.1.1 s.1.2.2.2.2.1.1) j (((class1, ()), (out5, ()), (t9, ()), (t10, ()), (t11, ()), ()), ())
theorem g_impl_ClassOnly_1.L0_s (k : Nat)  (j : Nat) (class1 : Int) (out5 : (List (Int × Int × Int × Bool × Bool))) (t9 : (List (Int × Int × Int × Bool × Bool))) (t10 : Int) (t11 : Int) : g_impl_ClassOnly_1.L0 k  (j + 1) class1 out5 t9 t10 t11 = g_impl_ClassOnly_1.F0 k  (g_impl_ClassOnly_1.L0 k  j) class1 out5 t9 t10 t11 := rfl
def g_impl_ClassOnly_1.m (k : Nat) (list0_ : List (Int × Int × Int × Bool × Bool)) (class1_ : Int) : Option (((List (Int × Int × Int × Bool × Bool)) × Unit) × Unit) :=
  g_impl_ClassOnly_1.L0 k k class1_ ([] : List (Int × Int × Int × Bool × Bool)) list0_ (list0_.length : Int) 0
def g_impl_ClassOnly_1.e : Entry Try.prog := mkEntry Dl [] (fun n => false) [(3, g_impl_ClassOnly_1.p0)] hm 81 Try.f81 (by kernel_rfl) (by kernel_rfl) (by kernel_rfl) [.v (.sl (.pair (.int .i64) (.pair (.int .i64) (.pair (.int .i64) (.pair .bool .bool))))) false, .v (.int .i64) false] [(false, [.v (.sl (.pair (.int .i64) (.pair (.int .i64) (.pair (.int .i64) (.pair .bool .bool)))))])] (fun k a => g_impl_ClassOnly_1.m k a.1 a.2.1) (fun k a => by kernel_rfl)
/- 142 loop.example/g00984/impl.IsWhole -/
def g_impl_IsWhole.p0 : LPat := ⟨38, [(0, false, [.v (.sl (.pair (.int .i64) (.pair (.int .i64) (.pair (.int .i64) (.pair .bool .bool)))))]), (5, false, [.v (.sl (.pair (.int .i64) (.pair (.int .i64) (.pair (.int .i64) (.pair .bool .bool)))))]), (6, false, [.v (.int .i64)]), (7, false, [.v (.int .i64)])], []⟩
def g_impl_IsWhole.F0 (k : Nat)  (rec0 : (List (Int × Int × Int × Bool × Bool)) → (List (Int × Int × Int × Bool × Bool)) → Int → Int → Option ((Bool × Unit) × Unit)) (list0 : (List (Int × Int × Int × Bool × Bool))) (t5 : (List (Int × Int × Int × Bool × Bool))) (t6 : Int) (t7 : Int) : Option ((Bool × Unit) × Unit) :=
  bif (decide (t7 < t6)) then
    bif ((decide (0 ≤ t7)) && (decide (t7 < (t5.length : Int)))) then
      bif ((decide (0 ≤ 0)) && (decide (0 < (list0.length : Int)))) then
        bif ((decide (0 ≤ 0)) && (decide (0 < (list0.length : Int)))) then
          bif ((decide (0 ≤ 0)) && (decide (0 < (list0.length : Int)))) then
            bif (!(((List.getD t5 t7.toNat ((0), ((0), ((0), (false, false))))).1 == (List.getD list0 0 ((0), ((0), ((0), (false, false))))).1) && (((List.getD t5 t7.toNat ((0), ((0), ((0), (false, false))))).2.1 == (List.getD list0 0 ((0), ((0), ((0), (false, false))))).2.1) && (((List.getD t5 t7.toNat ((0), ((0), ((0), (false, false))))).2.2.1 == (List.getD list0 0 ((0), ((0), ((0), (false, false))))).2.2.1) && (((List.getD t5 t7.toNat ((0), ((0), ((0), (false, false))))).2.2.2.1 == (t7 == 0)) && (((List.getD t5 t7.toNat ((0), ((0), ((0), (false, false))))).2.2.2.2 == (t7 == (w64 ((list0.length : Int) - 1)))) && true)))))) then
              some ((false, ()), ())
            else
              rec0 list0 t5 t6 (w64 (t7 + 1))
          else none
        else none
      else none
    else none
  else
    some (((decide ((list0.length : Int) > 0)), ()), ())
def g_impl_IsWhole.L0 (k : Nat)  (j : Nat) (list0 : (List (Int × Int × Int × Bool × Bool))) (t5 : (List (Int × Int × Int × Bool × Bool))) (t6 : Int) (t7 : Int) : Option ((Bool × Unit) × Unit) :=
  iter (fun (rec : g_impl_IsWhole.p0.den → Option ((Bool × Unit) × Unit)) s => g_impl_IsWhole.F0 k  (fun list0 t5 t6 t7 => rec (((list0, ()), (t5, ()), (t6, ()), (t7, ()), ()), ())) s.1.1.1 s.1.2.1.1 s.1.2.2.1.1 s.1.2.2.2.1.1) j (((list0, ()), (t5, ()), (t6, ()), (t7, ()), ()), ())
theorem g_impl_IsWhole.L0_s (k : Nat)  (j : Nat) (list0 : (List (Int × Int × Int × Bool × Bool))) (t5 : (List (Int × Int × Int × Bool × Bool))) (t6 : Int) (t7 : Int) : g_impl_IsWhole.L0 k  (j + 1) list0 t5 t6 t7 = g_impl_IsWhole.F0 k  (g_impl_IsWhole.L0 k  j) list0 t5 t6 t7 := rfl
def g_impl_IsWhole.m (k : Nat) (list0_ : List (Int × Int × Int × Bool × Bool)) : Option ((Bool × Unit) × Unit) :=
  g_impl_IsWhole.L0 k k list0_ list0_ (list0_.length : Int) 0
def g_impl_IsWhole.e : Entry Try.prog := mkEntry Dl [] (fun n => false) [(2, g_impl_IsWhole.p0)] hm 142 Try.f142 (by kernel_rfl) (by kernel_rfl) (by kernel_rfl) [.v (.sl (.pair (.int .i64) (.pair (.int .i64) (.pair (.int .i64) (.pair .bool .bool))))) false] [(false, [.v .bool])] (fun k a => g_impl_IsWhole.m k a.1) (fun k a => by kernel_rfl)
/- 122 loop.example/g00984/impl.WholePackets -/
def g_impl_WholePackets.p0 : LPat := ⟨33, [(0, false, [.v (.sl (.pair (.int .i64) (.pair (.int .i64) (.pair (.int .i64) (.pair .bool .bool)))))]), (4, false, [.o 3 (.int .i64)]), (5, false, [.v (.int .i64)]), (6, false, [.v (.int .i64)])], []⟩
def g_impl_WholePackets.F0 (k : Nat)  (rec0 : (List (Int × Int × Int × Bool × Bool)) → (List Int) → Int → Int → Option (((List Int) × Unit) × (Bool × Unit) × Unit)) (list0 : (List (Int × Int × Int × Bool × Bool))) (out4 : (List Int)) (from5 : Int) (to6 : Int) : Option (((List Int) × Unit) × (Bool × Unit) × Unit) :=
  bif (decide (to6 ≤ (list0.length : Int))) then
    bif ((decide (0 ≤ from5)) && ((decide (from5 ≤ to6)) && (decide (to6 ≤ (list0.length : Int))))) then
      (g_impl_IsWhole.m k (List.drop from5.toNat (List.take to6.toNat list0))).bind fun r1 =>
      bif r1.1.1 then
        bif ((decide (0 ≤ from5)) && (decide (from5 < (list0.length : Int)))) then
          bif (Nat.ble (((List.length out4) + 1) * 8) 140737488355328) then
            rec0 list0 (out4 ++ [(List.getD list0 from5.toNat ((0), ((0), ((0), (false, false))))).1]) to6 (w64 (to6 + 1))
          else none
        else none
      else
        rec0 list0 out4 from5 (w64 (to6 + 1))
    else none
  else
    bif (decide (from5 < (list0.length : Int))) then
      some ((([] : List Int), ()), ((false, ()), ()))
    else
      some ((out4, ()), ((true, ()), ()))
def g_impl_WholePackets.L0 (k : Nat)  (j : Nat) (list0 : (List (Int × Int × Int × Bool × Bool))) (out4 : (List Int)) (from5 : Int) (to6 : Int) : Option (((List Int) × Unit) × (Bool × Unit) × Unit) :=
  iter (fun (rec : g_impl_WholePackets.p0.den → Option (((List Int) × Unit) × (Bool × Unit) × Unit)) s => g_impl_WholePackets.F0 k  (fun list0 out4 from5 to6 => rec (((list0, ()), (out4, ()), (from5, ()), (to6, ()), ()), ())) s.1.1.1 s.1.2.1.1 s.1.2.2.1.1 s.1.2.2.2.1.1) j (((list0, ()), (out4, ()), (from5, ()), (to6, ()), ()), ())
theorem g_impl_WholePackets.L0_s (k : Nat)  (j : Nat) (list0 : (List (Int × Int × Int × Bool × Bool))) (out4 : (List Int)) (from5 : Int) (to6 : Int) : g_impl_WholePackets.L0 k  (j + 1) list0 out4 from5 to6 = g_impl_WholePackets.F0 k  (g_impl_WholePackets.L0 k  j) list0 out4 from5 to6 := rfl
def g_impl_WholePackets.m (k : Nat) (list0_ : List (Int × Int × Int × Bool × Bool)) : Option (((List Int) × Unit) × (Bool × Unit) × Unit) :=
  g_impl_WholePackets.L0 k k list0_ ([] : List Int) 0 1
def g_impl_WholePackets.e : Entry Try.prog := mkEntry Dl [g_impl_IsWhole.e] (fun n => false) [(3, g_impl_WholePackets.p0)] hm 122 Try.f122 (by kernel_rfl) (by kernel_rfl) (by kernel_rfl) [.v (.sl (.pair (.int .i64) (.pair (.int .i64) (.pair (.int .i64) (.pair .bool .bool))))) false] [(false, [.o 3 (.int .i64)]), (false, [.v .bool])] (fun k a => g_impl_WholePackets.m k a.1) (fun k a => by kernel_rfl)
/- 86 (*loop.example/g00984/impl.Net).arrived -/
def g_impl_Net_arrived.p0 : LPat := ⟨40, [(8, false, [.v (.sl (.pair (.int .i64) (.pair (.int .i64) (.pair (.int .i64) (.pair .bool .bool)))))])], []⟩
def g_impl_Net_arrived.F0 (k : Nat)  (rec0 : (List (Int × Int × Int × Bool × Bool)) → Option (((List Int) × Unit) × (Bool × Unit) × Unit)) (list8 : (List (Int × Int × Int × Bool × Bool))) : Option (((List Int) × Unit) × (Bool × Unit) × Unit) :=
  Option.bind (
    bif (decide ((list8.length : Int) > 0)) then
      bif ((decide (0 ≤ (w64 ((list8.length : Int) - 1)))) && (decide ((w64 ((list8.length : Int) - 1)) < (list8.length : Int)))) then
        some (!(List.getD list8 (w64 ((list8.length : Int) - 1)).toNat ((0), ((0), ((0), (false, false))))).2.2.2.2)
      else none
    else
      some false) fun b2 =>
  bif b2 then
    bif ((decide (0 ≤ 0)) && ((decide (0 ≤ (w64 ((list8.length : Int) - 1)))) && (decide ((w64 ((list8.length : Int) - 1)) ≤ (list8.length : Int))))) then
      rec0 (List.drop 0 (List.take (w64 ((list8.length : Int) - 1)).toNat list8))
    else none
  else
    (g_impl_WholePackets.m k list8).bind fun r3 =>
    some ((r3.1.1, ()), ((r3.2.1.1, ()), ()))
def g_impl_Net_arrived.L0 (k : Nat)  (j : Nat) (list8 : (List (Int × Int × Int × Bool × Bool))) : Option (((List Int) × Unit) × (Bool × Unit) × Unit) :=
  iter (fun (rec : g_impl_Net_arrived.p0.den → Option (((List Int) × Unit) × (Bool × Unit) × Unit)) s => g_impl_Net_arrived.F0 k  (fun list8 => rec (((list8, ()), ()), ())) s.1.1.1) j (((list8, ()), ()), ())
theorem g_impl_Net_arrived.L0_s (k : Nat)  (j : Nat) (list8 : (List (Int × Int × Int × Bool × Bool))) : g_impl_Net_arrived.L0 k  (j + 1) list8 = g_impl_Net_arrived.F0 k  (g_impl_Net_arrived.L0 k  j) list8 := rfl
def g_impl_Net_arrived.m (k : Nat) (n0_ : ((Int × Int) × List Int) × ((List Int) × List Int) × (List (List (Int × Int × Int × Bool × Bool))) × (List Int) × (List Int) × (List (List (Int × Int × Int × Bool × Bool))) × (List (List (Int × Int × Int × Bool × Bool))) × Int) (node1_ : Int) (class2_ : Int) : Option (((List Int) × Unit) × (Bool × Unit) × Unit) :=
  bif ((decide (0 ≤ node1_)) && (decide (node1_ < (n0_.2.2.2.2.2.2.1.length : Int)))) then
    (g_impl_ClassOnly_1.m k (List.getD n0_.2.2.2.2.2.2.1 node1_.toNat ([] : List (Int × Int × Int × Bool × Bool))) class2_).bind fun r1 =>
    g_impl_Net_arrived.L0 k k r1.1.1
  else none
def g_impl_Net_arrived.e : Entry Try.prog := mkEntry Dl [g_impl_ClassOnly_1.e, g_impl_WholePackets.e] (fun n => n == 2) [(2, g_impl_Net_arrived.p0)] hm 86 Try.f86 (by kernel_rfl) (by kernel_rfl) (by kernel_rfl) [.tp (.pair (.pair (.pair (.int .i64) (.int .i64)) (.sl (.int .i64))) (.pair (.pair (.sl (.int .i64)) (.sl (.int .i64))) (.pair (.sl (.sl (.pair (.int .i64) (.pair (.int .i64) (.pair (.int .i64) (.pair .bool .bool)))))) (.pair (.sl (.int .i64)) (.pair (.sl (.int .i64)) (.pair (.sl (.sl (.pair (.int .i64) (.pair (.int .i64) (.pair (.int .i64) (.pair .bool .bool)))))) (.pair (.sl (.sl (.pair (.int .i64) (.pair (.int .i64) (.pair (.int .i64) (.pair .bool .bool)))))) (.int .i64)))))))), .v (.int .i64) false, .v (.int .i64) false] [(false, [.o 3 (.int .i64)]), (false, [.v .bool])] (fun k a => g_impl_Net_arrived.m k a.1 a.2.1 a.2.2.1) (fun k a => by kernel_rfl)
/- 124 loop.example/g00984/impl.isSent -/
def g_impl_isSent.p0 : LPat := ⟨42, [(1, false, [.v (.int .i64)]), (2, false, [.v (.int .i64)]), (3, false, [.v (.int .i64)]), (4, false, [.v (.int .i64)]), (13, false, [.v (.sl (.pair (.int .i64) (.pair (.int .i64) (.pair (.int .i64) (.pair (.int .i64) (.int .i64))))))]), (14, false, [.v (.int .i64)]), (15, false, [.v (.int .i64)])], []⟩
def g_impl_isSent.F0 (k : Nat)  (rec0 : Int → Int → Int → Int → (List (Int × Int × Int × Int × Int)) → Int → Int → Option ((Bool × Unit) × Unit)) (id1 : Int) (from2 : Int) (to3 : Int) (class4 : Int) (t13 : (List (Int × Int × Int × Int × Int))) (t14 : Int) (t15 : Int) : Option ((Bool × Unit) × Unit) :=
  bif (decide (t15 < t14)) then
    bif ((decide (0 ≤ t15)) && (decide (t15 < (t13.length : Int)))) then
      Option.bind (
        bif ((List.getD t13 t15.toNat ((0), ((0), ((0), ((0), (0)))))).1 == id1) then
          bif ((List.getD t13 t15.toNat ((0), ((0), ((0), ((0), (0)))))).2.1 == from2) then
            bif ((List.getD t13 t15.toNat ((0), ((0), ((0), ((0), (0)))))).2.2.1 == to3) then
              some ((List.getD t13 t15.toNat ((0), ((0), ((0), ((0), (0)))))).2.2.2.1 == class4)
            else
              some false
          else
            some false
        else
          some false) fun b1 =>
      bif b1 then
        some ((true, ()), ())
      else
        rec0 id1 from2 to3 class4 t13 t14 (w64 (t15 + 1))
    else none
  else
    some ((false, ()), ())
def g_impl_isSent.L0 (k : Nat)  (j : Nat) (id1 : Int) (from2 : Int) (to3 : Int) (class4 : Int) (t13 : (List (Int × Int × Int × Int × Int))) (t14 : Int) (t15 : Int) : Option ((Bool × Unit) × Unit) :=
  iter (fun (rec : g_impl_isSent.p0.den → Option ((Bool × Unit) × Unit)) s => g_impl_isSent.F0 k  (fun id1 from2 to3 class4 t13 t14 t15 => rec (((id1, ()), (from2, ()), (to3, ()), (class4, ()), (t13, ()), (t14, ()), (t15, ()), ()), ())) s.1.1.1 s.1.2.1.1 s.1.2.2.1.1 s.1.2.2.2.1.1 s.1.2.2.2.2.1.1 s.1.2.2.2.2.2.1.1 s.1.2.2.2.2.2.2.1.1) j (((id1, ()), (from2, ()), (to3, ()), (class4, ()), (t13, ()), (t14, ()), (t15, ()), ()), ())
theorem g_impl_isSent.L0_s (k : Nat)  (j : Nat) (id1 : Int) (from2 : Int) (to3 : Int) (class4 : Int) (t13 : (List (Int × Int × Int × Int × Int))) (t14 : Int) (t15 : Int) : g_impl_isSent.L0 k  (j + 1) id1 from2 to3 class4 t13 t14 t15 = g_impl_isSent.F0 k  (g_impl_isSent.L0 k  j) id1 from2 to3 class4 t13 t14 t15 := rfl
def g_impl_isSent.m (k : Nat) (list0_ : List (Int × Int × Int × Int × Int)) (id1_ : Int) (from2_ : Int) (to3_ : Int) (class4_ : Int) : Option ((Bool × Unit) × Unit) :=
  g_impl_isSent.L0 k k id1_ from2_ to3_ class4_ list0_ (list0_.length : Int) 0
def g_impl_isSent.e : Entry Try.prog := mkEntry Dl [] (fun n => n == 4) [(2, g_impl_isSent.p0)] hm 124 Try.f124 (by kernel_rfl) (by kernel_rfl) (by kernel_rfl) [.v (.sl (.pair (.int .i64) (.pair (.int .i64) (.pair (.int .i64) (.pair (.int .i64) (.int .i64)))))) false, .v (.int .i64) false, .v (.int .i64) false, .v (.int .i64) false, .v (.int .i64) false] [(false, [.v .bool])] (fun k a => g_impl_isSent.m k a.1 a.2.1 a.2.2.1 a.2.2.2.1 a.2.2.2.2.1) (fun k a => by kernel_rfl)
/- 88 loop.example/g00984/impl.sentAmong -/
def g_impl_sentAmong.p0 : LPat := ⟨33, [(1, false, [.v (.sl (.pair (.int .i64) (.pair (.int .i64) (.pair (.int .i64) (.pair (.int .i64) (.int .i64))))))]), (2, false, [.v (.int .i64)]), (3, false, [.v (.int .i64)]), (4, false, [.v (.int .i64)]), (11, false, [.o 3 (.int .i64)]), (15, false, [.v (.sl (.int .i64))]), (16, false, [.v (.int .i64)]), (17, false, [.v (.int .i64)])], []⟩
def g_impl_sentAmong.F0 (k : Nat)  (rec0 : (List (Int × Int × Int × Int × Int)) → Int → Int → Int → (List Int) → (List Int) → Int → Int → Option (((List Int) × Unit) × Unit)) (list1 : (List (Int × Int × Int × Int × Int))) (from2 : Int) (to3 : Int) (class4 : Int) (out11 : (List Int)) (t15 : (List Int)) (t16 : Int) (t17 : Int) : Option (((List Int) × Unit) × Unit) :=
  bif (decide (t17 < t16)) then
    bif ((decide (0 ≤ t17)) && (decide (t17 < (t15.length : Int)))) then
      (g_impl_isSent.m k list1 (List.getD t15 t17.toNat 0) from2 to3 class4).bind fun r1 =>
      bif r1.1.1 then
        bif (Nat.ble (((List.length out11) + 1) * 8) 140737488355328) then
          rec0 list1 from2 to3 class4 (out11 ++ [(List.getD t15 t17.toNat 0)]) t15 t16 (w64 (t17 + 1))
        else none
      else
        rec0 list1 from2 to3 class4 out11 t15 t16 (w64 (t17 + 1))
    else none
  else
    some ((out11, ()), ())
def g_impl_sentAmong.L0 (k : Nat)  (j : Nat) (list1 : (List (Int × Int × Int × Int × Int))) (from2 : Int) (to3 : Int) (class4 : Int) (out11 : (List Int)) (t15 : (List Int)) (t16 : Int) (t17 : Int) : Option (((List Int) × Unit) × Unit) :=
  iter (fun (rec : g_impl_sentAmong.p0.den → Option (((List Int) × Unit) × Unit)) s => g_impl_sentAmong.F0 k  (fun list1 from2 to3 class4 out11 t15 t16 t17 => rec (((list1, ()), (from2, ()), (to3, ()), (class4, ()), (out11, ()), (t15, ()), (t16, ()), (t17, ()), ()), ())) s.1.1.1 s.1.2.1.1 s.1.2.2.1.1 s.1.2.2.2.1.1 s.1.2.2.2.2.1.1 s.1.2.2.2.2.2.1.1 s.1.2.2.2.2.2.2.1.1 s.1.2.2.2.2.2.2.2.1.1) j (((list1, ()), (from2, ()), (to3, ()), (class4, ()), (out11, ()), (t15, ()), (t16, ()), (t17, ()), ()), ())
theorem g_impl_sentAmong.L0_s (k : Nat)  (j : Nat) (list1 : (List (Int × Int × Int × Int × Int))) (from2 : Int) (to3 : Int) (class4 : Int) (out11 : (List Int)) (t15 : (List Int)) (t16 : Int) (t17 : Int) : g_impl_sentAmong.L0 k  (j + 1) list1 from2 to3 class4 out11 t15 t16 t17 = g_impl_sentAmong.F0 k  (g_impl_sentAmong.L0 k  j) list1 from2 to3 class4 out11 t15 t16 t17 := rfl
def g_impl_sentAmong.m (k : Nat) (all0_ : List Int) (list1_ : List (Int × Int × Int × Int × Int)) (from2_ : Int) (to3_ : Int) (class4_ : Int) : Option (((List Int) × Unit) × Unit) :=
  g_impl_sentAmong.L0 k k list1_ from2_ to3_ class4_ ([] : List Int) all0_ (all0_.length : Int) 0
def g_impl_sentAmong.e : Entry Try.prog := mkEntry Dl [g_impl_isSent.e] (fun n => false) [(3, g_impl_sentAmong.p0)] hm 88 Try.f88 (by kernel_rfl) (by kernel_rfl) (by kernel_rfl) [.v (.sl (.int .i64)) false, .v (.sl (.pair (.int .i64) (.pair (.int .i64) (.pair (.int .i64) (.pair (.int .i64) (.int .i64)))))) false, .v (.int .i64) false, .v (.int .i64) false, .v (.int .i64) false] [(false, [.o 3 (.int .i64)])] (fun k a => g_impl_sentAmong.m k a.1 a.2.1 a.2.2.1 a.2.2.2.1 a.2.2.2.2.1) (fun k a => by kernel_rfl)
/- 89 loop.example/g00984/impl.SentFrom -/
def g_impl_SentFrom.p0 : LPat := ⟨42, [(1, false, [.v (.int .i64)]), (2, false, [.v (.int .i64)]), (3, false, [.v (.int .i64)]), (9, false, [.o 3 (.int .i64)]), (13, false, [.v (.sl (.pair (.int .i64) (.pair (.int .i64) (.pair (.int .i64) (.pair (.int .i64) (.int .i64))))))]), (14, false, [.v (.int .i64)]), (15, false, [.v (.int .i64)])], []⟩
def g_impl_SentFrom.F0 (k : Nat)  (rec0 : Int → Int → Int → (List Int) → (List (Int × Int × Int × Int × Int)) → Int → Int → Option (((List Int) × Unit) × Unit)) (from1 : Int) (to2 : Int) (class3 : Int) (out9 : (List Int)) (t13 : (List (Int × Int × Int × Int × Int))) (t14 : Int) (t15 : Int) : Option (((List Int) × Unit) × Unit) :=
  bif (decide (t15 < t14)) then
    bif ((decide (0 ≤ t15)) && (decide (t15 < (t13.length : Int)))) then
      Option.bind (
        bif ((List.getD t13 t15.toNat ((0), ((0), ((0), ((0), (0)))))).2.1 == from1) then
          bif ((List.getD t13 t15.toNat ((0), ((0), ((0), ((0), (0)))))).2.2.1 == to2) then
            some ((List.getD t13 t15.toNat ((0), ((0), ((0), ((0), (0)))))).2.2.2.1 == class3)
          else
            some false
        else
          some false) fun b1 =>
      bif b1 then
        bif (Nat.ble (((List.length out9) + 1) * 8) 140737488355328) then
          rec0 from1 to2 class3 (out9 ++ [(List.getD t13 t15.toNat ((0), ((0), ((0), ((0), (0)))))).1]) t13 t14 (w64 (t15 + 1))
        else none
      else
        rec0 from1 to2 class3 out9 t13 t14 (w64 (t15 + 1))
    else none
  else
    some ((out9, ()), ())
def g_impl_SentFrom.L0 (k : Nat)  (j : Nat) (from1 : Int) (to2 : Int) (class3 : Int) (out9 : (List Int)) (t13 : (List (Int × Int × Int × Int × Int))) (t14 : Int) (t15 : Int) : Option (((List Int) × Unit) × Unit) :=
  iter (fun (rec : g_impl_SentFrom.p0.den → Option (((List Int) × Unit) × Unit)) s => g_impl_SentFrom.F0 k  (fun from1 to2 class3 out9 t13 t14 t15 => rec (((from1, ()), (to2, ()), (class3, ()), (out9, ()), (t13, ()), (t14, ()), (t15, ()), ()), ())) s.1.1.1 s.1.2.1.1 s.1.2.2.1.1 s.1.2.2.2.1.1 s.1.2.2.2.2.1.1 s.1.2.2.2.2.2.1.1 s.1.2.2.2.2.2.2.1.1) j (((from1, ()), (to2, ()), (class3, ()), (out9, ()), (t13, ()), (t14, ()), (t15, ()), ()), ())
theorem g_impl_SentFrom.L0_s (k : Nat)  (j : Nat) (from1 : Int) (to2 : Int) (class3 : Int) (out9 : (List Int)) (t13 : (List (Int × Int × Int × Int × Int))) (t14 : Int) (t15 : Int) : g_impl_SentFrom.L0 k  (j + 1) from1 to2 class3 out9 t13 t14 t15 = g_impl_SentFrom.F0 k  (g_impl_SentFrom.L0 k  j) from1 to2 class3 out9 t13 t14 t15 := rfl
def g_impl_SentFrom.m (k : Nat) (list0_ : List (Int × Int × Int × Int × Int)) (from1_ : Int) (to2_ : Int) (class3_ : Int) : Option (((List Int) × Unit) × Unit) :=
  g_impl_SentFrom.L0 k k from1_ to2_ class3_ ([] : List Int) list0_ (list0_.length : Int) 0
def g_impl_SentFrom.e : Entry Try.prog := mkEntry Dl [] (fun n => n == 5) [(3, g_impl_SentFrom.p0)] hm 89 Try.f89 (by kernel_rfl) (by kernel_rfl) (by kernel_rfl) [.v (.sl (.pair (.int .i64) (.pair (.int .i64) (.pair (.int .i64) (.pair (.int .i64) (.int .i64)))))) false, .v (.int .i64) false, .v (.int .i64) false, .v (.int .i64) false] [(false, [.o 3 (.int .i64)])] (fun k a => g_impl_SentFrom.m k a.1 a.2.1 a.2.2.1 a.2.2.2.1) (fun k a => by kernel_rfl)
/- 123 slices.Equal[[]int,int] -/
def g_slices_Equal_f123.p0 : LPat := ⟨26, [(0, false, [.v (.sl (.int .i64))]), (1, false, [.v (.sl (.int .i64))]), (12, false, [.v (.int .i64)]), (13, false, [.v (.int .i64)])], []⟩
def g_slices_Equal_f123.F0 (k : Nat)  (rec0 : (List Int) → (List Int) → Int → Int → Option ((Bool × Unit) × Unit)) (s10 : (List Int)) (s21 : (List Int)) (t12 : Int) (t13 : Int) : Option ((Bool × Unit) × Unit) :=
  bif (decide (t13 < t12)) then
    bif ((decide (0 ≤ t13)) && (decide (t13 < (s10.length : Int)))) then
      bif ((decide (0 ≤ t13)) && (decide (t13 < (s21.length : Int)))) then
        bif ((List.getD s10 t13.toNat 0) != (List.getD s21 t13.toNat 0)) then
          some ((false, ()), ())
        else
          rec0 s10 s21 t12 (w64 (t13 + 1))
      else none
    else none
  else
    some ((true, ()), ())
def g_slices_Equal_f123.L0 (k : Nat)  (j : Nat) (s10 : (List Int)) (s21 : (List Int)) (t12 : Int) (t13 : Int) : Option ((Bool × Unit) × Unit) :=
  iter (fun (rec : g_slices_Equal_f123.p0.den → Option ((Bool × Unit) × Unit)) s => g_slices_Equal_f123.F0 k  (fun s10 s21 t12 t13 => rec (((s10, ()), (s21, ()), (t12, ()), (t13, ()), ()), ())) s.1.1.1 s.1.2.1.1 s.1.2.2.1.1 s.1.2.2.2.1.1) j (((s10, ()), (s21, ()), (t12, ()), (t13, ()), ()), ())
theorem g_slices_Equal_f123.L0_s (k : Nat)  (j : Nat) (s10 : (List Int)) (s21 : (List Int)) (t12 : Int) (t13 : Int) : g_slices_Equal_f123.L0 k  (j + 1) s10 s21 t12 t13 = g_slices_Equal_f123.F0 k  (g_slices_Equal_f123.L0 k  j) s10 s21 t12 t13 := rfl
def g_slices_Equal_f123.m (k : Nat) (s10_ : List Int) (s21_ : List Int) : Option ((Bool × Unit) × Unit) :=
  bif ((s10_.length : Int) != (s21_.length : Int)) then
    some ((false, ()), ())
  else
    g_slices_Equal_f123.L0 k k s10_ s21_ (s10_.length : Int) 0
def g_slices_Equal_f123.e : Entry Try.prog := mkEntry Dl [] (fun n => false) [(4, g_slices_Equal_f123.p0)] hm 123 Try.f123 (by kernel_rfl) (by kernel_rfl) (by kernel_rfl) [.v (.sl (.int .i64)) false, .v (.sl (.int .i64)) false] [(false, [.v .bool])] (fun k a => g_slices_Equal_f123.m k a.1 a.2.1) (fun k a => by kernel_rfl)
/- 87 loop.example/g00984/impl.IsPrefixOf -/
def g_impl_IsPrefixOf.m (k : Nat) (a0_ : List Int) (b1_ : List Int) : Option ((Bool × Unit) × Unit) :=
  Option.bind (
    bif (decide ((a0_.length : Int) ≤ (b1_.length : Int))) then
      bif ((decide (0 ≤ 0)) && ((decide (0 ≤ (a0_.length : Int))) && (decide ((a0_.length : Int) ≤ (b1_.length : Int))))) then
        (g_slices_Equal_f123.m k a0_ (List.drop 0 (List.take (a0_.length : Int).toNat b1_))).bind fun r1 =>
        some r1.1.1
      else none
    else
      some false) fun b2 =>
  some ((b2, ()), ())
def g_impl_IsPrefixOf.e : Entry Try.prog := mkEntry Dl [g_slices_Equal_f123.e] (fun n => n == 1) [] hm 87 Try.f87 (by kernel_rfl) (by kernel_rfl) (by kernel_rfl) [.v (.sl (.int .i64)) false, .v (.sl (.int .i64)) false] [(false, [.v .bool])] (fun k a => g_impl_IsPrefixOf.m k a.1 a.2.1) (fun k a => by kernel_rfl)
/- 38 loop.example/g00984/impl.KeepsOrder -/
def g_impl_KeepsOrder.p2 : LPat := ⟨50, [(1, false, [.v (.sl (.pair (.int .i64) (.pair (.int .i64) (.pair (.int .i64) (.pair (.int .i64) (.int .i64))))))]), (2, false, [.p 0 0]), (5, false, [.v (.int .i64)]), (6, false, [.v (.int .i64)]), (7, false, [.o 3 (.int .i64)]), (15, false, [.v (.int .i64)]), (16, false, [.v (.int .i64)]), (19, false, [.v (.int .i64)]), (30, false, [.v (.int .i64)]), (31, false, [.v (.int .i64)])], [some [.v (.int .i64), .v (.int .i64), .v (.sl (.int .i64)), .v (.sl (.int .i64)), .v (.sl (.int .i64)), .v (.sl (.sl (.pair (.int .i64) (.pair (.int .i64) (.pair (.int .i64) (.pair .bool .bool)))))), .v (.sl (.int .i64)), .v (.sl (.int .i64)), .v (.sl (.sl (.pair (.int .i64) (.pair (.int .i64) (.pair (.int .i64) (.pair .bool .bool)))))), .v (.sl (.sl (.pair (.int .i64) (.pair (.int .i64) (.pair (.int .i64) (.pair .bool .bool)))))), .v (.int .i64)]]⟩
def g_impl_KeepsOrder.p1 : LPat := ⟨50, [(1, false, [.v (.sl (.pair (.int .i64) (.pair (.int .i64) (.pair (.int .i64) (.pair (.int .i64) (.int .i64))))))]), (2, false, [.p 0 0]), (5, false, [.v (.int .i64)]), (15, false, [.v (.int .i64)]), (16, false, [.v (.int .i64)]), (19, false, [.v (.int .i64)])], [some [.v (.int .i64), .v (.int .i64), .v (.sl (.int .i64)), .v (.sl (.int .i64)), .v (.sl (.int .i64)), .v (.sl (.sl (.pair (.int .i64) (.pair (.int .i64) (.pair (.int .i64) (.pair .bool .bool)))))), .v (.sl (.int .i64)), .v (.sl (.int .i64)), .v (.sl (.sl (.pair (.int .i64) (.pair (.int .i64) (.pair (.int .i64) (.pair .bool .bool)))))), .v (.sl (.sl (.pair (.int .i64) (.pair (.int .i64) (.pair (.int .i64) (.pair .bool .bool)))))), .v (.int .i64)]]⟩
def g_impl_KeepsOrder.p0 : LPat := ⟨50, [(1, false, [.v (.sl (.pair (.int .i64) (.pair (.int .i64) (.pair (.int .i64) (.pair (.int .i64) (.int .i64))))))]), (2, false, [.p 0 0]), (15, false, [.v (.int .i64)]), (16, false, [.v (.int .i64)])], [some [.v (.int .i64), .v (.int .i64), .v (.sl (.int .i64)), .v (.sl (.int .i64)), .v (.sl (.int .i64)), .v (.sl (.sl (.pair (.int .i64) (.pair (.int .i64) (.pair (.int .i64) (.pair .bool .bool)))))), .v (.sl (.int .i64)), .v (.sl (.int .i64)), .v (.sl (.sl (.pair (.int .i64) (.pair (.int .i64) (.pair (.int .i64) (.pair .bool .bool)))))), .v (.sl (.sl (.pair (.int .i64) (.pair (.int .i64) (.pair (.int .i64) (.pair .bool .bool)))))), .v (.int .i64)]]⟩
def g_impl_KeepsOrder.F2 (k : Nat) (rec0 : (List (Int × Int × Int × Int × Int)) → Int → Int → Int → Int → (List Int) → (List Int) → (List Int) → (List (List (Int × Int × Int × Bool × Bool))) → (List Int) → (List Int) → (List (List (Int × Int × Int × Bool × Bool))) → (List (List (Int × Int × Int × Bool × Bool))) → Int → Option ((Bool × Unit) × Unit)) (rec1 : (List (Int × Int × Int × Int × Int)) → Int → Int → Int → Int → Int → Int → (List Int) → (List Int) → (List Int) → (List (List (Int × Int × Int × Bool × Bool))) → (List Int) → (List Int) → (List (List (Int × Int × Int × Bool × Bool))) → (List (List (Int × Int × Int × Bool × Bool))) → Int → Option ((Bool × Unit) × Unit)) (rec2 : (List (Int × Int × Int × Int × Int)) → Int → Int → (List Int) → Int → Int → Int → Int → Int → Int → Int → (List Int) → (List Int) → (List Int) → (List (List (Int × Int × Int × Bool × Bool))) → (List Int) → (List Int) → (List (List (Int × Int × Int × Bool × Bool))) → (List (List (Int × Int × Int × Bool × Bool))) → Int → Option ((Bool × Unit) × Unit)) (list1'' : (List (Int × Int × Int × Int × Int))) (to5'' : Int) (class6'' : Int) (all7'' : (List Int)) (t15'' : Int) (t16'' : Int) (t19'' : Int) (t30'' : Int) (t31'' : Int) (b0_0'' : Int) (b0_1'' : Int) (b0_2'' : (List Int)) (b0_3'' : (List Int)) (b0_4'' : (List Int)) (b0_5'' : (List (List (Int × Int × Int × Bool × Bool)))) (b0_6'' : (List Int)) (b0_7'' : (List Int)) (b0_8'' : (List (List (Int × Int × Int × Bool × Bool)))) (b0_9'' : (List (List (Int × Int × Int × Bool × Bool)))) (b0_10'' : Int) : Option ((Bool × Unit) × Unit) :=
  bif (decide (t31'' < t30'')) then
    (g_impl_sentAmong.m k all7'' list1'' t31'' to5'' class6'').bind fun r3 =>
    (g_impl_SentFrom.m k list1'' t31'' to5'' class6'').bind fun r4 =>
    (g_impl_IsPrefixOf.m k r3.1.1 r4.1.1).bind fun r5 =>
    bif (!r5.1.1) then
      some ((false, ()), ())
    else
      rec2 list1'' to5'' class6'' all7'' t15'' t16'' t19'' t30'' (w64 (t31'' + 1)) b0_0'' b0_1'' b0_2'' b0_3'' b0_4'' b0_5'' b0_6'' b0_7'' b0_8'' b0_9'' b0_10''
  else
    rec1 list1'' to5'' t15'' t16'' (w64 (t19'' + 1)) b0_0'' b0_1'' b0_2'' b0_3'' b0_4'' b0_5'' b0_6'' b0_7'' b0_8'' b0_9'' b0_10''
def g_impl_KeepsOrder.L2 (k : Nat) (rec0 : (List (Int × Int × Int × Int × Int)) → Int → Int → Int → Int → (List Int) → (List Int) → (List Int) → (List (List (Int × Int × Int × Bool × Bool))) → (List Int) → (List Int) → (List (List (Int × Int × Int × Bool × Bool))) → (List (List (Int × Int × Int × Bool × Bool))) → Int → Option ((Bool × Unit) × Unit)) (rec1 : (List (Int × Int × Int × Int × Int)) → Int → Int → Int → Int → Int → Int → (List Int) → (List Int) → (List Int) → (List (List (Int × Int × Int × Bool × Bool))) → (List Int) → (List Int) → (List (List (Int × Int × Int × Bool × Bool))) → (List (List (Int × Int × Int × Bool × Bool))) → Int → Option ((Bool × Unit) × Unit)) (j : Nat) (list1'' : (List (Int × Int × Int × Int × Int))) (to5'' : Int) (class6'' : Int) (all7'' : (List Int)) (t15'' : Int) (t16'' : Int) (t19'' : Int) (t30'' : Int) (t31'' : Int) (b0_0'' : Int) (b0_1'' : Int) (b0_2'' : (List Int)) (b0_3'' : (List Int)) (b0_4'' : (List Int)) (b0_5'' : (List (List (Int × Int × Int × Bool × Bool)))) (b0_6'' : (List Int)) (b0_7'' : (List Int)) (b0_8'' : (List (List (Int × Int × Int × Bool × Bool)))) (b0_9'' : (List (List (Int × Int × Int × Bool × Bool)))) (b0_10'' : Int) : Option ((Bool × Unit) × Unit) :=
  iter (fun (rec : g_impl_KeepsOrder.p2.den → Option ((Bool × Unit) × Unit)) s => g_impl_KeepsOrder.F2 k rec0 rec1 (fun list1'' to5'' class6'' all7'' t15'' t16'' t19'' t30'' t31'' b0_0'' b0_1'' b0_2'' b0_3'' b0_4'' b0_5'' b0_6'' b0_7'' b0_8'' b0_9'' b0_10'' => rec (((list1'', ()), (), (to5'', ()), (class6'', ()), (all7'', ()), (t15'', ()), (t16'', ()), (t19'', ()), (t30'', ()), (t31'', ()), ()), ((b0_0'', b0_1'', b0_2'', b0_3'', b0_4'', b0_5'', b0_6'', b0_7'', b0_8'', b0_9'', b0_10'', ()), ()))) s.1.1.1 s.1.2.2.1.1 s.1.2.2.2.1.1 s.1.2.2.2.2.1.1 s.1.2.2.2.2.2.1.1 s.1.2.2.2.2.2.2.1.1 s.1.2.2.2.2.2.2.2.1.1 s.1.2.2.2.2.2.2.2.2.1.1 s.1.2.2.2.2.2.2.2.2.2.1.1 s.2.1.1 s.2.1.2.1 s.2.1.2.2.1 s.2.1.2.2.2.1 s.2.1.2.2.2.2.1 s.2.1.2.2.2.2.2.1 s.2.1.2.2.2.2.2.2.1 s.2.1.2.2.2.2.2.2.2.1 s.2.1.2.2.2.2.2.2.2.2.1 s.2.1.2.2.2.2.2.2.2.2.2.1 s.2.1.2.2.2.2.2.2.2.2.2.2.1) j (((list1'', ()), (), (to5'', ()), (class6'', ()), (all7'', ()), (t15'', ()), (t16'', ()), (t19'', ()), (t30'', ()), (t31'', ()), ()), ((b0_0'', b0_1'', b0_2'', b0_3'', b0_4'', b0_5'', b0_6'', b0_7'', b0_8'', b0_9'', b0_10'', ()), ()))
def g_impl_KeepsOrder.F1 (k : Nat) (rec0 : (List (Int × Int × Int × Int × Int)) → Int → Int → Int → Int → (List Int) → (List Int) → (List Int) → (List (List (Int × Int × Int × Bool × Bool))) → (List Int) → (List Int) → (List (List (Int × Int × Int × Bool × Bool))) → (List (List (Int × Int × Int × Bool × Bool))) → Int → Option ((Bool × Unit) × Unit)) (rec1 : (List (Int × Int × Int × Int × Int)) → Int → Int → Int → Int → Int → Int → (List Int) → (List Int) → (List Int) → (List (List (Int × Int × Int × Bool × Bool))) → (List Int) → (List Int) → (List (List (Int × Int × Int × Bool × Bool))) → (List (List (Int × Int × Int × Bool × Bool))) → Int → Option ((Bool × Unit) × Unit)) (list1' : (List (Int × Int × Int × Int × Int))) (to5' : Int) (t15' : Int) (t16' : Int) (t19' : Int) (b0_0' : Int) (b0_1' : Int) (b0_2' : (List Int)) (b0_3' : (List Int)) (b0_4' : (List Int)) (b0_5' : (List (List (Int × Int × Int × Bool × Bool)))) (b0_6' : (List Int)) (b0_7' : (List Int)) (b0_8' : (List (List (Int × Int × Int × Bool × Bool)))) (b0_9' : (List (List (Int × Int × Int × Bool × Bool)))) (b0_10' : Int) : Option ((Bool × Unit) × Unit) :=
  bif (decide (t19' < 2)) then
    (g_impl_Net_arrived.m k (((b0_0', b0_1'), b0_2'), ((b0_3', b0_4'), (b0_5', (b0_6', (b0_7', (b0_8', (b0_9', b0_10'))))))) to5' t19').bind fun r2 =>
    g_impl_KeepsOrder.L2 k rec0 rec1 k list1' to5' t19' r2.1.1 t15' t16' t19' (b0_9'.length : Int) 0 b0_0' b0_1' b0_2' b0_3' b0_4' b0_5' b0_6' b0_7' b0_8' b0_9' b0_10'
  else
    rec0 list1' t15' (w64 (t16' + 1)) b0_0' b0_1' b0_2' b0_3' b0_4' b0_5' b0_6' b0_7' b0_8' b0_9' b0_10'
def g_impl_KeepsOrder.L1 (k : Nat) (rec0 : (List (Int × Int × Int × Int × Int)) → Int → Int → Int → Int → (List Int) → (List Int) → (List Int) → (List (List (Int × Int × Int × Bool × Bool))) → (List Int) → (List Int) → (List (List (Int × Int × Int × Bool × Bool))) → (List (List (Int × Int × Int × Bool × Bool))) → Int → Option ((Bool × Unit) × Unit)) (j : Nat) (list1' : (List (Int × Int × Int × Int × Int))) (to5' : Int) (t15' : Int) (t16' : Int) (t19' : Int) (b0_0' : Int) (b0_1' : Int) (b0_2' : (List Int)) (b0_3' : (List Int)) (b0_4' : (List Int)) (b0_5' : (List (List (Int × Int × Int × Bool × Bool)))) (b0_6' : (List Int)) (b0_7' : (List Int)) (b0_8' : (List (List (Int × Int × Int × Bool × Bool)))) (b0_9' : (List (List (Int × Int × Int × Bool × Bool)))) (b0_10' : Int) : Option ((Bool × Unit) × Unit) :=
  iter (fun (rec : g_impl_KeepsOrder.p1.den → Option ((Bool × Unit) × Unit)) s => g_impl_KeepsOrder.F1 k rec0 (fun list1' to5' t15' t16' t19' b0_0' b0_1' b0_2' b0_3' b0_4' b0_5' b0_6' b0_7' b0_8' b0_9' b0_10' => rec (((list1', ()), (), (to5', ()), (t15', ()), (t16', ()), (t19', ()), ()), ((b0_0', b0_1', b0_2', b0_3', b0_4', b0_5', b0_6', b0_7', b0_8', b0_9', b0_10', ()), ()))) s.1.1.1 s.1.2.2.1.1 s.1.2.2.2.1.1 s.1.2.2.2.2.1.1 s.1.2.2.2.2.2.1.1 s.2.1.1 s.2.1.2.1 s.2.1.2.2.1 s.2.1.2.2.2.1 s.2.1.2.2.2.2.1 s.2.1.2.2.2.2.2.1 s.2.1.2.2.2.2.2.2.1 s.2.1.2.2.2.2.2.2.2.1 s.2.1.2.2.2.2.2.2.2.2.1 s.2.1.2.2.2.2.2.2.2.2.2.1 s.2.1.2.2.2.2.2.2.2.2.2.2.1) j (((list1', ()), (), (to5', ()), (t15', ()), (t16', ()), (t19', ()), ()), ((b0_0', b0_1', b0_2', b0_3', b0_4', b0_5', b0_6', b0_7', b0_8', b0_9', b0_10', ()), ()))
def g_impl_KeepsOrder.F0 (k : Nat)  (rec0 : (List (Int × Int × Int × Int × Int)) → Int → Int → Int → Int → (List Int) → (List Int) → (List Int) → (List (List (Int × Int × Int × Bool × Bool))) → (List Int) → (List Int) → (List (List (Int × Int × Int × Bool × Bool))) → (List (List (Int × Int × Int × Bool × Bool))) → Int → Option ((Bool × Unit) × Unit)) (list1 : (List (Int × Int × Int × Int × Int))) (t15 : Int) (t16 : Int) (b0_0 : Int) (b0_1 : Int) (b0_2 : (List Int)) (b0_3 : (List Int)) (b0_4 : (List Int)) (b0_5 : (List (List (Int × Int × Int × Bool × Bool)))) (b0_6 : (List Int)) (b0_7 : (List Int)) (b0_8 : (List (List (Int × Int × Int × Bool × Bool)))) (b0_9 : (List (List (Int × Int × Int × Bool × Bool)))) (b0_10 : Int) : Option ((Bool × Unit) × Unit) :=
  bif (decide (t16 < t15)) then
    g_impl_KeepsOrder.L1 k rec0 k list1 t16 t15 t16 0 b0_0 b0_1 b0_2 b0_3 b0_4 b0_5 b0_6 b0_7 b0_8 b0_9 b0_10
  else
    some ((true, ()), ())
def g_impl_KeepsOrder.L0 (k : Nat)  (j : Nat) (list1 : (List (Int × Int × Int × Int × Int))) (t15 : Int) (t16 : Int) (b0_0 : Int) (b0_1 : Int) (b0_2 : (List Int)) (b0_3 : (List Int)) (b0_4 : (List Int)) (b0_5 : (List (List (Int × Int × Int × Bool × Bool)))) (b0_6 : (List Int)) (b0_7 : (List Int)) (b0_8 : (List (List (Int × Int × Int × Bool × Bool)))) (b0_9 : (List (List (Int × Int × Int × Bool × Bool)))) (b0_10 : Int) : Option ((Bool × Unit) × Unit) :=
  iter (fun (rec : g_impl_KeepsOrder.p0.den → Option ((Bool × Unit) × Unit)) s => g_impl_KeepsOrder.F0 k  (fun list1 t15 t16 b0_0 b0_1 b0_2 b0_3 b0_4 b0_5 b0_6 b0_7 b0_8 b0_9 b0_10 => rec (((list1, ()), (), (t15, ()), (t16, ()), ()), ((b0_0, b0_1, b0_2, b0_3, b0_4, b0_5, b0_6, b0_7, b0_8, b0_9, b0_10, ()), ()))) s.1.1.1 s.1.2.2.1.1 s.1.2.2.2.1.1 s.2.1.1 s.2.1.2.1 s.2.1.2.2.1 s.2.1.2.2.2.1 s.2.1.2.2.2.2.1 s.2.1.2.2.2.2.2.1 s.2.1.2.2.2.2.2.2.1 s.2.1.2.2.2.2.2.2.2.1 s.2.1.2.2.2.2.2.2.2.2.1 s.2.1.2.2.2.2.2.2.2.2.2.1 s.2.1.2.2.2.2.2.2.2.2.2.2.1) j (((list1, ()), (), (t15, ()), (t16, ()), ()), ((b0_0, b0_1, b0_2, b0_3, b0_4, b0_5, b0_6, b0_7, b0_8, b0_9, b0_10, ()), ()))
theorem g_impl_KeepsOrder.L2_s (k : Nat) (rec0 : (List (Int × Int × Int × Int × Int)) → Int → Int → Int → Int → (List Int) → (List Int) → (List Int) → (List (List (Int × Int × Int × Bool × Bool))) → (List Int) → (List Int) → (List (List (Int × Int × Int × Bool × Bool))) → (List (List (Int × Int × Int × Bool × Bool))) → Int → Option ((Bool × Unit) × Unit)) (rec1 : (List (Int × Int × Int × Int × Int)) → Int → Int → Int → Int → Int → Int → (List Int) → (List Int) → (List Int) → (List (List (Int × Int × Int × Bool × Bool))) → (List Int) → (List Int) → (List (List (Int × Int × Int × Bool × Bool))) → (List (List (Int × Int × Int × Bool × Bool))) → Int → Option ((Bool × Unit) × Unit)) (j : Nat) (list1'' : (List (Int × Int × Int × Int × Int))) (to5'' : Int) (class6'' : Int) (all7'' : (List Int)) (t15'' : Int) (t16'' : Int) (t19'' : Int) (t30'' : Int) (t31'' : Int) (b0_0'' : Int) (b0_1'' : Int) (b0_2'' : (List Int)) (b0_3'' : (List Int)) (b0_4'' : (List Int)) (b0_5'' : (List (List (Int × Int × Int × Bool × Bool)))) (b0_6'' : (List Int)) (b0_7'' : (List Int)) (b0_8'' : (List (List (Int × Int × Int × Bool × Bool)))) (b0_9'' : (List (List (Int × Int × Int × Bool × Bool)))) (b0_10'' : Int) : g_impl_KeepsOrder.L2 k rec0 rec1 (j + 1) list1'' to5'' class6'' all7'' t15'' t16'' t19'' t30'' t31'' b0_0'' b0_1'' b0_2'' b0_3'' b0_4'' b0_5'' b0_6'' b0_7'' b0_8'' b0_9'' b0_10'' = g_impl_KeepsOrder.F2 k rec0 rec1 (g_impl_KeepsOrder.L2 k rec0 rec1 j) list1'' to5'' class6'' all7'' t15'' t16'' t19'' t30'' t31'' b0_0'' b0_1'' b0_2'' b0_3'' b0_4'' b0_5'' b0_6'' b0_7'' b0_8'' b0_9'' b0_10'' := rfl
theorem g_impl_KeepsOrder.L1_s (k : Nat) (rec0 : (List (Int × Int × Int × Int × Int)) → Int → Int → Int → Int → (List Int) → (List Int) → (List Int) → (List (List (Int × Int × Int × Bool × Bool))) → (List Int) → (List Int) → (List (List (Int × Int × Int × Bool × Bool))) → (List (List (Int × Int × Int × Bool × Bool))) → Int → Option ((Bool × Unit) × Unit)) (j : Nat) (list1' : (List (Int × Int × Int × Int × Int))) (to5' : Int) (t15' : Int) (t16' : Int) (t19' : Int) (b0_0' : Int) (b0_1' : Int) (b0_2' : (List Int)) (b0_3' : (List Int)) (b0_4' : (List Int)) (b0_5' : (List (List (Int × Int × Int × Bool × Bool)))) (b0_6' : (List Int)) (b0_7' : (List Int)) (b0_8' : (List (List (Int × Int × Int × Bool × Bool)))) (b0_9' : (List (List (Int × Int × Int × Bool × Bool)))) (b0_10' : Int) : g_impl_KeepsOrder.L1 k rec0 (j + 1) list1' to5' t15' t16' t19' b0_0' b0_1' b0_2' b0_3' b0_4' b0_5' b0_6' b0_7' b0_8' b0_9' b0_10' = g_impl_KeepsOrder.F1 k rec0 (g_impl_KeepsOrder.L1 k rec0 j) list1' to5' t15' t16' t19' b0_0' b0_1' b0_2' b0_3' b0_4' b0_5' b0_6' b0_7' b0_8' b0_9' b0_10' := rfl
theorem g_impl_KeepsOrder.L0_s (k : Nat)  (j : Nat) (list1 : (List (Int × Int × Int × Int × Int))) (t15 : Int) (t16 : Int) (b0_0 : Int) (b0_1 : Int) (b0_2 : (List Int)) (b0_3 : (List Int)) (b0_4 : (List Int)) (b0_5 : (List (List (Int × Int × Int × Bool × Bool)))) (b0_6 : (List Int)) (b0_7 : (List Int)) (b0_8 : (List (List (Int × Int × Int × Bool × Bool)))) (b0_9 : (List (List (Int × Int × Int × Bool × Bool)))) (b0_10 : Int) : g_impl_KeepsOrder.L0 k  (j + 1) list1 t15 t16 b0_0 b0_1 b0_2 b0_3 b0_4 b0_5 b0_6 b0_7 b0_8 b0_9 b0_10 = g_impl_KeepsOrder.F0 k  (g_impl_KeepsOrder.L0 k  j) list1 t15 t16 b0_0 b0_1 b0_2 b0_3 b0_4 b0_5 b0_6 b0_7 b0_8 b0_9 b0_10 := rfl
def g_impl_KeepsOrder.m (k : Nat) (n0_ : ((Int × Int) × List Int) × ((List Int) × List Int) × (List (List (Int × Int × Int × Bool × Bool))) × (List Int) × (List Int) × (List (List (Int × Int × Int × Bool × Bool))) × (List (List (Int × Int × Int × Bool × Bool))) × Int) (list1_ : List (Int × Int × Int × Int × Int)) : Option ((Bool × Unit) × Unit) :=
  (g_impl_NetOk.m k n0_).bind fun r1 =>
  bif (!r1.1.1) then
    some ((false, ()), ())
  else
    g_impl_KeepsOrder.L0 k k list1_ (n0_.2.2.2.2.2.2.1.length : Int) 0 n0_.1.1.1 n0_.1.1.2 n0_.1.2 n0_.2.1.1 n0_.2.1.2 n0_.2.2.1 n0_.2.2.2.1 n0_.2.2.2.2.1 n0_.2.2.2.2.2.1 n0_.2.2.2.2.2.2.1 n0_.2.2.2.2.2.2.2
def g_impl_KeepsOrder.e : Entry Try.prog := mkEntry Dl [g_impl_NetOk.e, g_impl_Net_arrived.e, g_impl_sentAmong.e, g_impl_SentFrom.e, g_impl_IsPrefixOf.e] (fun n => false) [(11, g_impl_KeepsOrder.p2), (7, g_impl_KeepsOrder.p1), (4, g_impl_KeepsOrder.p0)] hm 38 Try.f38 (by kernel_rfl) (by kernel_rfl) (by kernel_rfl) [.v (.pair (.pair (.pair (.int .i64) (.int .i64)) (.sl (.int .i64))) (.pair (.pair (.sl (.int .i64)) (.sl (.int .i64))) (.pair (.sl (.sl (.pair (.int .i64) (.pair (.int .i64) (.pair (.int .i64) (.pair .bool .bool)))))) (.pair (.sl (.int .i64)) (.pair (.sl (.int .i64)) (.pair (.sl (.sl (.pair (.int .i64) (.pair (.int .i64) (.pair (.int .i64) (.pair .bool .bool)))))) (.pair (.sl (.sl (.pair (.int .i64) (.pair (.int .i64) (.pair (.int .i64) (.pair .bool .bool)))))) (.int .i64)))))))) true, .v (.sl (.pair (.int .i64) (.pair (.int .i64) (.pair (.int .i64) (.pair (.int .i64) (.int .i64)))))) false] [(false, [.v .bool])] (fun k a => g_impl_KeepsOrder.m k a.1 a.2.1) (fun k a => by kernel_rfl)
/- 10 loop.example/g00984/impl.ChipOk -/
def g_impl_ChipOk.p0 : LPat := ⟨43, [(1, false, [.p 0 0]), (16, false, [.v (.sl (.pair (.int .i64) (.pair (.int .i64) (.pair (.int .i64) (.pair (.int .i64) (.int .i64))))))]), (17, false, [.v (.int .i64)]), (18, false, [.v (.int .i64)])], [some [.v (.int .i64), .v (.int .i64), .v (.sl (.int .i64)), .v (.sl (.int .i64)), .v (.sl (.int .i64)), .v (.sl (.sl (.pair (.int .i64) (.pair (.int .i64) (.pair (.int .i64) (.pair .bool .bool)))))), .v (.sl (.int .i64)), .v (.sl (.int .i64)), .v (.sl (.sl (.pair (.int .i64) (.pair (.int .i64) (.pair (.int .i64) (.pair .bool .bool)))))), .v (.sl (.sl (.pair (.int .i64) (.pair (.int .i64) (.pair (.int .i64) (.pair .bool .bool)))))), .v (.int .i64), .v (.sl (.pair (.int .i64) (.pair (.int .i64) (.pair (.int .i64) (.pair (.int .i64) (.int .i64))))))]]⟩
def g_impl_ChipOk.F0 (k : Nat)  (rec0 : (List (Int × Int × Int × Int × Int)) → Int → Int → Int → Int → (List Int) → (List Int) → (List Int) → (List (List (Int × Int × Int × Bool × Bool))) → (List Int) → (List Int) → (List (List (Int × Int × Int × Bool × Bool))) → (List (List (Int × Int × Int × Bool × Bool))) → Int → (List (Int × Int × Int × Int × Int)) → Option ((Bool × Unit) × Unit)) (t16 : (List (Int × Int × Int × Int × Int))) (t17 : Int) (t18 : Int) (b0_0 : Int) (b0_1 : Int) (b0_2 : (List Int)) (b0_3 : (List Int)) (b0_4 : (List Int)) (b0_5 : (List (List (Int × Int × Int × Bool × Bool)))) (b0_6 : (List Int)) (b0_7 : (List Int)) (b0_8 : (List (List (Int × Int × Int × Bool × Bool)))) (b0_9 : (List (List (Int × Int × Int × Bool × Bool)))) (b0_10 : Int) (b0_11 : (List (Int × Int × Int × Int × Int))) : Option ((Bool × Unit) × Unit) :=
  bif (decide (t18 < t17)) then
    bif ((decide (0 ≤ t18)) && (decide (t18 < (t16.length : Int)))) then
      Option.bind (
        (g_impl_PacketOk.m k (b0_0, b0_1) (List.getD t16 t18.toNat ((0), ((0), ((0), ((0), (0))))))).bind fun r3 =>
        bif (!r3.1.1) then
          some true
        else
          some ((List.getD t16 t18.toNat ((0), ((0), ((0), ((0), (0)))))).1 != (w64 (t18 + 1)))) fun b4 =>
      bif b4 then
        some ((false, ()), ())
      else
        rec0 t16 t17 (w64 (t18 + 1)) b0_0 b0_1 b0_2 b0_3 b0_4 b0_5 b0_6 b0_7 b0_8 b0_9 b0_10 b0_11
    else none
  else
    (g_impl_KeepsOrder.m k (((b0_0, b0_1), b0_2), ((b0_3, b0_4), (b0_5, (b0_6, (b0_7, (b0_8, (b0_9, b0_10))))))) b0_11).bind fun r5 =>
    some ((r5.1.1, ()), ())
def g_impl_ChipOk.L0 (k : Nat)  (j : Nat) (t16 : (List (Int × Int × Int × Int × Int))) (t17 : Int) (t18 : Int) (b0_0 : Int) (b0_1 : Int) (b0_2 : (List Int)) (b0_3 : (List Int)) (b0_4 : (List Int)) (b0_5 : (List (List (Int × Int × Int × Bool × Bool)))) (b0_6 : (List Int)) (b0_7 : (List Int)) (b0_8 : (List (List (Int × Int × Int × Bool × Bool)))) (b0_9 : (List (List (Int × Int × Int × Bool × Bool)))) (b0_10 : Int) (b0_11 : (List (Int × Int × Int × Int × Int))) : Option ((Bool × Unit) × Unit) :=
  iter (fun (rec : g_impl_ChipOk.p0.den → Option ((Bool × Unit) × Unit)) s => g_impl_ChipOk.F0 k  (fun t16 t17 t18 b0_0 b0_1 b0_2 b0_3 b0_4 b0_5 b0_6 b0_7 b0_8 b0_9 b0_10 b0_11 => rec (((), (t16, ()), (t17, ()), (t18, ()), ()), ((b0_0, b0_1, b0_2, b0_3, b0_4, b0_5, b0_6, b0_7, b0_8, b0_9, b0_10, b0_11, ()), ()))) s.1.2.1.1 s.1.2.2.1.1 s.1.2.2.2.1.1 s.2.1.1 s.2.1.2.1 s.2.1.2.2.1 s.2.1.2.2.2.1 s.2.1.2.2.2.2.1 s.2.1.2.2.2.2.2.1 s.2.1.2.2.2.2.2.2.1 s.2.1.2.2.2.2.2.2.2.1 s.2.1.2.2.2.2.2.2.2.2.1 s.2.1.2.2.2.2.2.2.2.2.2.1 s.2.1.2.2.2.2.2.2.2.2.2.2.1 s.2.1.2.2.2.2.2.2.2.2.2.2.2.1) j (((), (t16, ()), (t17, ()), (t18, ()), ()), ((b0_0, b0_1, b0_2, b0_3, b0_4, b0_5, b0_6, b0_7, b0_8, b0_9, b0_10, b0_11, ()), ()))
theorem g_impl_ChipOk.L0_s (k : Nat)  (j : Nat) (t16 : (List (Int × Int × Int × Int × Int))) (t17 : Int) (t18 : Int) (b0_0 : Int) (b0_1 : Int) (b0_2 : (List Int)) (b0_3 : (List Int)) (b0_4 : (List Int)) (b0_5 : (List (List (Int × Int × Int × Bool × Bool)))) (b0_6 : (List Int)) (b0_7 : (List Int)) (b0_8 : (List (List (Int × Int × Int × Bool × Bool)))) (b0_9 : (List (List (Int × Int × Int × Bool × Bool)))) (b0_10 : Int) (b0_11 : (List (Int × Int × Int × Int × Int))) : g_impl_ChipOk.L0 k  (j + 1) t16 t17 t18 b0_0 b0_1 b0_2 b0_3 b0_4 b0_5 b0_6 b0_7 b0_8 b0_9 b0_10 b0_11 = g_impl_ChipOk.F0 k  (g_impl_ChipOk.L0 k  j) t16 t17 t18 b0_0 b0_1 b0_2 b0_3 b0_4 b0_5 b0_6 b0_7 b0_8 b0_9 b0_10 b0_11 := rfl
def g_impl_ChipOk.m (k : Nat) (c0_ : (((Int × Int) × List Int) × ((List Int) × List Int) × (List (List (Int × Int × Int × Bool × Bool))) × (List Int) × (List Int) × (List (List (Int × Int × Int × Bool × Bool))) × (List (List (Int × Int × Int × Bool × Bool))) × Int) × List (Int × Int × Int × Int × Int)) : Option ((Bool × Unit) × Unit) :=
  Option.bind (
    (g_impl_NetOk.m k c0_.1).bind fun r1 =>
    bif (!r1.1.1) then
      some true
    else
      some (decide ((c0_.2.length : Int) > 200))) fun b2 =>
  bif b2 then
    some ((false, ()), ())
  else
    g_impl_ChipOk.L0 k k c0_.2 (c0_.2.length : Int) 0 c0_.1.1.1.1 c0_.1.1.1.2 c0_.1.1.2 c0_.1.2.1.1 c0_.1.2.1.2 c0_.1.2.2.1 c0_.1.2.2.2.1 c0_.1.2.2.2.2.1 c0_.1.2.2.2.2.2.1 c0_.1.2.2.2.2.2.2.1 c0_.1.2.2.2.2.2.2.2 c0_.2
def g_impl_ChipOk.e : Entry Try.prog := mkEntry Dl [g_impl_NetOk.e, g_impl_PacketOk.e, g_impl_KeepsOrder.e] (fun n => n == 1 || n == 6) [(4, g_impl_ChipOk.p0)] hm 10 Try.f10 (by kernel_rfl) (by kernel_rfl) (by kernel_rfl) [.v (.pair (.pair (.pair (.pair (.int .i64) (.int .i64)) (.sl (.int .i64))) (.pair (.pair (.sl (.int .i64)) (.sl (.int .i64))) (.pair (.sl (.sl (.pair (.int .i64) (.pair (.int .i64) (.pair (.int .i64) (.pair .bool .bool)))))) (.pair (.sl (.int .i64)) (.pair (.sl (.int .i64)) (.pair (.sl (.sl (.pair (.int .i64) (.pair (.int .i64) (.pair (.int .i64) (.pair .bool .bool)))))) (.pair (.sl (.sl (.pair (.int .i64) (.pair (.int .i64) (.pair (.int .i64) (.pair .bool .bool)))))) (.int .i64)))))))) (.sl (.pair (.int .i64) (.pair (.int .i64) (.pair (.int .i64) (.pair (.int .i64) (.int .i64))))))) true] [(false, [.v .bool])] (fun k a => g_impl_ChipOk.m k a.1) (fun k a => by kernel_rfl)
/- 63 loop.example/g00984/laws.eqGrid -/
def g_laws_eqGrid.m (k : Nat) (a0_ : Int × Int) (b1_ : Int × Int) : Option ((Bool × Unit) × Unit) :=
  bif (a0_.1 != b1_.1) then
    some ((false, ()), ())
  else
    bif (a0_.2 != b1_.2) then
      some ((false, ()), ())
    else
      some ((true, ()), ())
def g_laws_eqGrid.e : Entry Try.prog := mkEntry Dl [] (fun n => false) [] hm 63 Try.f63 (by kernel_rfl) (by kernel_rfl) (by kernel_rfl) [.v (.pair (.int .i64) (.int .i64)) true, .v (.pair (.int .i64) (.int .i64)) true] [(false, [.v .bool])] (fun k a => g_laws_eqGrid.m k a.1 a.2.1) (fun k a => by kernel_rfl)
/- 64 loop.example/g00984/laws.eqIntS -/
def g_laws_eqIntS.p0 : LPat := ⟨26, [(0, false, [.v (.sl (.int .i64))]), (1, false, [.v (.sl (.int .i64))]), (5, false, [.v (.int .i64)])], []⟩
def g_laws_eqIntS.F0 (k : Nat)  (rec0 : (List Int) → (List Int) → Int → Option ((Bool × Unit) × Unit)) (a0 : (List Int)) (b1 : (List Int)) (i5 : Int) : Option ((Bool × Unit) × Unit) :=
  bif (decide (i5 < (a0.length : Int))) then
    bif ((decide (0 ≤ i5)) && (decide (i5 < (a0.length : Int)))) then
      bif ((decide (0 ≤ i5)) && (decide (i5 < (b1.length : Int)))) then
        bif ((List.getD a0 i5.toNat 0) != (List.getD b1 i5.toNat 0)) then
          some ((false, ()), ())
        else
          rec0 a0 b1 (w64 (i5 + 1))
      else none
    else none
  else
    some ((true, ()), ())
def g_laws_eqIntS.L0 (k : Nat)  (j : Nat) (a0 : (List Int)) (b1 : (List Int)) (i5 : Int) : Option ((Bool × Unit) × Unit) :=
  iter (fun (rec : g_laws_eqIntS.p0.den → Option ((Bool × Unit) × Unit)) s => g_laws_eqIntS.F0 k  (fun a0 b1 i5 => rec (((a0, ()), (b1, ()), (i5, ()), ()), ())) s.1.1.1 s.1.2.1.1 s.1.2.2.1.1) j (((a0, ()), (b1, ()), (i5, ()), ()), ())
theorem g_laws_eqIntS.L0_s (k : Nat)  (j : Nat) (a0 : (List Int)) (b1 : (List Int)) (i5 : Int) : g_laws_eqIntS.L0 k  (j + 1) a0 b1 i5 = g_laws_eqIntS.F0 k  (g_laws_eqIntS.L0 k  j) a0 b1 i5 := rfl
def g_laws_eqIntS.m (k : Nat) (a0_ : List Int) (b1_ : List Int) : Option ((Bool × Unit) × Unit) :=
  bif ((a0_.length : Int) != (b1_.length : Int)) then
    some ((false, ()), ())
  else
    g_laws_eqIntS.L0 k k a0_ b1_ 0
def g_laws_eqIntS.e : Entry Try.prog := mkEntry Dl [] (fun n => false) [(4, g_laws_eqIntS.p0)] hm 64 Try.f64 (by kernel_rfl) (by kernel_rfl) (by kernel_rfl) [.v (.sl (.int .i64)) false, .v (.sl (.int .i64)) false] [(false, [.v .bool])] (fun k a => g_laws_eqIntS.m k a.1 a.2.1) (fun k a => by kernel_rfl)
/- 21 loop.example/g00984/laws.eqMesh -/
def g_laws_eqMesh.m (k : Nat) (a0_ : (Int × Int) × List Int) (b1_ : (Int × Int) × List Int) : Option ((Bool × Unit) × Unit) :=
  (g_laws_eqGrid.m k a0_.1 b1_.1).bind fun r1 =>
  bif (!r1.1.1) then
    some ((false, ()), ())
  else
    (g_laws_eqIntS.m k a0_.2 b1_.2).bind fun r2 =>
    bif (!r2.1.1) then
      some ((false, ()), ())
    else
      some ((true, ()), ())
def g_laws_eqMesh.e : Entry Try.prog := mkEntry Dl [g_laws_eqGrid.e, g_laws_eqIntS.e] (fun n => false) [] hm 21 Try.f21 (by kernel_rfl) (by kernel_rfl) (by kernel_rfl) [.v (.pair (.pair (.int .i64) (.int .i64)) (.sl (.int .i64))) true, .v (.pair (.pair (.int .i64) (.int .i64)) (.sl (.int .i64))) true] [(false, [.v .bool])] (fun k a => g_laws_eqMesh.m k a.1 a.2.1) (fun k a => by kernel_rfl)
/- 65 loop.example/g00984/laws.eqTable -/
def g_laws_eqTable.m (k : Nat) (a0_ : List Int) (b1_ : List Int) : Option ((Bool × Unit) × Unit) :=
  (g_laws_eqIntS.m k a0_ b1_).bind fun r1 =>
  bif (!r1.1.1) then
    some ((false, ()), ())
  else
    some ((true, ()), ())
def g_laws_eqTable.e : Entry Try.prog := mkEntry Dl [g_laws_eqIntS.e] (fun n => false) [] hm 65 Try.f65 (by kernel_rfl) (by kernel_rfl) (by kernel_rfl) [.v (.sl (.int .i64)) true, .v (.sl (.int .i64)) true] [(false, [.v .bool])] (fun k a => g_laws_eqTable.m k a.1 a.2.1) (fun k a => by kernel_rfl)
/- 22 loop.example/g00984/laws.eqClasses -/
def g_laws_eqClasses.m (k : Nat) (a0_ : (List Int) × List Int) (b1_ : (List Int) × List Int) : Option ((Bool × Unit) × Unit) :=
  (g_laws_eqTable.m k a0_.1 b1_.1).bind fun r1 =>
  bif (!r1.1.1) then
    some ((false, ()), ())
  else
    (g_laws_eqTable.m k a0_.2 b1_.2).bind fun r2 =>
    bif (!r2.1.1) then
      some ((false, ()), ())
    else
      some ((true, ()), ())
def g_laws_eqClasses.e : Entry Try.prog := mkEntry Dl [g_laws_eqTable.e] (fun n => false) [] hm 22 Try.f22 (by kernel_rfl) (by kernel_rfl) (by kernel_rfl) [.v (.pair (.sl (.int .i64)) (.sl (.int .i64))) true, .v (.pair (.sl (.int .i64)) (.sl (.int .i64))) true] [(false, [.v .bool])] (fun k a => g_laws_eqClasses.m k a.1 a.2.1) (fun k a => by kernel_rfl)
/- 143 loop.example/g00984/laws.eqFlit -/
def g_laws_eqFlit.m (k : Nat) (a0_ : Int × Int × Int × Bool × Bool) (b1_ : Int × Int × Int × Bool × Bool) : Option ((Bool × Unit) × Unit) :=
  bif (a0_.1 != b1_.1) then
    some ((false, ()), ())
  else
    bif (a0_.2.1 != b1_.2.1) then
      some ((false, ()), ())
    else
      bif (a0_.2.2.1 != b1_.2.2.1) then
        some ((false, ()), ())
      else
        bif (!(a0_.2.2.2.1 == b1_.2.2.2.1)) then
          some ((false, ()), ())
        else
          bif (!(a0_.2.2.2.2 == b1_.2.2.2.2)) then
            some ((false, ()), ())
          else
            some ((true, ()), ())
def g_laws_eqFlit.e : Entry Try.prog := mkEntry Dl [] (fun n => false) [] hm 143 Try.f143 (by kernel_rfl) (by kernel_rfl) (by kernel_rfl) [.v (.pair (.int .i64) (.pair (.int .i64) (.pair (.int .i64) (.pair .bool .bool)))) true, .v (.pair (.int .i64) (.pair (.int .i64) (.pair (.int .i64) (.pair .bool .bool)))) true] [(false, [.v .bool])] (fun k a => g_laws_eqFlit.m k a.1 a.2.1) (fun k a => by kernel_rfl)
/- 125 loop.example/g00984/laws.eqFlitS -/
def g_laws_eqFlitS.p0 : LPat := ⟨27, [(0, false, [.v (.sl (.pair (.int .i64) (.pair (.int .i64) (.pair (.int .i64) (.pair .bool .bool)))))]), (1, false, [.v (.sl (.pair (.int .i64) (.pair (.int .i64) (.pair (.int .i64) (.pair .bool .bool)))))]), (5, false, [.v (.int .i64)])], []⟩
def g_laws_eqFlitS.F0 (k : Nat)  (rec0 : (List (Int × Int × Int × Bool × Bool)) → (List (Int × Int × Int × Bool × Bool)) → Int → Option ((Bool × Unit) × Unit)) (a0 : (List (Int × Int × Int × Bool × Bool))) (b1 : (List (Int × Int × Int × Bool × Bool))) (i5 : Int) : Option ((Bool × Unit) × Unit) :=
  bif (decide (i5 < (a0.length : Int))) then
    bif ((decide (0 ≤ i5)) && (decide (i5 < (a0.length : Int)))) then
      bif ((decide (0 ≤ i5)) && (decide (i5 < (b1.length : Int)))) then
        (g_laws_eqFlit.m k (List.getD a0 i5.toNat ((0), ((0), ((0), (false, false))))) (List.getD b1 i5.toNat ((0), ((0), ((0), (false, false)))))).bind fun r1 =>
        bif (!r1.1.1) then
          some ((false, ()), ())
        else
          rec0 a0 b1 (w64 (i5 + 1))
      else none
    else none
  else
    some ((true, ()), ())
def g_laws_eqFlitS.L0 (k : Nat)  (j : Nat) (a0 : (List (Int × Int × Int × Bool × Bool))) (b1 : (List (Int × Int × Int × Bool × Bool))) (i5 : Int) : Option ((Bool × Unit) × Unit) :=
  iter (fun (rec : g_laws_eqFlitS.p0.den → Option ((Bool × Unit) × Unit)) s => g_laws_eqFlitS.F0 k  (fun a0 b1 i5 => rec (((a0, ()), (b1, ()), (i5, ()), ()), ())) s.1.1.1 s.1.2.1.1 s.1.2.2.1.1) j (((a0, ()), (b1, ()), (i5, ()), ()), ())
theorem g_laws_eqFlitS.L0_s (k : Nat)  (j : Nat) (a0 : (List (Int × Int × Int × Bool × Bool))) (b1 : (List (Int × Int × Int × Bool × Bool))) (i5 : Int) : g_laws_eqFlitS.L0 k  (j + 1) a0 b1 i5 = g_laws_eqFlitS.F0 k  (g_laws_eqFlitS.L0 k  j) a0 b1 i5 := rfl
def g_laws_eqFlitS.m (k : Nat) (a0_ : List (Int × Int × Int × Bool × Bool)) (b1_ : List (Int × Int × Int × Bool × Bool)) : Option ((Bool × Unit) × Unit) :=
  bif ((a0_.length : Int) != (b1_.length : Int)) then
    some ((false, ()), ())
  else
    g_laws_eqFlitS.L0 k k a0_ b1_ 0
def g_laws_eqFlitS.e : Entry Try.prog := mkEntry Dl [g_laws_eqFlit.e] (fun n => false) [(4, g_laws_eqFlitS.p0)] hm 125 Try.f125 (by kernel_rfl) (by kernel_rfl) (by kernel_rfl) [.v (.sl (.pair (.int .i64) (.pair (.int .i64) (.pair (.int .i64) (.pair .bool .bool))))) false, .v (.sl (.pair (.int .i64) (.pair (.int .i64) (.pair (.int .i64) (.pair .bool .bool))))) false] [(false, [.v .bool])] (fun k a => g_laws_eqFlitS.m k a.1 a.2.1) (fun k a => by kernel_rfl)
/- 90 loop.example/g00984/laws.eqFlitSS -/
def g_laws_eqFlitSS.p0 : LPat := ⟨27, [(0, false, [.v (.sl (.sl (.pair (.int .i64) (.pair (.int .i64) (.pair (.int .i64) (.pair .bool .bool))))))]), (1, false, [.v (.sl (.sl (.pair (.int .i64) (.pair (.int .i64) (.pair (.int .i64) (.pair .bool .bool))))))]), (5, false, [.v (.int .i64)])], []⟩
def g_laws_eqFlitSS.F0 (k : Nat)  (rec0 : (List (List (Int × Int × Int × Bool × Bool))) → (List (List (Int × Int × Int × Bool × Bool))) → Int → Option ((Bool × Unit) × Unit)) (a0 : (List (List (Int × Int × Int × Bool × Bool)))) (b1 : (List (List (Int × Int × Int × Bool × Bool)))) (i5 : Int) : Option ((Bool × Unit) × Unit) :=
  bif (decide (i5 < (a0.length : Int))) then
    bif ((decide (0 ≤ i5)) && (decide (i5 < (a0.length : Int)))) then
      bif ((decide (0 ≤ i5)) && (decide (i5 < (b1.length : Int)))) then
        (g_laws_eqFlitS.m k (List.getD a0 i5.toNat ([] : List (Int × Int × Int × Bool × Bool))) (List.getD b1 i5.toNat ([] : List (Int × Int × Int × Bool × Bool)))).bind fun r1 =>
        bif (!r1.1.1) then
          some ((false, ()), ())
        else
          rec0 a0 b1 (w64 (i5 + 1))
      else none
    else none
  else
    some ((true, ()), ())
def g_laws_eqFlitSS.L0 (k : Nat)  (j : Nat) (a0 : (List (List (Int × Int × Int × Bool × Bool)))) (b1 : (List (List (Int × Int × Int × Bool × Bool)))) (i5 : Int) : Option ((Bool × Unit) × Unit) :=
  iter (fun (rec : g_laws_eqFlitSS.p0.den → Option ((Bool × Unit) × Unit)) s => g_laws_eqFlitSS.F0 k  (fun a0 b1 i5 => rec (((a0, ()), (b1, ()), (i5, ()), ()), ())) s.1.1.1 s.1.2.1.1 s.1.2.2.1.1) j (((a0, ()), (b1, ()), (i5, ()), ()), ())
theorem g_laws_eqFlitSS.L0_s (k : Nat)  (j : Nat) (a0 : (List (List (Int × Int × Int × Bool × Bool)))) (b1 : (List (List (Int × Int × Int × Bool × Bool)))) (i5 : Int) : g_laws_eqFlitSS.L0 k  (j + 1) a0 b1 i5 = g_laws_eqFlitSS.F0 k  (g_laws_eqFlitSS.L0 k  j) a0 b1 i5 := rfl
def g_laws_eqFlitSS.m (k : Nat) (a0_ : List (List (Int × Int × Int × Bool × Bool))) (b1_ : List (List (Int × Int × Int × Bool × Bool))) : Option ((Bool × Unit) × Unit) :=
  bif ((a0_.length : Int) != (b1_.length : Int)) then
    some ((false, ()), ())
  else
    g_laws_eqFlitSS.L0 k k a0_ b1_ 0
def g_laws_eqFlitSS.e : Entry Try.prog := mkEntry Dl [g_laws_eqFlitS.e] (fun n => false) [(4, g_laws_eqFlitSS.p0)] hm 90 Try.f90 (by kernel_rfl) (by kernel_rfl) (by kernel_rfl) [.v (.sl (.sl (.pair (.int .i64) (.pair (.int .i64) (.pair (.int .i64) (.pair .bool .bool)))))) false, .v (.sl (.sl (.pair (.int .i64) (.pair (.int .i64) (.pair (.int .i64) (.pair .bool .bool)))))) false] [(false, [.v .bool])] (fun k a => g_laws_eqFlitSS.m k a.1 a.2.1) (fun k a => by kernel_rfl)
/- 39 loop.example/g00984/laws.eqNet -/
def g_laws_eqNet.m (k : Nat) (a0_ : ((Int × Int) × List Int) × ((List Int) × List Int) × (List (List (Int × Int × Int × Bool × Bool))) × (List Int) × (List Int) × (List (List (Int × Int × Int × Bool × Bool))) × (List (List (Int × Int × Int × Bool × Bool))) × Int) (b1_ : ((Int × Int) × List Int) × ((List Int) × List Int) × (List (List (Int × Int × Int × Bool × Bool))) × (List Int) × (List Int) × (List (List (Int × Int × Int × Bool × Bool))) × (List (List (Int × Int × Int × Bool × Bool))) × Int) : Option ((Bool × Unit) × Unit) :=
  (g_laws_eqMesh.m k a0_.1 b1_.1).bind fun r1 =>
  bif (!r1.1.1) then
    some ((false, ()), ())
  else
    (g_laws_eqClasses.m k a0_.2.1 b1_.2.1).bind fun r2 =>
    bif (!r2.1.1) then
      some ((false, ()), ())
    else
      (g_laws_eqFlitSS.m k a0_.2.2.1 b1_.2.2.1).bind fun r3 =>
      bif (!r3.1.1) then
        some ((false, ()), ())
      else
        (g_laws_eqIntS.m k a0_.2.2.2.1 b1_.2.2.2.1).bind fun r4 =>
        bif (!r4.1.1) then
          some ((false, ()), ())
        else
          (g_laws_eqIntS.m k a0_.2.2.2.2.1 b1_.2.2.2.2.1).bind fun r5 =>
          bif (!r5.1.1) then
            some ((false, ()), ())
          else
            (g_laws_eqFlitSS.m k a0_.2.2.2.2.2.1 b1_.2.2.2.2.2.1).bind fun r6 =>
            bif (!r6.1.1) then
              some ((false, ()), ())
            else
              (g_laws_eqFlitSS.m k a0_.2.2.2.2.2.2.1 b1_.2.2.2.2.2.2.1).bind fun r7 =>
              bif (!r7.1.1) then
                some ((false, ()), ())
              else
                bif (a0_.2.2.2.2.2.2.2 != b1_.2.2.2.2.2.2.2) then
                  some ((false, ()), ())
                else
                  some ((true, ()), ())
def g_laws_eqNet.e : Entry Try.prog := mkEntry Dl [g_laws_eqMesh.e, g_laws_eqClasses.e, g_laws_eqFlitSS.e, g_laws_eqIntS.e] (fun n => false) [] hm 39 Try.f39 (by kernel_rfl) (by kernel_rfl) (by kernel_rfl) [.v (.pair (.pair (.pair (.int .i64) (.int .i64)) (.sl (.int .i64))) (.pair (.pair (.sl (.int .i64)) (.sl (.int .i64))) (.pair (.sl (.sl (.pair (.int .i64) (.pair (.int .i64) (.pair (.int .i64) (.pair .bool .bool)))))) (.pair (.sl (.int .i64)) (.pair (.sl (.int .i64)) (.pair (.sl (.sl (.pair (.int .i64) (.pair (.int .i64) (.pair (.int .i64) (.pair .bool .bool)))))) (.pair (.sl (.sl (.pair (.int .i64) (.pair (.int .i64) (.pair (.int .i64) (.pair .bool .bool)))))) (.int .i64)))))))) true, .v (.pair (.pair (.pair (.int .i64) (.int .i64)) (.sl (.int .i64))) (.pair (.pair (.sl (.int .i64)) (.sl (.int .i64))) (.pair (.sl (.sl (.pair (.int .i64) (.pair (.int .i64) (.pair (.int .i64) (.pair .bool .bool)))))) (.pair (.sl (.int .i64)) (.pair (.sl (.int .i64)) (.pair (.sl (.sl (.pair (.int .i64) (.pair (.int .i64) (.pair (.int .i64) (.pair .bool .bool)))))) (.pair (.sl (.sl (.pair (.int .i64) (.pair (.int .i64) (.pair (.int .i64) (.pair .bool .bool)))))) (.int .i64)))))))) true] [(false, [.v .bool])] (fun k a => g_laws_eqNet.m k a.1 a.2.1) (fun k a => by kernel_rfl)
/- 91 loop.example/g00984/laws.eqPacket -/
def g_laws_eqPacket.m (k : Nat) (a0_ : Int × Int × Int × Int × Int) (b1_ : Int × Int × Int × Int × Int) : Option ((Bool × Unit) × Unit) :=
  bif (a0_.1 != b1_.1) then
    some ((false, ()), ())
  else
    bif (a0_.2.1 != b1_.2.1) then
      some ((false, ()), ())
    else
      bif (a0_.2.2.1 != b1_.2.2.1) then
        some ((false, ()), ())
      else
        bif (a0_.2.2.2.1 != b1_.2.2.2.1) then
          some ((false, ()), ())
        else
          bif (a0_.2.2.2.2 != b1_.2.2.2.2) then
            some ((false, ()), ())
          else
            some ((true, ()), ())
def g_laws_eqPacket.e : Entry Try.prog := mkEntry Dl [] (fun n => false) [] hm 91 Try.f91 (by kernel_rfl) (by kernel_rfl) (by kernel_rfl) [.v (.pair (.int .i64) (.pair (.int .i64) (.pair (.int .i64) (.pair (.int .i64) (.int .i64))))) true, .v (.pair (.int .i64) (.pair (.int .i64) (.pair (.int .i64) (.pair (.int .i64) (.int .i64))))) true] [(false, [.v .bool])] (fun k a => g_laws_eqPacket.m k a.1 a.2.1) (fun k a => by kernel_rfl)
/- 40 loop.example/g00984/laws.eqPacketS -/
def g_laws_eqPacketS.p0 : LPat := ⟨27, [(0, false, [.v (.sl (.pair (.int .i64) (.pair (.int .i64) (.pair (.int .i64) (.pair (.int .i64) (.int .i64))))))]), (1, false, [.v (.sl (.pair (.int .i64) (.pair (.int .i64) (.pair (.int .i64) (.pair (.int .i64) (.int .i64))))))]), (5, false, [.v (.int .i64)])], []⟩
def g_laws_eqPacketS.F0 (k : Nat)  (rec0 : (List (Int × Int × Int × Int × Int)) → (List (Int × Int × Int × Int × Int)) → Int → Option ((Bool × Unit) × Unit)) (a0 : (List (Int × Int × Int × Int × Int))) (b1 : (List (Int × Int × Int × Int × Int))) (i5 : Int) : Option ((Bool × Unit) × Unit) :=
  bif (decide (i5 < (a0.length : Int))) then
    bif ((decide (0 ≤ i5)) && (decide (i5 < (a0.length : Int)))) then
      bif ((decide (0 ≤ i5)) && (decide (i5 < (b1.length : Int)))) then
        (g_laws_eqPacket.m k (List.getD a0 i5.toNat ((0), ((0), ((0), ((0), (0)))))) (List.getD b1 i5.toNat ((0), ((0), ((0), ((0), (0))))))).bind fun r1 =>
        bif (!r1.1.1) then
          some ((false, ()), ())
        else
          rec0 a0 b1 (w64 (i5 + 1))
      else none
    else none
  else
    some ((true, ()), ())
def g_laws_eqPacketS.L0 (k : Nat)  (j : Nat) (a0 : (List (Int × Int × Int × Int × Int))) (b1 : (List (Int × Int × Int × Int × Int))) (i5 : Int) : Option ((Bool × Unit) × Unit) :=
  iter (fun (rec : g_laws_eqPacketS.p0.den → Option ((Bool × Unit) × Unit)) s => g_laws_eqPacketS.F0 k  (fun a0 b1 i5 => rec (((a0, ()), (b1, ()), (i5, ()), ()), ())) s.1.1.1 s.1.2.1.1 s.1.2.2.1.1) j (((a0, ()), (b1, ()), (i5, ()), ()), ())
theorem g_laws_eqPacketS.L0_s (k : Nat)  (j : Nat) (a0 : (List (Int × Int × Int × Int × Int))) (b1 : (List (Int × Int × Int × Int × Int))) (i5 : Int) : g_laws_eqPacketS.L0 k  (j + 1) a0 b1 i5 = g_laws_eqPacketS.F0 k  (g_laws_eqPacketS.L0 k  j) a0 b1 i5 := rfl
def g_laws_eqPacketS.m (k : Nat) (a0_ : List (Int × Int × Int × Int × Int)) (b1_ : List (Int × Int × Int × Int × Int)) : Option ((Bool × Unit) × Unit) :=
  bif ((a0_.length : Int) != (b1_.length : Int)) then
    some ((false, ()), ())
  else
    g_laws_eqPacketS.L0 k k a0_ b1_ 0
def g_laws_eqPacketS.e : Entry Try.prog := mkEntry Dl [g_laws_eqPacket.e] (fun n => false) [(4, g_laws_eqPacketS.p0)] hm 40 Try.f40 (by kernel_rfl) (by kernel_rfl) (by kernel_rfl) [.v (.sl (.pair (.int .i64) (.pair (.int .i64) (.pair (.int .i64) (.pair (.int .i64) (.int .i64)))))) false, .v (.sl (.pair (.int .i64) (.pair (.int .i64) (.pair (.int .i64) (.pair (.int .i64) (.int .i64)))))) false] [(false, [.v .bool])] (fun k a => g_laws_eqPacketS.m k a.1 a.2.1) (fun k a => by kernel_rfl)
/- 11 loop.example/g00984/laws.eqChip -/
def g_laws_eqChip.m (k : Nat) (a0_ : (((Int × Int) × List Int) × ((List Int) × List Int) × (List (List (Int × Int × Int × Bool × Bool))) × (List Int) × (List Int) × (List (List (Int × Int × Int × Bool × Bool))) × (List (List (Int × Int × Int × Bool × Bool))) × Int) × List (Int × Int × Int × Int × Int)) (b1_ : (((Int × Int) × List Int) × ((List Int) × List Int) × (List (List (Int × Int × Int × Bool × Bool))) × (List Int) × (List Int) × (List (List (Int × Int × Int × Bool × Bool))) × (List (List (Int × Int × Int × Bool × Bool))) × Int) × List (Int × Int × Int × Int × Int)) : Option ((Bool × Unit) × Unit) :=
  (g_laws_eqNet.m k a0_.1 b1_.1).bind fun r1 =>
  bif (!r1.1.1) then
    some ((false, ()), ())
  else
    (g_laws_eqPacketS.m k a0_.2 b1_.2).bind fun r2 =>
    bif (!r2.1.1) then
      some ((false, ()), ())
    else
      some ((true, ()), ())
def g_laws_eqChip.e : Entry Try.prog := mkEntry Dl [g_laws_eqNet.e, g_laws_eqPacketS.e] (fun n => false) [] hm 11 Try.f11 (by kernel_rfl) (by kernel_rfl) (by kernel_rfl) [.v (.pair (.pair (.pair (.pair (.int .i64) (.int .i64)) (.sl (.int .i64))) (.pair (.pair (.sl (.int .i64)) (.sl (.int .i64))) (.pair (.sl (.sl (.pair (.int .i64) (.pair (.int .i64) (.pair (.int .i64) (.pair .bool .bool)))))) (.pair (.sl (.int .i64)) (.pair (.sl (.int .i64)) (.pair (.sl (.sl (.pair (.int .i64) (.pair (.int .i64) (.pair (.int .i64) (.pair .bool .bool)))))) (.pair (.sl (.sl (.pair (.int .i64) (.pair (.int .i64) (.pair (.int .i64) (.pair .bool .bool)))))) (.int .i64)))))))) (.sl (.pair (.int .i64) (.pair (.int .i64) (.pair (.int .i64) (.pair (.int .i64) (.int .i64))))))) true, .v (.pair (.pair (.pair (.pair (.int .i64) (.int .i64)) (.sl (.int .i64))) (.pair (.pair (.sl (.int .i64)) (.sl (.int .i64))) (.pair (.sl (.sl (.pair (.int .i64) (.pair (.int .i64) (.pair (.int .i64) (.pair .bool .bool)))))) (.pair (.sl (.int .i64)) (.pair (.sl (.int .i64)) (.pair (.sl (.sl (.pair (.int .i64) (.pair (.int .i64) (.pair (.int .i64) (.pair .bool .bool)))))) (.pair (.sl (.sl (.pair (.int .i64) (.pair (.int .i64) (.pair (.int .i64) (.pair .bool .bool)))))) (.int .i64)))))))) (.sl (.pair (.int .i64) (.pair (.int .i64) (.pair (.int .i64) (.pair (.int .i64) (.int .i64))))))) true] [(false, [.v .bool])] (fun k a => g_laws_eqChip.m k a.1 a.2.1) (fun k a => by kernel_rfl)
/- 3 loop.example/g00984/laws.FnExactChipOk -/
def g_laws_FnExactChipOk.m (k : Nat) (aC0_ : (((Int × Int) × List Int) × ((List Int) × List Int) × (List (List (Int × Int × Int × Bool × Bool))) × (List Int) × (List Int) × (List (List (Int × Int × Int × Bool × Bool))) × (List (List (Int × Int × Int × Bool × Bool))) × Int) × List (Int × Int × Int × Int × Int)) : Option ((Bool × Unit) × Unit) :=
  (g_laws_szChip.m k aC0_ 1048576).bind fun r1 =>
  bif (decide (r1.1.1 < 0)) then
    some ((true, ()), ())
  else
    (g_laws_toChip.m k aC0_).bind fun r2 =>
    (g_spec_ChipOk.m k ((((r2.1.1, r2.1.2.1), r2.1.2.2.1), ((r2.1.2.2.2.1, r2.1.2.2.2.2.1), (r2.1.2.2.2.2.2.1, (r2.1.2.2.2.2.2.2.1, (r2.1.2.2.2.2.2.2.2.1, (r2.1.2.2.2.2.2.2.2.2.1, (r2.1.2.2.2.2.2.2.2.2.2.1, r2.1.2.2.2.2.2.2.2.2.2.2.1))))))), r2.1.2.2.2.2.2.2.2.2.2.2.2.1)).bind fun r3 =>
    (g_laws_toChip.m k aC0_).bind fun r4 =>
    (g_impl_ChipOk.m k ((((r4.1.1, r4.1.2.1), r4.1.2.2.1), ((r4.1.2.2.2.1, r4.1.2.2.2.2.1), (r4.1.2.2.2.2.2.1, (r4.1.2.2.2.2.2.2.1, (r4.1.2.2.2.2.2.2.2.1, (r4.1.2.2.2.2.2.2.2.2.1, (r4.1.2.2.2.2.2.2.2.2.2.1, r4.1.2.2.2.2.2.2.2.2.2.2.1))))))), r4.1.2.2.2.2.2.2.2.2.2.2.2.1)).bind fun r5 =>
    bif (!(r5.1.1 == r3.1.1)) then
      some ((false, ()), ())
    else
      (g_laws_toChip.m k aC0_).bind fun r6 =>
      (g_laws_eqChip.m k ((((r4.1.1, r4.1.2.1), r4.1.2.2.1), ((r4.1.2.2.2.1, r4.1.2.2.2.2.1), (r4.1.2.2.2.2.2.1, (r4.1.2.2.2.2.2.2.1, (r4.1.2.2.2.2.2.2.2.1, (r4.1.2.2.2.2.2.2.2.2.1, (r4.1.2.2.2.2.2.2.2.2.2.1, r4.1.2.2.2.2.2.2.2.2.2.2.1))))))), r4.1.2.2.2.2.2.2.2.2.2.2.2.1) ((((r6.1.1, r6.1.2.1), r6.1.2.2.1), ((r6.1.2.2.2.1, r6.1.2.2.2.2.1), (r6.1.2.2.2.2.2.1, (r6.1.2.2.2.2.2.2.1, (r6.1.2.2.2.2.2.2.2.1, (r6.1.2.2.2.2.2.2.2.2.1, (r6.1.2.2.2.2.2.2.2.2.2.1, r6.1.2.2.2.2.2.2.2.2.2.2.1))))))), r6.1.2.2.2.2.2.2.2.2.2.2.2.1)).bind fun r7 =>
      bif (!r7.1.1) then
        some ((false, ()), ())
      else
        some ((true, ()), ())
def g_laws_FnExactChipOk.e : Entry Try.prog := mkEntry Dl [g_laws_szChip.e, g_laws_toChip.e, g_spec_ChipOk.e, g_impl_ChipOk.e, g_laws_eqChip.e] (fun n => false) [] hm 3 Try.f3 (by kernel_rfl) (by kernel_rfl) (by kernel_rfl) [.v (.pair (.pair (.pair (.pair (.int .i64) (.int .i64)) (.sl (.int .i64))) (.pair (.pair (.sl (.int .i64)) (.sl (.int .i64))) (.pair (.sl (.sl (.pair (.int .i64) (.pair (.int .i64) (.pair (.int .i64) (.pair .bool .bool)))))) (.pair (.sl (.int .i64)) (.pair (.sl (.int .i64)) (.pair (.sl (.sl (.pair (.int .i64) (.pair (.int .i64) (.pair (.int .i64) (.pair .bool .bool)))))) (.pair (.sl (.sl (.pair (.int .i64) (.pair (.int .i64) (.pair (.int .i64) (.pair .bool .bool)))))) (.int .i64)))))))) (.sl (.pair (.int .i64) (.pair (.int .i64) (.pair (.int .i64) (.pair (.int .i64) (.int .i64))))))) true] [(false, [.v .bool])] (fun k a => g_laws_FnExactChipOk.m k a.1) (fun k a => by kernel_rfl)
/- 41 loop.example/g00984/spec.Missing -/
def g_spec_Missing.p0 : LPat := ⟨65, [(1, false, [.v (.sl (.pair (.int .i64) (.pair (.int .i64) (.pair (.int .i64) (.pair (.int .i64) (.int .i64))))))]), (2, false, [.p 0 0]), (5, false, [.o 3 (.int .i64)]), (6, false, [.v .bool]), (7, false, [.v (.int .i64)])], [some [.v (.int .i64), .v (.int .i64), .v (.sl (.int .i64)), .v (.sl (.int .i64)), .v (.sl (.int .i64)), .v (.sl (.sl (.pair (.int .i64) (.pair (.int .i64) (.pair (.int .i64) (.pair .bool .bool)))))), .v (.sl (.int .i64)), .v (.sl (.int .i64)), .v (.sl (.sl (.pair (.int .i64) (.pair (.int .i64) (.pair (.int .i64) (.pair .bool .bool)))))), .v (.sl (.sl (.pair (.int .i64) (.pair (.int .i64) (.pair (.int .i64) (.pair .bool .bool)))))), .v (.int .i64)]]⟩
def g_spec_Missing.F0 (k : Nat)  (rec0 : (List (Int × Int × Int × Int × Int)) → (List Int) → Bool → Int → Int → Int → (List Int) → (List Int) → (List Int) → (List (List (Int × Int × Int × Bool × Bool))) → (List Int) → (List Int) → (List (List (Int × Int × Int × Bool × Bool))) → (List (List (Int × Int × Int × Bool × Bool))) → Int → Option (((List Int) × Unit) × Unit)) (list1 : (List (Int × Int × Int × Int × Int))) (out5 : (List Int)) (ok6 : Bool) (i7 : Int) (b0_0 : Int) (b0_1 : Int) (b0_2 : (List Int)) (b0_3 : (List Int)) (b0_4 : (List Int)) (b0_5 : (List (List (Int × Int × Int × Bool × Bool)))) (b0_6 : (List Int)) (b0_7 : (List Int)) (b0_8 : (List (List (Int × Int × Int × Bool × Bool)))) (b0_9 : (List (List (Int × Int × Int × Bool × Bool)))) (b0_10 : Int) : Option (((List Int) × Unit) × Unit) :=
  bif (decide (i7 < (list1.length : Int))) then
    bif (!ok6) then
      some ((([] : List Int), ()), ())
    else
      bif ((decide (0 ≤ i7)) && (decide (i7 < (list1.length : Int)))) then
        (g_spec_PacketOk.m k (b0_0, b0_1) (List.getD list1 i7.toNat ((0), ((0), ((0), ((0), (0))))))).bind fun r2 =>
        bif (!r2.1.1) then
          some ((([] : List Int), ()), ())
        else
          bif ((decide (0 ≤ i7)) && (decide (i7 < (list1.length : Int)))) then
            bif ((decide (0 ≤ i7)) && (decide (i7 < (list1.length : Int)))) then
              (g_spec_l22At.m k (((b0_0, b0_1), b0_2), ((b0_3, b0_4), (b0_5, (b0_6, (b0_7, (b0_8, (b0_9, b0_10))))))) (List.getD list1 i7.toNat ((0), ((0), ((0), ((0), (0)))))).2.2.1 (List.getD list1 i7.toNat ((0), ((0), ((0), ((0), (0)))))).2.2.2.1).bind fun r3 =>
              bif ((decide (0 ≤ i7)) && (decide (i7 < (list1.length : Int)))) then
                (g_spec_l03Find.m k r3.1.1 (List.getD list1 i7.toNat ((0), ((0), ((0), ((0), (0)))))).1).bind fun r4 =>
                bif (!r4.1.1) then
                  bif ((decide (0 ≤ i7)) && (decide (i7 < (list1.length : Int)))) then
                    bif (Nat.ble (((List.length out5) + 1) * 8) 140737488355328) then
                      rec0 list1 (out5 ++ [(List.getD list1 i7.toNat ((0), ((0), ((0), ((0), (0)))))).1]) ok6 (w64 (i7 + 1)) b0_0 b0_1 b0_2 b0_3 b0_4 b0_5 b0_6 b0_7 b0_8 b0_9 b0_10
                    else none
                  else none
                else
                  rec0 list1 out5 ok6 (w64 (i7 + 1)) b0_0 b0_1 b0_2 b0_3 b0_4 b0_5 b0_6 b0_7 b0_8 b0_9 b0_10
              else none
            else none
          else none
      else none
  else
    some ((out5, ()), ())
def g_spec_Missing.L0 (k : Nat)  (j : Nat) (list1 : (List (Int × Int × Int × Int × Int))) (out5 : (List Int)) (ok6 : Bool) (i7 : Int) (b0_0 : Int) (b0_1 : Int) (b0_2 : (List Int)) (b0_3 : (List Int)) (b0_4 : (List Int)) (b0_5 : (List (List (Int × Int × Int × Bool × Bool)))) (b0_6 : (List Int)) (b0_7 : (List Int)) (b0_8 : (List (List (Int × Int × Int × Bool × Bool)))) (b0_9 : (List (List (Int × Int × Int × Bool × Bool)))) (b0_10 : Int) : Option (((List Int) × Unit) × Unit) :=
  iter (fun (rec : g_spec_Missing.p0.den → Option (((List Int) × Unit) × Unit)) s => g_spec_Missing.F0 k  (fun list1 out5 ok6 i7 b0_0 b0_1 b0_2 b0_3 b0_4 b0_5 b0_6 b0_7 b0_8 b0_9 b0_10 => rec (((list1, ()), (), (out5, ()), (ok6, ()), (i7, ()), ()), ((b0_0, b0_1, b0_2, b0_3, b0_4, b0_5, b0_6, b0_7, b0_8, b0_9, b0_10, ()), ()))) s.1.1.1 s.1.2.2.1.1 s.1.2.2.2.1.1 s.1.2.2.2.2.1.1 s.2.1.1 s.2.1.2.1 s.2.1.2.2.1 s.2.1.2.2.2.1 s.2.1.2.2.2.2.1 s.2.1.2.2.2.2.2.1 s.2.1.2.2.2.2.2.2.1 s.2.1.2.2.2.2.2.2.2.1 s.2.1.2.2.2.2.2.2.2.2.1 s.2.1.2.2.2.2.2.2.2.2.2.1 s.2.1.2.2.2.2.2.2.2.2.2.2.1) j (((list1, ()), (), (out5, ()), (ok6, ()), (i7, ()), ()), ((b0_0, b0_1, b0_2, b0_3, b0_4, b0_5, b0_6, b0_7, b0_8, b0_9, b0_10, ()), ()))
theorem g_spec_Missing.L0_s (k : Nat)  (j : Nat) (list1 : (List (Int × Int × Int × Int × Int))) (out5 : (List Int)) (ok6 : Bool) (i7 : Int) (b0_0 : Int) (b0_1 : Int) (b0_2 : (List Int)) (b0_3 : (List Int)) (b0_4 : (List Int)) (b0_5 : (List (List (Int × Int × Int × Bool × Bool)))) (b0_6 : (List Int)) (b0_7 : (List Int)) (b0_8 : (List (List (Int × Int × Int × Bool × Bool)))) (b0_9 : (List (List (Int × Int × Int × Bool × Bool)))) (b0_10 : Int) : g_spec_Missing.L0 k  (j + 1) list1 out5 ok6 i7 b0_0 b0_1 b0_2 b0_3 b0_4 b0_5 b0_6 b0_7 b0_8 b0_9 b0_10 = g_spec_Missing.F0 k  (g_spec_Missing.L0 k  j) list1 out5 ok6 i7 b0_0 b0_1 b0_2 b0_3 b0_4 b0_5 b0_6 b0_7 b0_8 b0_9 b0_10 := rfl
def g_spec_Missing.m (k : Nat) (n0_ : ((Int × Int) × List Int) × ((List Int) × List Int) × (List (List (Int × Int × Int × Bool × Bool))) × (List Int) × (List Int) × (List (List (Int × Int × Int × Bool × Bool))) × (List (List (Int × Int × Int × Bool × Bool))) × Int) (list1_ : List (Int × Int × Int × Int × Int)) : Option (((List Int) × Unit) × Unit) :=
  (g_spec_NetOk.m k n0_).bind fun r1 =>
  g_spec_Missing.L0 k k list1_ ([] : List Int) r1.1.1 0 n0_.1.1.1 n0_.1.1.2 n0_.1.2 n0_.2.1.1 n0_.2.1.2 n0_.2.2.1 n0_.2.2.2.1 n0_.2.2.2.2.1 n0_.2.2.2.2.2.1 n0_.2.2.2.2.2.2.1 n0_.2.2.2.2.2.2.2
def g_spec_Missing.e : Entry Try.prog := mkEntry Dl [g_spec_NetOk.e, g_spec_PacketOk.e, g_spec_l22At.e, g_spec_l03Find.e] (fun n => false) [(4, g_spec_Missing.p0)] hm 41 Try.f41 (by kernel_rfl) (by kernel_rfl) (by kernel_rfl) [.v (.pair (.pair (.pair (.int .i64) (.int .i64)) (.sl (.int .i64))) (.pair (.pair (.sl (.int .i64)) (.sl (.int .i64))) (.pair (.sl (.sl (.pair (.int .i64) (.pair (.int .i64) (.pair (.int .i64) (.pair .bool .bool)))))) (.pair (.sl (.int .i64)) (.pair (.sl (.int .i64)) (.pair (.sl (.sl (.pair (.int .i64) (.pair (.int .i64) (.pair (.int .i64) (.pair .bool .bool)))))) (.pair (.sl (.sl (.pair (.int .i64) (.pair (.int .i64) (.pair (.int .i64) (.pair .bool .bool)))))) (.int .i64)))))))) true, .v (.sl (.pair (.int .i64) (.pair (.int .i64) (.pair (.int .i64) (.pair (.int .i64) (.int .i64)))))) false] [(false, [.o 3 (.int .i64)])] (fun k a => g_spec_Missing.m k a.1 a.2.1) (fun k a => by kernel_rfl)
/- 12 loop.example/g00984/spec.Delivered -/
def g_spec_Delivered.m (k : Nat) (c0_ : (((Int × Int) × List Int) × ((List Int) × List Int) × (List (List (Int × Int × Int × Bool × Bool))) × (List Int) × (List Int) × (List (List (Int × Int × Int × Bool × Bool))) × (List (List (Int × Int × Int × Bool × Bool))) × Int) × List (Int × Int × Int × Int × Int)) : Option ((Int × Unit) × Unit) :=
  (g_spec_ChipOk.m k c0_).bind fun r1 =>
  bif (!r1.1.1) then
    some (((-1), ()), ())
  else
    (g_spec_Missing.m k c0_.1 c0_.2).bind fun r2 =>
    some (((w64 ((c0_.2.length : Int) - (r2.1.1.length : Int))), ()), ())
def g_spec_Delivered.e : Entry Try.prog := mkEntry Dl [g_spec_ChipOk.e, g_spec_Missing.e] (fun n => false) [] hm 12 Try.f12 (by kernel_rfl) (by kernel_rfl) (by kernel_rfl) [.v (.pair (.pair (.pair (.pair (.int .i64) (.int .i64)) (.sl (.int .i64))) (.pair (.pair (.sl (.int .i64)) (.sl (.int .i64))) (.pair (.sl (.sl (.pair (.int .i64) (.pair (.int .i64) (.pair (.int .i64) (.pair .bool .bool)))))) (.pair (.sl (.int .i64)) (.pair (.sl (.int .i64)) (.pair (.sl (.sl (.pair (.int .i64) (.pair (.int .i64) (.pair (.int .i64) (.pair .bool .bool)))))) (.pair (.sl (.sl (.pair (.int .i64) (.pair (.int .i64) (.pair (.int .i64) (.pair .bool .bool)))))) (.int .i64)))))))) (.sl (.pair (.int .i64) (.pair (.int .i64) (.pair (.int .i64) (.pair (.int .i64) (.int .i64))))))) true] [(false, [.v (.int .i64)])] (fun k a => g_spec_Delivered.m k a.1) (fun k a => by kernel_rfl)
/- 94 loop.example/g00984/impl.Missing$1 -/
def g_impl_Missing_1_f94.m (k : Nat) (p0_ : Int × Int × Int × Int × Int) (t1_ : ((Int × Int) × List Int) × ((List Int) × List Int) × (List (List (Int × Int × Int × Bool × Bool))) × (List Int) × (List Int) × (List (List (Int × Int × Int × Bool × Bool))) × (List (List (Int × Int × Int × Bool × Bool))) × Int) : Option ((Bool × Unit) × Unit) :=
  (g_impl_PacketOk.m k t1_.1.1 p0_).bind fun r1 =>
  some (((!r1.1.1), ()), ())
def g_impl_Missing_1_f94.e : Entry Try.prog := mkEntry Dl [g_impl_PacketOk.e] (fun n => false) [] hm 94 Try.f94 (by kernel_rfl) (by kernel_rfl) (by kernel_rfl) [.v (.pair (.int .i64) (.pair (.int .i64) (.pair (.int .i64) (.pair (.int .i64) (.int .i64))))) true, .tp (.pair (.pair (.pair (.int .i64) (.int .i64)) (.sl (.int .i64))) (.pair (.pair (.sl (.int .i64)) (.sl (.int .i64))) (.pair (.sl (.sl (.pair (.int .i64) (.pair (.int .i64) (.pair (.int .i64) (.pair .bool .bool)))))) (.pair (.sl (.int .i64)) (.pair (.sl (.int .i64)) (.pair (.sl (.sl (.pair (.int .i64) (.pair (.int .i64) (.pair (.int .i64) (.pair .bool .bool)))))) (.pair (.sl (.sl (.pair (.int .i64) (.pair (.int .i64) (.pair (.int .i64) (.pair .bool .bool)))))) (.int .i64))))))))] [(false, [.v .bool])] (fun k a => g_impl_Missing_1_f94.m k a.1 a.2.1) (fun k a => by kernel_rfl)
/- 126 slices.IndexFunc[[]loop.example/g00984/impl.Packet,loop.example/g00984/impl.Packet] -/
def g_slices_IndexFunc_f126.p0 : LPat := ⟨19, [(0, false, [.v (.sl (.pair (.int .i64) (.pair (.int .i64) (.pair (.int .i64) (.pair (.int .i64) (.int .i64))))))]), (1, false, [.f 94 [.tp (.pair (.pair (.pair (.int .i64) (.int .i64)) (.sl (.int .i64))) (.pair (.pair (.sl (.int .i64)) (.sl (.int .i64))) (.pair (.sl (.sl (.pair (.int .i64) (.pair (.int .i64) (.pair (.int .i64) (.pair .bool .bool)))))) (.pair (.sl (.int .i64)) (.pair (.sl (.int .i64)) (.pair (.sl (.sl (.pair (.int .i64) (.pair (.int .i64) (.pair (.int .i64) (.pair .bool .bool)))))) (.pair (.sl (.sl (.pair (.int .i64) (.pair (.int .i64) (.pair (.int .i64) (.pair .bool .bool)))))) (.int .i64))))))))]]), (7, false, [.v (.int .i64)]), (8, false, [.v (.int .i64)])], []⟩
def g_slices_IndexFunc_f126.F0 (k : Nat)  (rec0 : (List (Int × Int × Int × Int × Int)) → ((((Int × Int) × List Int) × ((List Int) × List Int) × (List (List (Int × Int × Int × Bool × Bool))) × (List Int) × (List Int) × (List (List (Int × Int × Int × Bool × Bool))) × (List (List (Int × Int × Int × Bool × Bool))) × Int) × Unit) → Int → Int → Option ((Int × Unit) × Unit)) (s0 : (List (Int × Int × Int × Int × Int))) (f1 : ((((Int × Int) × List Int) × ((List Int) × List Int) × (List (List (Int × Int × Int × Bool × Bool))) × (List Int) × (List Int) × (List (List (Int × Int × Int × Bool × Bool))) × (List (List (Int × Int × Int × Bool × Bool))) × Int) × Unit)) (t7 : Int) (t8 : Int) : Option ((Int × Unit) × Unit) :=
  bif (decide (t8 < t7)) then
    bif ((decide (0 ≤ t8)) && (decide (t8 < (s0.length : Int)))) then
      (g_impl_Missing_1_f94.m k (List.getD s0 t8.toNat ((0), ((0), ((0), ((0), (0)))))) f1.1).bind fun r1 =>
      bif r1.1.1 then
        some ((t8, ()), ())
      else
        rec0 s0 (f1.1, ()) t7 (w64 (t8 + 1))
    else none
  else
    some (((-1), ()), ())
def g_slices_IndexFunc_f126.L0 (k : Nat)  (j : Nat) (s0 : (List (Int × Int × Int × Int × Int))) (f1 : ((((Int × Int) × List Int) × ((List Int) × List Int) × (List (List (Int × Int × Int × Bool × Bool))) × (List Int) × (List Int) × (List (List (Int × Int × Int × Bool × Bool))) × (List (List (Int × Int × Int × Bool × Bool))) × Int) × Unit)) (t7 : Int) (t8 : Int) : Option ((Int × Unit) × Unit) :=
  iter (fun (rec : g_slices_IndexFunc_f126.p0.den → Option ((Int × Unit) × Unit)) s => g_slices_IndexFunc_f126.F0 k  (fun s0 f1 t7 t8 => rec (((s0, ()), (f1, ()), (t7, ()), (t8, ()), ()), ())) s.1.1.1 s.1.2.1.1 s.1.2.2.1.1 s.1.2.2.2.1.1) j (((s0, ()), (f1, ()), (t7, ()), (t8, ()), ()), ())
theorem g_slices_IndexFunc_f126.L0_s (k : Nat)  (j : Nat) (s0 : (List (Int × Int × Int × Int × Int))) (f1 : ((((Int × Int) × List Int) × ((List Int) × List Int) × (List (List (Int × Int × Int × Bool × Bool))) × (List Int) × (List Int) × (List (List (Int × Int × Int × Bool × Bool))) × (List (List (Int × Int × Int × Bool × Bool))) × Int) × Unit)) (t7 : Int) (t8 : Int) : g_slices_IndexFunc_f126.L0 k  (j + 1) s0 f1 t7 t8 = g_slices_IndexFunc_f126.F0 k  (g_slices_IndexFunc_f126.L0 k  j) s0 f1 t7 t8 := rfl
def g_slices_IndexFunc_f126.m (k : Nat) (s0_ : List (Int × Int × Int × Int × Int)) (f1_ : (((Int × Int) × List Int) × ((List Int) × List Int) × (List (List (Int × Int × Int × Bool × Bool))) × (List Int) × (List Int) × (List (List (Int × Int × Int × Bool × Bool))) × (List (List (Int × Int × Int × Bool × Bool))) × Int) × Unit) : Option ((Int × Unit) × Unit) :=
  g_slices_IndexFunc_f126.L0 k k s0_ (f1_.1, ()) (s0_.length : Int) 0
def g_slices_IndexFunc_f126.e : Entry Try.prog := mkEntry Dl [g_impl_Missing_1_f94.e] (fun n => false) [(2, g_slices_IndexFunc_f126.p0)] hm 126 Try.f126 (by kernel_rfl) (by kernel_rfl) (by kernel_rfl) [.v (.sl (.pair (.int .i64) (.pair (.int .i64) (.pair (.int .i64) (.pair (.int .i64) (.int .i64)))))) false, .f 94 [.tp (.pair (.pair (.pair (.int .i64) (.int .i64)) (.sl (.int .i64))) (.pair (.pair (.sl (.int .i64)) (.sl (.int .i64))) (.pair (.sl (.sl (.pair (.int .i64) (.pair (.int .i64) (.pair (.int .i64) (.pair .bool .bool)))))) (.pair (.sl (.int .i64)) (.pair (.sl (.int .i64)) (.pair (.sl (.sl (.pair (.int .i64) (.pair (.int .i64) (.pair (.int .i64) (.pair .bool .bool)))))) (.pair (.sl (.sl (.pair (.int .i64) (.pair (.int .i64) (.pair (.int .i64) (.pair .bool .bool)))))) (.int .i64))))))))]] [(false, [.v (.int .i64)])] (fun k a => g_slices_IndexFunc_f126.m k a.1 a.2.1) (fun k a => by kernel_rfl)
/- 93 slices.ContainsFunc[[]loop.example/g00984/impl.Packet,loop.example/g00984/impl.Packet] -/
def g_slices_ContainsFunc_f93.m (k : Nat) (s0_ : List (Int × Int × Int × Int × Int)) (f1_ : (((Int × Int) × List Int) × ((List Int) × List Int) × (List (List (Int × Int × Int × Bool × Bool))) × (List Int) × (List Int) × (List (List (Int × Int × Int × Bool × Bool))) × (List (List (Int × Int × Int × Bool × Bool))) × Int) × Unit) : Option ((Bool × Unit) × Unit) :=
  (g_slices_IndexFunc_f126.m k s0_ (f1_.1, ())).bind fun r1 =>
  some (((decide (r1.1.1 ≥ 0)), ()), ())
def g_slices_ContainsFunc_f93.e : Entry Try.prog := mkEntry Dl [g_slices_IndexFunc_f126.e] (fun n => false) [] hm 93 Try.f93 (by kernel_rfl) (by kernel_rfl) (by kernel_rfl) [.v (.sl (.pair (.int .i64) (.pair (.int .i64) (.pair (.int .i64) (.pair (.int .i64) (.int .i64)))))) false, .f 94 [.tp (.pair (.pair (.pair (.int .i64) (.int .i64)) (.sl (.int .i64))) (.pair (.pair (.sl (.int .i64)) (.sl (.int .i64))) (.pair (.sl (.sl (.pair (.int .i64) (.pair (.int .i64) (.pair (.int .i64) (.pair .bool .bool)))))) (.pair (.sl (.int .i64)) (.pair (.sl (.int .i64)) (.pair (.sl (.sl (.pair (.int .i64) (.pair (.int .i64) (.pair (.int .i64) (.pair .bool .bool)))))) (.pair (.sl (.sl (.pair (.int .i64) (.pair (.int .i64) (.pair (.int .i64) (.pair .bool .bool)))))) (.int .i64))))))))]] [(false, [.v .bool])] (fun k a => g_slices_ContainsFunc_f93.m k a.1 a.2.1) (fun k a => by kernel_rfl)
/- 42 loop.example/g00984/impl.Missing -/
def g_impl_Missing.p0 : LPat := ⟨46, [(2, false, [.p 0 0]), (5, false, [.o 3 (.int .i64)]), (20, false, [.v (.sl (.pair (.int .i64) (.pair (.int .i64) (.pair (.int .i64) (.pair (.int .i64) (.int .i64))))))]), (21, false, [.v (.int .i64)]), (22, false, [.v (.int .i64)])], [some [.v (.int .i64), .v (.int .i64), .v (.sl (.int .i64)), .v (.sl (.int .i64)), .v (.sl (.int .i64)), .v (.sl (.sl (.pair (.int .i64) (.pair (.int .i64) (.pair (.int .i64) (.pair .bool .bool)))))), .v (.sl (.int .i64)), .v (.sl (.int .i64)), .v (.sl (.sl (.pair (.int .i64) (.pair (.int .i64) (.pair (.int .i64) (.pair .bool .bool)))))), .v (.sl (.sl (.pair (.int .i64) (.pair (.int .i64) (.pair (.int .i64) (.pair .bool .bool)))))), .v (.int .i64)]]⟩
def g_impl_Missing.F0 (k : Nat)  (rec0 : (List Int) → (List (Int × Int × Int × Int × Int)) → Int → Int → Int → Int → (List Int) → (List Int) → (List Int) → (List (List (Int × Int × Int × Bool × Bool))) → (List Int) → (List Int) → (List (List (Int × Int × Int × Bool × Bool))) → (List (List (Int × Int × Int × Bool × Bool))) → Int → Option (((List Int) × Unit) × Unit)) (out5 : (List Int)) (t20 : (List (Int × Int × Int × Int × Int))) (t21 : Int) (t22 : Int) (b0_0 : Int) (b0_1 : Int) (b0_2 : (List Int)) (b0_3 : (List Int)) (b0_4 : (List Int)) (b0_5 : (List (List (Int × Int × Int × Bool × Bool)))) (b0_6 : (List Int)) (b0_7 : (List Int)) (b0_8 : (List (List (Int × Int × Int × Bool × Bool)))) (b0_9 : (List (List (Int × Int × Int × Bool × Bool)))) (b0_10 : Int) : Option (((List Int) × Unit) × Unit) :=
  bif (decide (t22 < t21)) then
    bif ((decide (0 ≤ t22)) && (decide (t22 < (t20.length : Int)))) then
      (g_impl_Net_arrived.m k (((b0_0, b0_1), b0_2), ((b0_3, b0_4), (b0_5, (b0_6, (b0_7, (b0_8, (b0_9, b0_10))))))) (List.getD t20 t22.toNat ((0), ((0), ((0), ((0), (0)))))).2.2.1 (List.getD t20 t22.toNat ((0), ((0), ((0), ((0), (0)))))).2.2.2.1).bind fun r4 =>
      (g_slices_Contains_f95.m k r4.1.1 (List.getD t20 t22.toNat ((0), ((0), ((0), ((0), (0)))))).1).bind fun r5 =>
      bif (!r5.1.1) then
        bif (Nat.ble (((List.length out5) + 1) * 8) 140737488355328) then
          rec0 (out5 ++ [(List.getD t20 t22.toNat ((0), ((0), ((0), ((0), (0)))))).1]) t20 t21 (w64 (t22 + 1)) b0_0 b0_1 b0_2 b0_3 b0_4 b0_5 b0_6 b0_7 b0_8 b0_9 b0_10
        else none
      else
        rec0 out5 t20 t21 (w64 (t22 + 1)) b0_0 b0_1 b0_2 b0_3 b0_4 b0_5 b0_6 b0_7 b0_8 b0_9 b0_10
    else none
  else
    some ((out5, ()), ())
def g_impl_Missing.L0 (k : Nat)  (j : Nat) (out5 : (List Int)) (t20 : (List (Int × Int × Int × Int × Int))) (t21 : Int) (t22 : Int) (b0_0 : Int) (b0_1 : Int) (b0_2 : (List Int)) (b0_3 : (List Int)) (b0_4 : (List Int)) (b0_5 : (List (List (Int × Int × Int × Bool × Bool)))) (b0_6 : (List Int)) (b0_7 : (List Int)) (b0_8 : (List (List (Int × Int × Int × Bool × Bool)))) (b0_9 : (List (List (Int × Int × Int × Bool × Bool)))) (b0_10 : Int) : Option (((List Int) × Unit) × Unit) :=
  iter (fun (rec : g_impl_Missing.p0.den → Option (((List Int) × Unit) × Unit)) s => g_impl_Missing.F0 k  (fun out5 t20 t21 t22 b0_0 b0_1 b0_2 b0_3 b0_4 b0_5 b0_6 b0_7 b0_8 b0_9 b0_10 => rec (((), (out5, ()), (t20, ()), (t21, ()), (t22, ()), ()), ((b0_0, b0_1, b0_2, b0_3, b0_4, b0_5, b0_6, b0_7, b0_8, b0_9, b0_10, ()), ()))) s.1.2.1.1 s.1.2.2.1.1 s.1.2.2.2.1.1 s.1.2.2.2.2.1.1 s.2.1.1 s.2.1.2.1 s.2.1.2.2.1 s.2.1.2.2.2.1 s.2.1.2.2.2.2.1 s.2.1.2.2.2.2.2.1 s.2.1.2.2.2.2.2.2.1 s.2.1.2.2.2.2.2.2.2.1 s.2.1.2.2.2.2.2.2.2.2.1 s.2.1.2.2.2.2.2.2.2.2.2.1 s.2.1.2.2.2.2.2.2.2.2.2.2.1) j (((), (out5, ()), (t20, ()), (t21, ()), (t22, ()), ()), ((b0_0, b0_1, b0_2, b0_3, b0_4, b0_5, b0_6, b0_7, b0_8, b0_9, b0_10, ()), ()))
theorem g_impl_Missing.L0_s (k : Nat)  (j : Nat) (out5 : (List Int)) (t20 : (List (Int × Int × Int × Int × Int))) (t21 : Int) (t22 : Int) (b0_0 : Int) (b0_1 : Int) (b0_2 : (List Int)) (b0_3 : (List Int)) (b0_4 : (List Int)) (b0_5 : (List (List (Int × Int × Int × Bool × Bool)))) (b0_6 : (List Int)) (b0_7 : (List Int)) (b0_8 : (List (List (Int × Int × Int × Bool × Bool)))) (b0_9 : (List (List (Int × Int × Int × Bool × Bool)))) (b0_10 : Int) : g_impl_Missing.L0 k  (j + 1) out5 t20 t21 t22 b0_0 b0_1 b0_2 b0_3 b0_4 b0_5 b0_6 b0_7 b0_8 b0_9 b0_10 = g_impl_Missing.F0 k  (g_impl_Missing.L0 k  j) out5 t20 t21 t22 b0_0 b0_1 b0_2 b0_3 b0_4 b0_5 b0_6 b0_7 b0_8 b0_9 b0_10 := rfl
def g_impl_Missing.m (k : Nat) (n0_ : ((Int × Int) × List Int) × ((List Int) × List Int) × (List (List (Int × Int × Int × Bool × Bool))) × (List Int) × (List Int) × (List (List (Int × Int × Int × Bool × Bool))) × (List (List (Int × Int × Int × Bool × Bool))) × Int) (list1_ : List (Int × Int × Int × Int × Int)) : Option (((List Int) × Unit) × Unit) :=
  Option.bind (
    (g_impl_NetOk.m k n0_).bind fun r1 =>
    bif (!r1.1.1) then
      some true
    else
      (g_slices_ContainsFunc_f93.m k list1_ (n0_, ())).bind fun r2 =>
      some r2.1.1) fun b3 =>
  bif b3 then
    some ((([] : List Int), ()), ())
  else
    g_impl_Missing.L0 k k ([] : List Int) list1_ (list1_.length : Int) 0 n0_.1.1.1 n0_.1.1.2 n0_.1.2 n0_.2.1.1 n0_.2.1.2 n0_.2.2.1 n0_.2.2.2.1 n0_.2.2.2.2.1 n0_.2.2.2.2.2.1 n0_.2.2.2.2.2.2.1 n0_.2.2.2.2.2.2.2
def g_impl_Missing.e : Entry Try.prog := mkEntry Dl [g_impl_NetOk.e, g_slices_ContainsFunc_f93.e, g_impl_Net_arrived.e, g_slices_Contains_f95.e] (fun n => n == 2) [(5, g_impl_Missing.p0)] hm 42 Try.f42 (by kernel_rfl) (by kernel_rfl) (by kernel_rfl) [.v (.pair (.pair (.pair (.int .i64) (.int .i64)) (.sl (.int .i64))) (.pair (.pair (.sl (.int .i64)) (.sl (.int .i64))) (.pair (.sl (.sl (.pair (.int .i64) (.pair (.int .i64) (.pair (.int .i64) (.pair .bool .bool)))))) (.pair (.sl (.int .i64)) (.pair (.sl (.int .i64)) (.pair (.sl (.sl (.pair (.int .i64) (.pair (.int .i64) (.pair (.int .i64) (.pair .bool .bool)))))) (.pair (.sl (.sl (.pair (.int .i64) (.pair (.int .i64) (.pair (.int .i64) (.pair .bool .bool)))))) (.int .i64)))))))) true, .v (.sl (.pair (.int .i64) (.pair (.int .i64) (.pair (.int .i64) (.pair (.int .i64) (.int .i64)))))) false] [(false, [.o 3 (.int .i64)])] (fun k a => g_impl_Missing.m k a.1 a.2.1) (fun k a => by kernel_rfl)
/- 13 loop.example/g00984/impl.Delivered -/
def g_impl_Delivered.m (k : Nat) (c0_ : (((Int × Int) × List Int) × ((List Int) × List Int) × (List (List (Int × Int × Int × Bool × Bool))) × (List Int) × (List Int) × (List (List (Int × Int × Int × Bool × Bool))) × (List (List (Int × Int × Int × Bool × Bool))) × Int) × List (Int × Int × Int × Int × Int)) : Option ((Int × Unit) × Unit) :=
  (g_impl_ChipOk.m k c0_).bind fun r1 =>
  bif (!r1.1.1) then
    some (((-1), ()), ())
  else
    (g_impl_Missing.m k c0_.1 c0_.2).bind fun r2 =>
    some (((w64 ((c0_.2.length : Int) - (r2.1.1.length : Int))), ()), ())
def g_impl_Delivered.e : Entry Try.prog := mkEntry Dl [g_impl_ChipOk.e, g_impl_Missing.e] (fun n => false) [] hm 13 Try.f13 (by kernel_rfl) (by kernel_rfl) (by kernel_rfl) [.v (.pair (.pair (.pair (.pair (.int .i64) (.int .i64)) (.sl (.int .i64))) (.pair (.pair (.sl (.int .i64)) (.sl (.int .i64))) (.pair (.sl (.sl (.pair (.int .i64) (.pair (.int .i64) (.pair (.int .i64) (.pair .bool .bool)))))) (.pair (.sl (.int .i64)) (.pair (.sl (.int .i64)) (.pair (.sl (.sl (.pair (.int .i64) (.pair (.int .i64) (.pair (.int .i64) (.pair .bool .bool)))))) (.pair (.sl (.sl (.pair (.int .i64) (.pair (.int .i64) (.pair (.int .i64) (.pair .bool .bool)))))) (.int .i64)))))))) (.sl (.pair (.int .i64) (.pair (.int .i64) (.pair (.int .i64) (.pair (.int .i64) (.int .i64))))))) true] [(false, [.v (.int .i64)])] (fun k a => g_impl_Delivered.m k a.1) (fun k a => by kernel_rfl)
/- 4 loop.example/g00984/laws.FnExactDelivered -/
def g_laws_FnExactDelivered.m (k : Nat) (aC0_ : (((Int × Int) × List Int) × ((List Int) × List Int) × (List (List (Int × Int × Int × Bool × Bool))) × (List Int) × (List Int) × (List (List (Int × Int × Int × Bool × Bool))) × (List (List (Int × Int × Int × Bool × Bool))) × Int) × List (Int × Int × Int × Int × Int)) : Option ((Bool × Unit) × Unit) :=
  (g_laws_szChip.m k aC0_ 1048576).bind fun r1 =>
  bif (decide (r1.1.1 < 0)) then
    some ((true, ()), ())
  else
    (g_laws_toChip.m k aC0_).bind fun r2 =>
    (g_spec_Delivered.m k ((((r2.1.1, r2.1.2.1), r2.1.2.2.1), ((r2.1.2.2.2.1, r2.1.2.2.2.2.1), (r2.1.2.2.2.2.2.1, (r2.1.2.2.2.2.2.2.1, (r2.1.2.2.2.2.2.2.2.1, (r2.1.2.2.2.2.2.2.2.2.1, (r2.1.2.2.2.2.2.2.2.2.2.1, r2.1.2.2.2.2.2.2.2.2.2.2.1))))))), r2.1.2.2.2.2.2.2.2.2.2.2.2.1)).bind fun r3 =>
    (g_laws_toChip.m k aC0_).bind fun r4 =>
    (g_impl_Delivered.m k ((((r4.1.1, r4.1.2.1), r4.1.2.2.1), ((r4.1.2.2.2.1, r4.1.2.2.2.2.1), (r4.1.2.2.2.2.2.1, (r4.1.2.2.2.2.2.2.1, (r4.1.2.2.2.2.2.2.2.1, (r4.1.2.2.2.2.2.2.2.2.1, (r4.1.2.2.2.2.2.2.2.2.2.1, r4.1.2.2.2.2.2.2.2.2.2.2.1))))))), r4.1.2.2.2.2.2.2.2.2.2.2.2.1)).bind fun r5 =>
    bif (r5.1.1 != r3.1.1) then
      some ((false, ()), ())
    else
      (g_laws_toChip.m k aC0_).bind fun r6 =>
      (g_laws_eqChip.m k ((((r4.1.1, r4.1.2.1), r4.1.2.2.1), ((r4.1.2.2.2.1, r4.1.2.2.2.2.1), (r4.1.2.2.2.2.2.1, (r4.1.2.2.2.2.2.2.1, (r4.1.2.2.2.2.2.2.2.1, (r4.1.2.2.2.2.2.2.2.2.1, (r4.1.2.2.2.2.2.2.2.2.2.1, r4.1.2.2.2.2.2.2.2.2.2.2.1))))))), r4.1.2.2.2.2.2.2.2.2.2.2.2.1) ((((r6.1.1, r6.1.2.1), r6.1.2.2.1), ((r6.1.2.2.2.1, r6.1.2.2.2.2.1), (r6.1.2.2.2.2.2.1, (r6.1.2.2.2.2.2.2.1, (r6.1.2.2.2.2.2.2.2.1, (r6.1.2.2.2.2.2.2.2.2.1, (r6.1.2.2.2.2.2.2.2.2.2.1, r6.1.2.2.2.2.2.2.2.2.2.2.1))))))), r6.1.2.2.2.2.2.2.2.2.2.2.2.1)).bind fun r7 =>
      bif (!r7.1.1) then
        some ((false, ()), ())
      else
        some ((true, ()), ())
def g_laws_FnExactDelivered.e : Entry Try.prog := mkEntry Dl [g_laws_szChip.e, g_laws_toChip.e, g_spec_Delivered.e, g_impl_Delivered.e, g_laws_eqChip.e] (fun n => false) [] hm 4 Try.f4 (by kernel_rfl) (by kernel_rfl) (by kernel_rfl) [.v (.pair (.pair (.pair (.pair (.int .i64) (.int .i64)) (.sl (.int .i64))) (.pair (.pair (.sl (.int .i64)) (.sl (.int .i64))) (.pair (.sl (.sl (.pair (.int .i64) (.pair (.int .i64) (.pair (.int .i64) (.pair .bool .bool)))))) (.pair (.sl (.int .i64)) (.pair (.sl (.int .i64)) (.pair (.sl (.sl (.pair (.int .i64) (.pair (.int .i64) (.pair (.int .i64) (.pair .bool .bool)))))) (.pair (.sl (.sl (.pair (.int .i64) (.pair (.int .i64) (.pair (.int .i64) (.pair .bool .bool)))))) (.int .i64)))))))) (.sl (.pair (.int .i64) (.pair (.int .i64) (.pair (.int .i64) (.pair (.int .i64) (.int .i64))))))) true] [(false, [.v .bool])] (fun k a => g_laws_FnExactDelivered.m k a.1) (fun k a => by kernel_rfl)
end Go.Proofs.Ytdgnmbhnilidlaa
