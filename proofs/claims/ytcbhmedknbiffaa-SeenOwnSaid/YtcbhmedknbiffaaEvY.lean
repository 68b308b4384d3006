/-
  What the functions of this program compute, in plain words.
-/
import Derived.Test.YtcbhmedknbiffaaEvR
namespace Go.Proofs.Ytcbhmedknbiffaa
open Go Go.RowKit
set_option maxRecDepth 100000
def F8_c0 : Nat → List (Int × Int × Int × Int × Int × Int × Int × Bool × Bool × Int × Int × (List (Int)) × ByteArray × Int × Int × Bool × Int) → Int → Option (Bool)
  | 0, _, _ => none
  | n + 1, x0, x1 => bif (ilt x1 (ofN (List.length x0))) then
 (bif (ile x1 (60)) then
 (bif (inb x1 (List.length x0)) then
 (bif (igt (ofN (List.length (List.getD x0 (Int.toNat x1) (0, 0, 0, 0, 0, 0, 0, false, false, 0, 0, [], ByteArray.empty, 0, 0, false, 0)).2.2.2.2.2.2.2.2.2.2.2.1)) (40)) then
 (some true)
 else (bif (inb x1 (List.length x0)) then
 (bif (igt (stlen (List.getD x0 (Int.toNat x1) (0, 0, 0, 0, 0, 0, 0, false, false, 0, 0, [], ByteArray.empty, 0, 0, false, 0)).2.2.2.2.2.2.2.2.2.2.2.2.1) (300)) then
 (some true)
 else (F8_c0 n x0 (iadd .i64 x1 (1))))
 else (none)))
 else (none))
 else (some (igt (ofN (List.length x0)) (60))))
 else (some (igt (ofN (List.length x0)) (60)))
def F8 (n : Nat) (a0 : List (Int × Int × Int × Int × Int × Int × Int × Bool × Bool × Int × Int × (List (Int)) × ByteArray × Int × Int × Bool × Int)) : Option (Bool) :=
  F8_c0 n a0 (0)
def F35 (_n : Nat) (a0 a1 : Int) : Option (Int × Int) :=
  some (a0, a1)
def F34_c0 : Nat → List (Int × Int × Int × Int × Int × Int × Int × Bool × Bool × Int × Int × (List (Int)) × ByteArray × Int × Int × Bool × Int) → Int → Int → Int → Int → Int → Option (Int)
  | 0, _, _, _, _, _, _ => none
  | n + 1, x0, x1, x2, x3, x4, x5 => bif (ilt x2 x1) then
 (bif (inb x2 (List.length x0)) then
 (bif (ieq (List.getD x0 (Int.toNat x2) (0, 0, 0, 0, 0, 0, 0, false, false, 0, 0, [], ByteArray.empty, 0, 0, false, 0)).1 x3) then
 (bif (ieq (List.getD x0 (Int.toNat x2) (0, 0, 0, 0, 0, 0, 0, false, false, 0, 0, [], ByteArray.empty, 0, 0, false, 0)).2.1 x4) then
 (some x2)
 else (F34_c0 n x0 x1 (iadd .i64 x2 (1)) x3 x4 x5))
 else (F34_c0 n x0 x1 (iadd .i64 x2 (1)) x3 x4 x5))
 else (none))
 else (some (-1))
def F34 (n : Nat) (a0 : List (Int × Int × Int × Int × Int × Int × Int × Bool × Bool × Int × Int × (List (Int)) × ByteArray × Int × Int × Bool × Int)) (a1 a2 : Int) : Option (Int) :=
  F34_c0 n a0 (ofN (List.length a0)) (0) a1 a2 (0)
structure Si5b2i2si2bil where
  q0 : Int
  q1 : Int
  q2 : Int
  q3 : Int
  q4 : Int
  q5 : Bool
  q6 : Bool
  q7 : Int
  q8 : Int
  q9 : ByteArray
  q10 : Int
  q11 : Int
  q12 : Bool
  q13 : Int
  q14 : List (Int)
def F32 (_n : Nat) (a0 a1 a2 a3 a4 : Int) (a5 a6 : Bool) (a7 a8 : Int) (a9 : List (Int)) (a10 : ByteArray) (a11 a12 : Int) (a13 : Bool) (a14 : Int) : Option (Si5b2i2si2bil) :=
  bif (room (List.length a9) 8) then
 (some ⟨a0, a1, a2, a3, a4, a5, a6, a7, a8, a10, a11, a12, a13, a14, a9⟩)
 else (none)
structure Si5b2i2si2bibl where
  q0 : Int
  q1 : Int
  q2 : Int
  q3 : Int
  q4 : Int
  q5 : Bool
  q6 : Bool
  q7 : Int
  q8 : Int
  q9 : ByteArray
  q10 : Int
  q11 : Int
  q12 : Bool
  q13 : Int
  q14 : Bool
  q15 : List (Int)
def F13 (_n : Nat) (a0 : List (Int × Int × Int × Int × Int × Int × Int × Bool × Bool × Int × Int × (List (Int)) × ByteArray × Int × Int × Bool × Int)) (a1 a2 : Int) : Option (Si5b2i2si2bibl) :=
  Option.bind (F35 FUEL a1 a2) fun y1 =>
 Option.bind (F34 FUEL a0 y1.1 y1.2) fun y2 =>
 bif (ilt y2 (0)) then
 (some ⟨(0), (0), (0), (0), (0), false, false, (0), (0), ByteArray.empty, (0), (0), false, (0), false, []⟩)
 else (bif (inb y2 (List.length a0)) then
 (Option.bind (F32 FUEL (List.getD a0 (Int.toNat y2) (0, 0, 0, 0, 0, 0, 0, false, false, 0, 0, [], ByteArray.empty, 0, 0, false, 0)).2.2.1 (List.getD a0 (Int.toNat y2) (0, 0, 0, 0, 0, 0, 0, false, false, 0, 0, [], ByteArray.empty, 0, 0, false, 0)).2.2.2.1 (List.getD a0 (Int.toNat y2) (0, 0, 0, 0, 0, 0, 0, false, false, 0, 0, [], ByteArray.empty, 0, 0, false, 0)).2.2.2.2.1 (List.getD a0 (Int.toNat y2) (0, 0, 0, 0, 0, 0, 0, false, false, 0, 0, [], ByteArray.empty, 0, 0, false, 0)).2.2.2.2.2.1 (List.getD a0 (Int.toNat y2) (0, 0, 0, 0, 0, 0, 0, false, false, 0, 0, [], ByteArray.empty, 0, 0, false, 0)).2.2.2.2.2.2.1 (List.getD a0 (Int.toNat y2) (0, 0, 0, 0, 0, 0, 0, false, false, 0, 0, [], ByteArray.empty, 0, 0, false, 0)).2.2.2.2.2.2.2.1 (List.getD a0 (Int.toNat y2) (0, 0, 0, 0, 0, 0, 0, false, false, 0, 0, [], ByteArray.empty, 0, 0, false, 0)).2.2.2.2.2.2.2.2.1 (List.getD a0 (Int.toNat y2) (0, 0, 0, 0, 0, 0, 0, false, false, 0, 0, [], ByteArray.empty, 0, 0, false, 0)).2.2.2.2.2.2.2.2.2.1 (List.getD a0 (Int.toNat y2) (0, 0, 0, 0, 0, 0, 0, false, false, 0, 0, [], ByteArray.empty, 0, 0, false, 0)).2.2.2.2.2.2.2.2.2.2.1 (List.getD a0 (Int.toNat y2) (0, 0, 0, 0, 0, 0, 0, false, false, 0, 0, [], ByteArray.empty, 0, 0, false, 0)).2.2.2.2.2.2.2.2.2.2.2.1 (List.getD a0 (Int.toNat y2) (0, 0, 0, 0, 0, 0, 0, false, false, 0, 0, [], ByteArray.empty, 0, 0, false, 0)).2.2.2.2.2.2.2.2.2.2.2.2.1 (List.getD a0 (Int.toNat y2) (0, 0, 0, 0, 0, 0, 0, false, false, 0, 0, [], ByteArray.empty, 0, 0, false, 0)).2.2.2.2.2.2.2.2.2.2.2.2.2.1 (List.getD a0 (Int.toNat y2) (0, 0, 0, 0, 0, 0, 0, false, false, 0, 0, [], ByteArray.empty, 0, 0, false, 0)).2.2.2.2.2.2.2.2.2.2.2.2.2.2.1 (List.getD a0 (Int.toNat y2) (0, 0, 0, 0, 0, 0, 0, false, false, 0, 0, [], ByteArray.empty, 0, 0, false, 0)).2.2.2.2.2.2.2.2.2.2.2.2.2.2.2.1 (List.getD a0 (Int.toNat y2) (0, 0, 0, 0, 0, 0, 0, false, false, 0, 0, [], ByteArray.empty, 0, 0, false, 0)).2.2.2.2.2.2.2.2.2.2.2.2.2.2.2.2) fun y3 =>
 some ⟨y3.q0, y3.q1, y3.q2, y3.q3, y3.q4, y3.q5, y3.q6, y3.q7, y3.q8, y3.q9, y3.q10, y3.q11, y3.q12, y3.q13, true, y3.q14⟩)
 else (none))
structure Si5b2i2si2bi where
  q0 : Int
  q1 : Int
  q2 : Int
  q3 : Int
  q4 : Int
  q5 : Bool
  q6 : Bool
  q7 : Int
  q8 : Int
  q9 : ByteArray
  q10 : Int
  q11 : Int
  q12 : Bool
  q13 : Int
def F29 (_n : Nat) (a0 : Int) : Option (Si5b2i2si2bi) :=
  some ⟨(2), (iadd .i64 (1048576) a0), (1), (2), (0), false, false, (0), (0), ByteArray.empty, (0), (0), false, (0)⟩
def F26 (_n : Nat) (a0 _a1 _a2 _a3 _a4 : Int) (_a5 _a6 : Bool) (_a7 _a8 : Int) (_a9 : List (Int)) (_a10 : ByteArray) (_a11 _a12 : Int) (_a13 : Bool) (_a14 : Int) : Option (Bool) :=
  bif (ige a0 (1)) then
 (some (ile a0 (6)))
 else (some false)
def F27 (_n : Nat) (a0 a1 a2 a3 a4 : Int) (a5 a6 : Bool) (a7 a8 : Int) (a9 : List (Int)) (a10 : ByteArray) (a11 a12 : Int) (a13 : Bool) (a14 : Int) : Option (Si5b2i2si2bi) :=
  Option.bind (F26 FUEL a0 a1 a2 a3 a4 a5 a6 a7 a8 a9 a10 a11 a12 a13 a14) fun y1 =>
 bif (!y1) then
 (some ⟨(0), (0), (0), (0), (0), false, false, (0), (0), ByteArray.empty, (0), (0), false, (0)⟩)
 else (some ⟨(iadd .u8 a0 (6)), a1, a3, a2, (0), false, false, (0), (0), ByteArray.empty, (0), (0), false, (0)⟩)
def F24_c0 : Nat → List (Int × Int × Int × Int × Int × Int × Int × Bool × Bool × Int × Int × (List (Int)) × ByteArray × Int × Int × Bool × Int) → Int → Int → List (Int × Int × Int × Int × Int × Int × Int × Bool × Bool × Int × Int × (List (Int)) × ByteArray × Int × Int × Bool × Int) → Option ((List (Int × Int × Int × Int × Int × Int × Int × Bool × Bool × Int × Int × (List (Int)) × ByteArray × Int × Int × Bool × Int)))
  | 0, _, _, _, _ => none
  | n + 1, x0, x1, x2, x3 => bif (ilt x2 x1) then
 (bif (inb x2 (List.length x0)) then
 (Option.bind (F32 FUEL (List.getD x0 (Int.toNat x2) (0, 0, 0, 0, 0, 0, 0, false, false, 0, 0, [], ByteArray.empty, 0, 0, false, 0)).2.2.1 (List.getD x0 (Int.toNat x2) (0, 0, 0, 0, 0, 0, 0, false, false, 0, 0, [], ByteArray.empty, 0, 0, false, 0)).2.2.2.1 (List.getD x0 (Int.toNat x2) (0, 0, 0, 0, 0, 0, 0, false, false, 0, 0, [], ByteArray.empty, 0, 0, false, 0)).2.2.2.2.1 (List.getD x0 (Int.toNat x2) (0, 0, 0, 0, 0, 0, 0, false, false, 0, 0, [], ByteArray.empty, 0, 0, false, 0)).2.2.2.2.2.1 (List.getD x0 (Int.toNat x2) (0, 0, 0, 0, 0, 0, 0, false, false, 0, 0, [], ByteArray.empty, 0, 0, false, 0)).2.2.2.2.2.2.1 (List.getD x0 (Int.toNat x2) (0, 0, 0, 0, 0, 0, 0, false, false, 0, 0, [], ByteArray.empty, 0, 0, false, 0)).2.2.2.2.2.2.2.1 (List.getD x0 (Int.toNat x2) (0, 0, 0, 0, 0, 0, 0, false, false, 0, 0, [], ByteArray.empty, 0, 0, false, 0)).2.2.2.2.2.2.2.2.1 (List.getD x0 (Int.toNat x2) (0, 0, 0, 0, 0, 0, 0, false, false, 0, 0, [], ByteArray.empty, 0, 0, false, 0)).2.2.2.2.2.2.2.2.2.1 (List.getD x0 (Int.toNat x2) (0, 0, 0, 0, 0, 0, 0, false, false, 0, 0, [], ByteArray.empty, 0, 0, false, 0)).2.2.2.2.2.2.2.2.2.2.1 (List.getD x0 (Int.toNat x2) (0, 0, 0, 0, 0, 0, 0, false, false, 0, 0, [], ByteArray.empty, 0, 0, false, 0)).2.2.2.2.2.2.2.2.2.2.2.1 (List.getD x0 (Int.toNat x2) (0, 0, 0, 0, 0, 0, 0, false, false, 0, 0, [], ByteArray.empty, 0, 0, false, 0)).2.2.2.2.2.2.2.2.2.2.2.2.1 (List.getD x0 (Int.toNat x2) (0, 0, 0, 0, 0, 0, 0, false, false, 0, 0, [], ByteArray.empty, 0, 0, false, 0)).2.2.2.2.2.2.2.2.2.2.2.2.2.1 (List.getD x0 (Int.toNat x2) (0, 0, 0, 0, 0, 0, 0, false, false, 0, 0, [], ByteArray.empty, 0, 0, false, 0)).2.2.2.2.2.2.2.2.2.2.2.2.2.2.1 (List.getD x0 (Int.toNat x2) (0, 0, 0, 0, 0, 0, 0, false, false, 0, 0, [], ByteArray.empty, 0, 0, false, 0)).2.2.2.2.2.2.2.2.2.2.2.2.2.2.2.1 (List.getD x0 (Int.toNat x2) (0, 0, 0, 0, 0, 0, 0, false, false, 0, 0, [], ByteArray.empty, 0, 0, false, 0)).2.2.2.2.2.2.2.2.2.2.2.2.2.2.2.2) fun y1 =>
 bif (room (List.length x3 + List.length ([((List.getD x0 (Int.toNat x2) (0, 0, 0, 0, 0, 0, 0, false, false, 0, 0, [], ByteArray.empty, 0, 0, false, 0)).1, (List.getD x0 (Int.toNat x2) (0, 0, 0, 0, 0, 0, 0, false, false, 0, 0, [], ByteArray.empty, 0, 0, false, 0)).2.1, y1.q0, y1.q1, y1.q2, y1.q3, y1.q4, y1.q5, y1.q6, y1.q7, y1.q8, y1.q14, y1.q9, y1.q10, y1.q11, y1.q12, y1.q13)] : List (Int × Int × Int × Int × Int × Int × Int × Bool × Bool × Int × Int × (List (Int)) × ByteArray × Int × Int × Bool × Int))) 152) then
 (F24_c0 n x0 x1 (iadd .i64 x2 (1)) (x3 ++ ([((List.getD x0 (Int.toNat x2) (0, 0, 0, 0, 0, 0, 0, false, false, 0, 0, [], ByteArray.empty, 0, 0, false, 0)).1, (List.getD x0 (Int.toNat x2) (0, 0, 0, 0, 0, 0, 0, false, false, 0, 0, [], ByteArray.empty, 0, 0, false, 0)).2.1, y1.q0, y1.q1, y1.q2, y1.q3, y1.q4, y1.q5, y1.q6, y1.q7, y1.q8, y1.q14, y1.q9, y1.q10, y1.q11, y1.q12, y1.q13)] : List (Int × Int × Int × Int × Int × Int × Int × Bool × Bool × Int × Int × (List (Int)) × ByteArray × Int × Int × Bool × Int))))
 else (none))
 else (none))
 else (some x3)
def F24 (n : Nat) (a0 : List (Int × Int × Int × Int × Int × Int × Int × Bool × Bool × Int × Int × (List (Int)) × ByteArray × Int × Int × Bool × Int)) : Option ((List (Int × Int × Int × Int × Int × Int × Int × Bool × Bool × Int × Int × (List (Int)) × ByteArray × Int × Int × Bool × Int))) :=
  F24_c0 n a0 (ofN (List.length a0)) (0) []
def F54 (_n : Nat) (a0 : ByteArray) : Option (Bool) :=
  bif (ige (stlen a0) (1)) then
 (some (ile (stlen a0) (20)))
 else (some false)
def F57 (_n : Nat) (a0 : Int) : Option (Bool) :=
  bif (ige a0 (0)) then
 (some (ile a0 (1048576)))
 else (some false)
def F53 (_n : Nat) (a0 : ByteArray) (a1 a2 : Int) (_a3 : Bool) : Option (Bool) :=
  Option.bind (F54 FUEL a0) fun y1 =>
 bif y1 then
 (Option.bind (F57 FUEL a1) fun y2 =>
 bif y2 then
 (Option.bind (F57 FUEL a2) fun y3 =>
 some y3)
 else (some false))
 else (some false)
def F59_c0 : Nat → List (Int) → Int → Int → Int → Option (Int)
  | 0, _, _, _, _ => none
  | n + 1, x0, x1, x2, x3 => bif (ilt x3 x2) then
 (bif (inb x3 (List.length x0)) then
 (bif (ieq x1 (List.getD x0 (Int.toNat x3) 0)) then
 (some x3)
 else (F59_c0 n x0 x1 x2 (iadd .i64 x3 (1))))
 else (none))
 else (some (-1))
def F59 (n : Nat) (a0 : List (Int)) (a1 : Int) : Option (Int) :=
  F59_c0 n a0 a1 (ofN (List.length a0)) (0)
def F58 (_n : Nat) (a0 : List (Int)) (a1 : Int) : Option (Bool) :=
  Option.bind (F59 FUEL a0 a1) fun y1 =>
 some (ige y1 (0))
def F55_c0 : Nat → Int → List (Int) → List (Int) → Int → Int → Option (Bool)
  | 0, _, _, _, _, _ => none
  | n + 1, x0, x1, x2, x3, x4 => bif (ilt x4 x3) then
 (bif (inb x4 (List.length x2)) then
 (bif (ieq (List.getD x2 (Int.toNat x4) 0) x0) then
 (some false)
 else (bif ((inn x4) && (inbs 0 (Int.toNat x4) (List.length x1))) then
 (Option.bind (F58 FUEL (List.drop 0 (List.take (Int.toNat x4) x1)) (List.getD x2 (Int.toNat x4) 0)) fun y1 =>
 bif y1 then
 (some false)
 else (F55_c0 n x0 x1 x2 x3 (iadd .i64 x4 (1))))
 else (none)))
 else (none))
 else (some true)
def F55 (n : Nat) (a0 : Int) (a1 : List (Int)) : Option (Bool) :=
  F55_c0 n a0 a1 a1 (ofN (List.length a1)) (0)
def F42 (_n : Nat) (a0 _a1 a2 _a3 _a4 : Int) (_a5 _a6 : Bool) (_a7 _a8 : Int) (a9 : List (Int)) (a10 : ByteArray) (a11 a12 : Int) (a13 : Bool) (a14 : Int) : Option (Bool) :=
  bif (ieq a0 (5)) then
 (Option.bind (F53 FUEL a10 a11 a12 a13) fun y1 =>
 some y1)
 else (bif (ieq a0 (6)) then
 (Option.bind (F54 FUEL a10) fun y2 =>
 some y2)
 else (bif (ieq a0 (7)) then
 (bif (ile (ofN (List.length a9)) (3)) then
 (Option.bind (F55 FUEL a2 a9) fun y3 =>
 some y3)
 else (some false))
 else (bif (ieq a0 (11)) then
 (bif (ieq a14 (0)) then
 (some true)
 else (some (ieq a14 (200))))
 else (bif (ieq a0 (12)) then
 (bif (ieq a14 (0)) then
 (Option.bind (F53 FUEL a10 a11 a12 a13) fun y4 =>
 bif y4 then
 (some true)
 else (bif (ieq a14 (201)) then
 (some ((steq a10 ByteArray.empty) && ((ieq a11 (0)) && ((ieq a12 (0)) && ((beqb a13 false) && true)))))
 else (some false)))
 else (bif (ieq a14 (201)) then
 (some ((steq a10 ByteArray.empty) && ((ieq a11 (0)) && ((ieq a12 (0)) && ((beqb a13 false) && true)))))
 else (some false)))
 else (some true)))))
def F44 (_n : Nat) (a0 : Int) : Option (Bool) :=
  bif (ige a0 (0)) then
 (some (ilt a0 (65536)))
 else (some false)
def F31 (_n : Nat) (a0 _a1 _a2 _a3 _a4 : Int) (_a5 _a6 : Bool) (_a7 _a8 : Int) (_a9 : List (Int)) (_a10 : ByteArray) (_a11 _a12 : Int) (_a13 : Bool) (_a14 : Int) : Option (Bool) :=
  bif (ige a0 (1)) then
 (some (ile a0 (6)))
 else (some false)
def F46 (_n : Nat) (a0 a1 a2 a3 a4 : Int) (a5 a6 : Bool) (a7 a8 : Int) (a9 : List (Int)) (a10 : ByteArray) (a11 a12 : Int) (a13 : Bool) (a14 : Int) : Option (Int) :=
  Option.bind (F31 FUEL a0 a1 a2 a3 a4 a5 a6 a7 a8 a9 a10 a11 a12 a13 a14) fun y1 =>
 bif y1 then
 (some a2)
 else (some a3)
def F45 (_n : Nat) (a0 a1 : Int) : Option (Bool) :=
  bif (igt a1 (imul .i64 a0 (1048576))) then
 (some (ile a1 (imul .i64 (iadd .i64 a0 (1)) (1048576))))
 else (some false)
structure Sbi5b2i2si2bi where
  q0 : Bool
  q1 : Int
  q2 : Int
  q3 : Int
  q4 : Int
  q5 : Int
  q6 : Bool
  q7 : Bool
  q8 : Int
  q9 : Int
  q10 : ByteArray
  q11 : Int
  q12 : Int
  q13 : Bool
  q14 : Int
def F47 (_n : Nat) (a0 _a1 _a2 _a3 a4 : Int) (a5 a6 : Bool) (a7 a8 : Int) (a9 : ByteArray) (a10 a11 : Int) (a12 : Bool) (a13 : Int) : Option (Sbi5b2i2si2bi) :=
  bif (ieq a0 (4)) then
 (some ⟨true, (0), (0), (0), (0), (0), false, a6, a7, a8, a9, a10, a11, a12, a13⟩)
 else (bif (ieq a0 (5)) then
 (some ⟨true, (0), (0), (0), (0), a4, a5, a6, a7, a8, ByteArray.empty, (0), (0), false, a13⟩)
 else (bif (ieq a0 (6)) then
 (some ⟨true, (0), (0), (0), (0), a4, a5, a6, a7, a8, ByteArray.empty, a10, a11, a12, a13⟩)
 else (bif (ieq a0 (7)) then
 (some ⟨false, (0), (0), (0), (0), a4, a5, a6, a7, (0), a9, a10, a11, a12, a13⟩)
 else (bif (ieq a0 (10)) then
 (some ⟨true, (0), (0), (0), (0), a4, a5, false, (0), a8, a9, a10, a11, a12, a13⟩)
 else (bif (ieq a0 (11)) then
 (some ⟨true, (0), (0), (0), (0), a4, a5, a6, a7, a8, a9, a10, a11, a12, (0)⟩)
 else (bif (ieq a0 (12)) then
 (some ⟨true, (0), (0), (0), (0), a4, a5, a6, a7, a8, ByteArray.empty, (0), (0), false, (0)⟩)
 else (some ⟨true, (0), (0), (0), (0), a4, a5, a6, a7, a8, a9, a10, a11, a12, a13⟩)))))))
def F50_c0 : Nat → List (Int) → List (Int) → Int → Int → Option (Bool)
  | 0, _, _, _, _ => none
  | n + 1, x0, x1, x2, x3 => bif (ilt x3 x2) then
 (bif (inb x3 (List.length x0)) then
 (bif (inb x3 (List.length x1)) then
 (bif (ine (List.getD x0 (Int.toNat x3) 0) (List.getD x1 (Int.toNat x3) 0)) then
 (some false)
 else (F50_c0 n x0 x1 x2 (iadd .i64 x3 (1))))
 else (none))
 else (none))
 else (some true)
def F50 (n : Nat) (a0 a1 : List (Int)) : Option (Bool) :=
  bif (ine (ofN (List.length a0)) (ofN (List.length a1))) then
 (some false)
 else (F50_c0 n a0 a1 (ofN (List.length a0)) (0))
def F37 (_n : Nat) (a0 a1 a2 a3 a4 : Int) (a5 a6 : Bool) (a7 a8 : Int) (a9 : List (Int)) (a10 : ByteArray) (a11 a12 : Int) (a13 : Bool) (a14 a15 a16 a17 a18 a19 : Int) (a20 a21 : Bool) (a22 a23 : Int) (a24 : List (Int)) (a25 : ByteArray) (a26 a27 : Int) (a28 : Bool) (a29 : Int) : Option (Bool) :=
  bif (ieq a0 a15) then
 (bif (ieq a1 a16) then
 (bif (ieq a2 a17) then
 (bif (ieq a3 a18) then
 (bif (ieq a4 a19) then
 (bif (beqb a5 a20) then
 (bif (beqb a6 a21) then
 (bif (ieq a7 a22) then
 (bif (ieq a8 a23) then
 (Option.bind (F50 FUEL a9 a24) fun y1 =>
 bif y1 then
 (bif ((steq a10 a25) && ((ieq a11 a26) && ((ieq a12 a27) && ((beqb a13 a28) && true)))) then
 (some (ieq a14 a29))
 else (some false))
 else (some false))
 else (some false))
 else (some false))
 else (some false))
 else (some false))
 else (some false))
 else (some false))
 else (some false))
 else (some false))
 else (some false)
mutual
def F30_c0 : Nat → Option (Bool)
  | 0 => none
  | _ + 1 => some false
def F30_c1 : Nat → List (Int) → Int → Int → Int → Int → Int → Int → Int → Bool → Bool → Int → Int → List (Int) → ByteArray → Int → Int → Bool → Int → Option (Bool)
  | 0, _, _, _, _, _, _, _, _, _, _, _, _, _, _, _, _, _, _ => none
  | n + 1, x0, x1, x2, x3, x4, x5, x6, x7, x8, x9, x10, x11, x12, x13, x14, x15, x16, x17 => bif (ilt x2 x1) then
 (bif (inb x2 (List.length x0)) then
 (Option.bind (F44 FUEL (List.getD x0 (Int.toNat x2) 0)) fun y22 =>
 bif (!y22) then
 (F30_c0 n )
 else (F30_c1 n x0 x1 (iadd .i64 x2 (1)) x3 x4 x5 x6 x7 x8 x9 x10 x11 x12 x13 x14 x15 x16 x17))
 else (none))
 else (bif (ieq x5 x6) then
 (F30_c0 n )
 else (Option.bind (F46 FUEL x3 x4 x5 x6 x7 x8 x9 x10 x11 x12 x13 x14 x15 x16 x17) fun y23 =>
 Option.bind (F45 FUEL y23 x4) fun y24 =>
 bif (!y24) then
 (F30_c0 n )
 else (Option.bind (F47 FUEL x3 x4 x5 x6 x7 x8 x9 x10 x11 x13 x14 x15 x16 x17) fun y25 =>
 bif y25.q0 then
 (Option.bind (F37 FUEL y25.q1 y25.q2 y25.q3 y25.q4 y25.q5 y25.q6 y25.q7 y25.q8 y25.q9 x12 y25.q10 y25.q11 y25.q12 y25.q13 y25.q14 (0) (0) (0) (0) (0) false false (0) (0) [] ByteArray.empty (0) (0) false (0)) fun y26 =>
 some y26)
 else (Option.bind (F37 FUEL y25.q1 y25.q2 y25.q3 y25.q4 y25.q5 y25.q6 y25.q7 y25.q8 y25.q9 [] y25.q10 y25.q11 y25.q12 y25.q13 y25.q14 (0) (0) (0) (0) (0) false false (0) (0) [] ByteArray.empty (0) (0) false (0)) fun y27 =>
 some y27))))
end
def F30 (n : Nat) (a0 a1 a2 a3 a4 : Int) (a5 a6 : Bool) (a7 a8 : Int) (a9 : List (Int)) (a10 : ByteArray) (a11 a12 : Int) (a13 : Bool) (a14 : Int) : Option (Bool) :=
  bif (ilt a0 (1)) then
 (F30_c0 n )
 else (bif (ige a0 (13)) then
 (F30_c0 n )
 else (Option.bind (F42 FUEL a0 a1 a2 a3 a4 a5 a6 a7 a8 a9 a10 a11 a12 a13 a14) fun y1 =>
 bif (!y1) then
 (F30_c0 n )
 else (Option.bind (F44 FUEL a2) fun y2 =>
 bif (!y2) then
 (F30_c0 n )
 else (Option.bind (F44 FUEL a3) fun y3 =>
 bif (!y3) then
 (F30_c0 n )
 else (bif (ieq a0 (4)) then
 (Option.bind (F44 FUEL a4) fun y4 =>
 bif (!y4) then
 (F30_c0 n )
 else (bif (ieq a2 a3) then
 (F30_c0 n )
 else (Option.bind (F46 FUEL a0 a1 a2 a3 a4 a5 a6 a7 a8 a9 a10 a11 a12 a13 a14) fun y5 =>
 Option.bind (F45 FUEL y5 a1) fun y6 =>
 bif (!y6) then
 (F30_c0 n )
 else (Option.bind (F47 FUEL a0 a1 a2 a3 a4 a5 a6 a7 a8 a10 a11 a12 a13 a14) fun y7 =>
 bif y7.q0 then
 (Option.bind (F37 FUEL y7.q1 y7.q2 y7.q3 y7.q4 y7.q5 y7.q6 y7.q7 y7.q8 y7.q9 a9 y7.q10 y7.q11 y7.q12 y7.q13 y7.q14 (0) (0) (0) (0) (0) false false (0) (0) [] ByteArray.empty (0) (0) false (0)) fun y8 =>
 some y8)
 else (Option.bind (F37 FUEL y7.q1 y7.q2 y7.q3 y7.q4 y7.q5 y7.q6 y7.q7 y7.q8 y7.q9 [] y7.q10 y7.q11 y7.q12 y7.q13 y7.q14 (0) (0) (0) (0) (0) false false (0) (0) [] ByteArray.empty (0) (0) false (0)) fun y9 =>
 some y9)))))
 else (bif (ieq a0 (10)) then
 (Option.bind (F44 FUEL a7) fun y10 =>
 bif (!y10) then
 (F30_c0 n )
 else (bif (ieq a2 a3) then
 (F30_c0 n )
 else (Option.bind (F46 FUEL a0 a1 a2 a3 a4 a5 a6 a7 a8 a9 a10 a11 a12 a13 a14) fun y11 =>
 Option.bind (F45 FUEL y11 a1) fun y12 =>
 bif (!y12) then
 (F30_c0 n )
 else (Option.bind (F47 FUEL a0 a1 a2 a3 a4 a5 a6 a7 a8 a10 a11 a12 a13 a14) fun y13 =>
 bif y13.q0 then
 (Option.bind (F37 FUEL y13.q1 y13.q2 y13.q3 y13.q4 y13.q5 y13.q6 y13.q7 y13.q8 y13.q9 a9 y13.q10 y13.q11 y13.q12 y13.q13 y13.q14 (0) (0) (0) (0) (0) false false (0) (0) [] ByteArray.empty (0) (0) false (0)) fun y14 =>
 some y14)
 else (Option.bind (F37 FUEL y13.q1 y13.q2 y13.q3 y13.q4 y13.q5 y13.q6 y13.q7 y13.q8 y13.q9 [] y13.q10 y13.q11 y13.q12 y13.q13 y13.q14 (0) (0) (0) (0) (0) false false (0) (0) [] ByteArray.empty (0) (0) false (0)) fun y15 =>
 some y15)))))
 else (bif (ieq a0 (7)) then
 (bif (ine a8 (-1)) then
 (Option.bind (F44 FUEL a8) fun y16 =>
 bif (!y16) then
 (F30_c0 n )
 else (F30_c1 n a9 (ofN (List.length a9)) (0) a0 a1 a2 a3 a4 a5 a6 a7 a8 a9 a10 a11 a12 a13 a14))
 else (F30_c1 n a9 (ofN (List.length a9)) (0) a0 a1 a2 a3 a4 a5 a6 a7 a8 a9 a10 a11 a12 a13 a14))
 else (bif (ieq a2 a3) then
 (F30_c0 n )
 else (Option.bind (F46 FUEL a0 a1 a2 a3 a4 a5 a6 a7 a8 a9 a10 a11 a12 a13 a14) fun y17 =>
 Option.bind (F45 FUEL y17 a1) fun y18 =>
 bif (!y18) then
 (F30_c0 n )
 else (Option.bind (F47 FUEL a0 a1 a2 a3 a4 a5 a6 a7 a8 a10 a11 a12 a13 a14) fun y19 =>
 bif y19.q0 then
 (Option.bind (F37 FUEL y19.q1 y19.q2 y19.q3 y19.q4 y19.q5 y19.q6 y19.q7 y19.q8 y19.q9 a9 y19.q10 y19.q11 y19.q12 y19.q13 y19.q14 (0) (0) (0) (0) (0) false false (0) (0) [] ByteArray.empty (0) (0) false (0)) fun y20 =>
 some y20)
 else (Option.bind (F37 FUEL y19.q1 y19.q2 y19.q3 y19.q4 y19.q5 y19.q6 y19.q7 y19.q8 y19.q9 [] y19.q10 y19.q11 y19.q12 y19.q13 y19.q14 (0) (0) (0) (0) (0) false false (0) (0) [] ByteArray.empty (0) (0) false (0)) fun y21 =>
 some y21)))))))))))
structure Si7b2i2lsi2bi2 where
  q0 : Int
  q1 : Int
  q2 : Int
  q3 : Int
  q4 : Int
  q5 : Int
  q6 : Int
  q7 : Bool
  q8 : Bool
  q9 : Int
  q10 : Int
  q11 : List (Int)
  q12 : ByteArray
  q13 : Int
  q14 : Int
  q15 : Bool
  q16 : Int
  q17 : Int
def F11 (_n : Nat) (a0 a1 a2 a3 a4 : Int) (a5 a6 : Bool) (a7 a8 : Int) (a9 : List (Int)) (a10 : ByteArray) (a11 a12 : Int) (a13 : Bool) (a14 : Int) : Option (Si7b2i2lsi2bi2) :=
  Option.bind (F30 FUEL a0 a1 a2 a3 a4 a5 a6 a7 a8 a9 a10 a11 a12 a13 a14) fun y1 =>
 bif (!y1) then
 (some ⟨(0), (0), (0), (0), (0), (0), (0), false, false, (0), (0), [], ByteArray.empty, (0), (0), false, (0), (2)⟩)
 else (Option.bind (F31 FUEL a0 a1 a2 a3 a4 a5 a6 a7 a8 a9 a10 a11 a12 a13 a14) fun y2 =>
 bif y2 then
 (some ⟨(0), (0), (0), (0), (0), (0), (0), false, false, (0), (0), [], ByteArray.empty, (0), (0), false, (0), (2)⟩)
 else (Option.bind (F32 FUEL a0 a1 a2 a3 a4 a5 a6 a7 a8 a9 a10 a11 a12 a13 a14) fun y3 =>
 some ⟨a3, a1, y3.q0, y3.q1, y3.q2, y3.q3, y3.q4, y3.q5, y3.q6, y3.q7, y3.q8, y3.q14, y3.q9, y3.q10, y3.q11, y3.q12, y3.q13, (0)⟩))
mutual
def F19_c0 : Nat → Nat → Nat → List (Int × Int × Int × Int × Int × Bool × Bool × Int × Int × (List (Int)) × ByteArray × Int × Int × Bool × Int) → Int → Int → List (Int × Int × Int × Int × Int × Int × Int × Bool × Bool × Int × Int × (List (Int)) × ByteArray × Int × Int × Bool × Int) → Option ((List (Int × Int × Int × Int × Int × Int × Int × Bool × Bool × Int × Int × (List (Int)) × ByteArray × Int × Int × Bool × Int)))
  | 0, _, _, _, _, _, _ => none
  | n + 1, x0, x1, x2, x3, x4, x5 => bif (ilt x4 x3) then
 (bif (inb x4 (List.length x2)) then
 (Option.bind (F11 FUEL (List.getD x2 (Int.toNat x4) (0, 0, 0, 0, 0, false, false, 0, 0, [], ByteArray.empty, 0, 0, false, 0)).1 (List.getD x2 (Int.toNat x4) (0, 0, 0, 0, 0, false, false, 0, 0, [], ByteArray.empty, 0, 0, false, 0)).2.1 (List.getD x2 (Int.toNat x4) (0, 0, 0, 0, 0, false, false, 0, 0, [], ByteArray.empty, 0, 0, false, 0)).2.2.1 (List.getD x2 (Int.toNat x4) (0, 0, 0, 0, 0, false, false, 0, 0, [], ByteArray.empty, 0, 0, false, 0)).2.2.2.1 (List.getD x2 (Int.toNat x4) (0, 0, 0, 0, 0, false, false, 0, 0, [], ByteArray.empty, 0, 0, false, 0)).2.2.2.2.1 (List.getD x2 (Int.toNat x4) (0, 0, 0, 0, 0, false, false, 0, 0, [], ByteArray.empty, 0, 0, false, 0)).2.2.2.2.2.1 (List.getD x2 (Int.toNat x4) (0, 0, 0, 0, 0, false, false, 0, 0, [], ByteArray.empty, 0, 0, false, 0)).2.2.2.2.2.2.1 (List.getD x2 (Int.toNat x4) (0, 0, 0, 0, 0, false, false, 0, 0, [], ByteArray.empty, 0, 0, false, 0)).2.2.2.2.2.2.2.1 (List.getD x2 (Int.toNat x4) (0, 0, 0, 0, 0, false, false, 0, 0, [], ByteArray.empty, 0, 0, false, 0)).2.2.2.2.2.2.2.2.1 (List.getD x2 (Int.toNat x4) (0, 0, 0, 0, 0, false, false, 0, 0, [], ByteArray.empty, 0, 0, false, 0)).2.2.2.2.2.2.2.2.2.1 (List.getD x2 (Int.toNat x4) (0, 0, 0, 0, 0, false, false, 0, 0, [], ByteArray.empty, 0, 0, false, 0)).2.2.2.2.2.2.2.2.2.2.1 (List.getD x2 (Int.toNat x4) (0, 0, 0, 0, 0, false, false, 0, 0, [], ByteArray.empty, 0, 0, false, 0)).2.2.2.2.2.2.2.2.2.2.2.1 (List.getD x2 (Int.toNat x4) (0, 0, 0, 0, 0, false, false, 0, 0, [], ByteArray.empty, 0, 0, false, 0)).2.2.2.2.2.2.2.2.2.2.2.2.1 (List.getD x2 (Int.toNat x4) (0, 0, 0, 0, 0, false, false, 0, 0, [], ByteArray.empty, 0, 0, false, 0)).2.2.2.2.2.2.2.2.2.2.2.2.2.1 (List.getD x2 (Int.toNat x4) (0, 0, 0, 0, 0, false, false, 0, 0, [], ByteArray.empty, 0, 0, false, 0)).2.2.2.2.2.2.2.2.2.2.2.2.2.2) fun y2 =>
 bif (ine y2.q17 (0)) then
 (F19_c0 n x0 x1 x2 x3 (iadd .i64 x4 (1)) x5)
 else (Option.bind (F35 FUEL y2.q0 y2.q1) fun y3 =>
 Option.bind (F34 FUEL (List.take x1 (List.drop x0 x5)) y3.1 y3.2) fun y4 =>
 bif (ige y4 (0)) then
 (F19_c0 n x0 x1 x2 x3 (iadd .i64 x4 (1)) x5)
 else (bif (full x0 x1 (List.length x5) && room (x1 + List.length [(y2.q0, y2.q1, y2.q2, y2.q3, y2.q4, y2.q5, y2.q6, y2.q7, y2.q8, y2.q9, y2.q10, y2.q11, y2.q12, y2.q13, y2.q14, y2.q15, y2.q16)]) 152) then
 (bif (igt (ofN (List.length (List.drop x0 x5 ++ [(y2.q0, y2.q1, y2.q2, y2.q3, y2.q4, y2.q5, y2.q6, y2.q7, y2.q8, y2.q9, y2.q10, y2.q11, y2.q12, y2.q13, y2.q14, y2.q15, y2.q16)]))) (40)) then
 (bif (((inn (1)) && true) && (inbs (Int.toNat (1)) (List.length (List.drop x0 x5 ++ [(y2.q0, y2.q1, y2.q2, y2.q3, y2.q4, y2.q5, y2.q6, y2.q7, y2.q8, y2.q9, y2.q10, y2.q11, y2.q12, y2.q13, y2.q14, y2.q15, y2.q16)])) (List.length (List.drop x0 x5 ++ [(y2.q0, y2.q1, y2.q2, y2.q3, y2.q4, y2.q5, y2.q6, y2.q7, y2.q8, y2.q9, y2.q10, y2.q11, y2.q12, y2.q13, y2.q14, y2.q15, y2.q16)])))) then
 (F19_c1 n (Int.toNat (1)) ((List.length (List.drop x0 x5 ++ [(y2.q0, y2.q1, y2.q2, y2.q3, y2.q4, y2.q5, y2.q6, y2.q7, y2.q8, y2.q9, y2.q10, y2.q11, y2.q12, y2.q13, y2.q14, y2.q15, y2.q16)])) - (Int.toNat (1))) x2 x3 x4 (List.drop x0 x5 ++ [(y2.q0, y2.q1, y2.q2, y2.q3, y2.q4, y2.q5, y2.q6, y2.q7, y2.q8, y2.q9, y2.q10, y2.q11, y2.q12, y2.q13, y2.q14, y2.q15, y2.q16)]))
 else (none))
 else (F19_c0 n 0 (List.length (List.drop x0 x5 ++ [(y2.q0, y2.q1, y2.q2, y2.q3, y2.q4, y2.q5, y2.q6, y2.q7, y2.q8, y2.q9, y2.q10, y2.q11, y2.q12, y2.q13, y2.q14, y2.q15, y2.q16)])) x2 x3 (iadd .i64 x4 (1)) (List.drop x0 x5 ++ [(y2.q0, y2.q1, y2.q2, y2.q3, y2.q4, y2.q5, y2.q6, y2.q7, y2.q8, y2.q9, y2.q10, y2.q11, y2.q12, y2.q13, y2.q14, y2.q15, y2.q16)])))
 else (none))))
 else (none))
 else (some (List.take x1 (List.drop x0 x5)))
def F19_c1 : Nat → Nat → Nat → List (Int × Int × Int × Int × Int × Bool × Bool × Int × Int × (List (Int)) × ByteArray × Int × Int × Bool × Int) → Int → Int → List (Int × Int × Int × Int × Int × Int × Int × Bool × Bool × Int × Int × (List (Int)) × ByteArray × Int × Int × Bool × Int) → Option ((List (Int × Int × Int × Int × Int × Int × Int × Bool × Bool × Int × Int × (List (Int)) × ByteArray × Int × Int × Bool × Int)))
  | 0, _, _, _, _, _, _ => none
  | n + 1, x0, x1, x2, x3, x4, x5 => bif (igt (ofN x1) (40)) then
 (bif (((inn (1)) && true) && (inbs (Int.toNat (1)) x1 x1)) then
 (F19_c1 n (x0 + (Int.toNat (1))) (x1 - (Int.toNat (1))) x2 x3 x4 x5)
 else (none))
 else (F19_c0 n x0 x1 x2 x3 (iadd .i64 x4 (1)) x5)
end
def F19 (n : Nat) (a0 : List (Int × Int × Int × Int × Int × Int × Int × Bool × Bool × Int × Int × (List (Int)) × ByteArray × Int × Int × Bool × Int)) (a1 : List (Int × Int × Int × Int × Int × Bool × Bool × Int × Int × (List (Int)) × ByteArray × Int × Int × Bool × Int)) : Option ((List (Int × Int × Int × Int × Int × Int × Int × Bool × Bool × Int × Int × (List (Int)) × ByteArray × Int × Int × Bool × Int))) :=
  Option.bind (F24 FUEL a0) fun y1 =>
 F19_c0 n 0 (List.length y1) a1 (ofN (List.length a1)) (0) y1
def F15_c0 : Nat → Int → Int → Int → Int → Int → Int → Bool → Bool → Int → Int → List (Int) → ByteArray → Int → Int → Bool → Int → Int → Int → Int → Int → Int → Bool → Bool → Int → Int → List (Int) → ByteArray → Int → Int → Bool → Int → Option (Bool)
  | 0, _, _, _, _, _, _, _, _, _, _, _, _, _, _, _, _, _, _, _, _, _, _, _, _, _, _, _, _, _, _, _ => none
  | n + 1, x0, x1, x2, x3, x4, x5, x6, x7, x8, x9, x10, x11, x12, x13, x14, x15, x16, x17, x18, x19, x20, x21, x22, x23, x24, x25, x26, x27, x28, x29, x30 => bif (ilt x0 (ofN (List.length x10))) then
 (bif (inb x0 (List.length x10)) then
 (bif (inb x0 (List.length x25)) then
 (bif (ine (List.getD x10 (Int.toNat x0) 0) (List.getD x25 (Int.toNat x0) 0)) then
 (some false)
 else (F15_c0 n (iadd .i64 x0 (1)) x1 x2 x3 x4 x5 x6 x7 x8 x9 x10 x11 x12 x13 x14 x15 x16 x17 x18 x19 x20 x21 x22 x23 x24 x25 x26 x27 x28 x29 x30))
 else (none))
 else (none))
 else (bif (ieq x1 x16) then
 (bif (ieq x2 x17) then
 (bif (ieq x3 x18) then
 (bif (ieq x4 x19) then
 (bif (ieq x5 x20) then
 (bif (beqb x6 x21) then
 (bif (beqb x7 x22) then
 (bif (ieq x8 x23) then
 (bif (ieq x9 x24) then
 (bif ((steq x11 x26) && ((ieq x12 x27) && ((ieq x13 x28) && ((beqb x14 x29) && true)))) then
 (some (ieq x15 x30))
 else (some false))
 else (some false))
 else (some false))
 else (some false))
 else (some false))
 else (some false))
 else (some false))
 else (some false))
 else (some false))
 else (some false))
def F15 (n : Nat) (a0 a1 a2 a3 a4 : Int) (a5 a6 : Bool) (a7 a8 : Int) (a9 : List (Int)) (a10 : ByteArray) (a11 a12 : Int) (a13 : Bool) (a14 a15 a16 a17 a18 a19 : Int) (a20 a21 : Bool) (a22 a23 : Int) (a24 : List (Int)) (a25 : ByteArray) (a26 a27 : Int) (a28 : Bool) (a29 : Int) : Option (Bool) :=
  bif (ine (ofN (List.length a9)) (ofN (List.length a24))) then
 (some false)
 else (F15_c0 n (0) a0 a1 a2 a3 a4 a5 a6 a7 a8 a9 a10 a11 a12 a13 a14 a15 a16 a17 a18 a19 a20 a21 a22 a23 a24 a25 a26 a27 a28 a29)
def F21 (_n : Nat) (a0 : List (Int × Int × Int × Int × Int × Int × Int × Bool × Bool × Int × Int × (List (Int)) × ByteArray × Int × Int × Bool × Int)) (a1 a2 a3 a4 a5 : Int) (a6 a7 : Bool) (a8 a9 : Int) (a10 : List (Int)) (a11 : ByteArray) (a12 a13 : Int) (a14 : Bool) (a15 : Int) : Option (Bool) :=
  Option.bind (F30 FUEL a1 a2 a3 a4 a5 a6 a7 a8 a9 a10 a11 a12 a13 a14 a15) fun y1 =>
 bif y1 then
 (Option.bind (F31 FUEL a1 a2 a3 a4 a5 a6 a7 a8 a9 a10 a11 a12 a13 a14 a15) fun y2 =>
 bif y2 then
 (Option.bind (F35 FUEL a3 a2) fun y3 =>
 Option.bind (F34 FUEL a0 y3.1 y3.2) fun y4 =>
 some (ilt y4 (0)))
 else (some false))
 else (some false)
def F16_c0 : Nat → List (Int × Int × Int × Int × Int × Int × Int × Bool × Bool × Int × Int × (List (Int)) × ByteArray × Int × Int × Bool × Int) → Int → Int → List (Int × Int × Int × Int × Int × Int × Int × Bool × Bool × Int × Int × (List (Int)) × ByteArray × Int × Int × Bool × Int) → Bool → Option (Bool)
  | 0, _, _, _, _, _ => none
  | n + 1, x0, x1, x2, x3, x4 => bif (ilt x2 x1) then
 (bif (inb x2 (List.length x0)) then
 (Option.bind (F30 FUEL (List.getD x0 (Int.toNat x2) (0, 0, 0, 0, 0, 0, 0, false, false, 0, 0, [], ByteArray.empty, 0, 0, false, 0)).2.2.1 (List.getD x0 (Int.toNat x2) (0, 0, 0, 0, 0, 0, 0, false, false, 0, 0, [], ByteArray.empty, 0, 0, false, 0)).2.2.2.1 (List.getD x0 (Int.toNat x2) (0, 0, 0, 0, 0, 0, 0, false, false, 0, 0, [], ByteArray.empty, 0, 0, false, 0)).2.2.2.2.1 (List.getD x0 (Int.toNat x2) (0, 0, 0, 0, 0, 0, 0, false, false, 0, 0, [], ByteArray.empty, 0, 0, false, 0)).2.2.2.2.2.1 (List.getD x0 (Int.toNat x2) (0, 0, 0, 0, 0, 0, 0, false, false, 0, 0, [], ByteArray.empty, 0, 0, false, 0)).2.2.2.2.2.2.1 (List.getD x0 (Int.toNat x2) (0, 0, 0, 0, 0, 0, 0, false, false, 0, 0, [], ByteArray.empty, 0, 0, false, 0)).2.2.2.2.2.2.2.1 (List.getD x0 (Int.toNat x2) (0, 0, 0, 0, 0, 0, 0, false, false, 0, 0, [], ByteArray.empty, 0, 0, false, 0)).2.2.2.2.2.2.2.2.1 (List.getD x0 (Int.toNat x2) (0, 0, 0, 0, 0, 0, 0, false, false, 0, 0, [], ByteArray.empty, 0, 0, false, 0)).2.2.2.2.2.2.2.2.2.1 (List.getD x0 (Int.toNat x2) (0, 0, 0, 0, 0, 0, 0, false, false, 0, 0, [], ByteArray.empty, 0, 0, false, 0)).2.2.2.2.2.2.2.2.2.2.1 (List.getD x0 (Int.toNat x2) (0, 0, 0, 0, 0, 0, 0, false, false, 0, 0, [], ByteArray.empty, 0, 0, false, 0)).2.2.2.2.2.2.2.2.2.2.2.1 (List.getD x0 (Int.toNat x2) (0, 0, 0, 0, 0, 0, 0, false, false, 0, 0, [], ByteArray.empty, 0, 0, false, 0)).2.2.2.2.2.2.2.2.2.2.2.2.1 (List.getD x0 (Int.toNat x2) (0, 0, 0, 0, 0, 0, 0, false, false, 0, 0, [], ByteArray.empty, 0, 0, false, 0)).2.2.2.2.2.2.2.2.2.2.2.2.2.1 (List.getD x0 (Int.toNat x2) (0, 0, 0, 0, 0, 0, 0, false, false, 0, 0, [], ByteArray.empty, 0, 0, false, 0)).2.2.2.2.2.2.2.2.2.2.2.2.2.2.1 (List.getD x0 (Int.toNat x2) (0, 0, 0, 0, 0, 0, 0, false, false, 0, 0, [], ByteArray.empty, 0, 0, false, 0)).2.2.2.2.2.2.2.2.2.2.2.2.2.2.2.1 (List.getD x0 (Int.toNat x2) (0, 0, 0, 0, 0, 0, 0, false, false, 0, 0, [], ByteArray.empty, 0, 0, false, 0)).2.2.2.2.2.2.2.2.2.2.2.2.2.2.2.2) fun y1 =>
 bif (!y1) then
 (some false)
 else (Option.bind (F31 FUEL (List.getD x0 (Int.toNat x2) (0, 0, 0, 0, 0, 0, 0, false, false, 0, 0, [], ByteArray.empty, 0, 0, false, 0)).2.2.1 (List.getD x0 (Int.toNat x2) (0, 0, 0, 0, 0, 0, 0, false, false, 0, 0, [], ByteArray.empty, 0, 0, false, 0)).2.2.2.1 (List.getD x0 (Int.toNat x2) (0, 0, 0, 0, 0, 0, 0, false, false, 0, 0, [], ByteArray.empty, 0, 0, false, 0)).2.2.2.2.1 (List.getD x0 (Int.toNat x2) (0, 0, 0, 0, 0, 0, 0, false, false, 0, 0, [], ByteArray.empty, 0, 0, false, 0)).2.2.2.2.2.1 (List.getD x0 (Int.toNat x2) (0, 0, 0, 0, 0, 0, 0, false, false, 0, 0, [], ByteArray.empty, 0, 0, false, 0)).2.2.2.2.2.2.1 (List.getD x0 (Int.toNat x2) (0, 0, 0, 0, 0, 0, 0, false, false, 0, 0, [], ByteArray.empty, 0, 0, false, 0)).2.2.2.2.2.2.2.1 (List.getD x0 (Int.toNat x2) (0, 0, 0, 0, 0, 0, 0, false, false, 0, 0, [], ByteArray.empty, 0, 0, false, 0)).2.2.2.2.2.2.2.2.1 (List.getD x0 (Int.toNat x2) (0, 0, 0, 0, 0, 0, 0, false, false, 0, 0, [], ByteArray.empty, 0, 0, false, 0)).2.2.2.2.2.2.2.2.2.1 (List.getD x0 (Int.toNat x2) (0, 0, 0, 0, 0, 0, 0, false, false, 0, 0, [], ByteArray.empty, 0, 0, false, 0)).2.2.2.2.2.2.2.2.2.2.1 (List.getD x0 (Int.toNat x2) (0, 0, 0, 0, 0, 0, 0, false, false, 0, 0, [], ByteArray.empty, 0, 0, false, 0)).2.2.2.2.2.2.2.2.2.2.2.1 (List.getD x0 (Int.toNat x2) (0, 0, 0, 0, 0, 0, 0, false, false, 0, 0, [], ByteArray.empty, 0, 0, false, 0)).2.2.2.2.2.2.2.2.2.2.2.2.1 (List.getD x0 (Int.toNat x2) (0, 0, 0, 0, 0, 0, 0, false, false, 0, 0, [], ByteArray.empty, 0, 0, false, 0)).2.2.2.2.2.2.2.2.2.2.2.2.2.1 (List.getD x0 (Int.toNat x2) (0, 0, 0, 0, 0, 0, 0, false, false, 0, 0, [], ByteArray.empty, 0, 0, false, 0)).2.2.2.2.2.2.2.2.2.2.2.2.2.2.1 (List.getD x0 (Int.toNat x2) (0, 0, 0, 0, 0, 0, 0, false, false, 0, 0, [], ByteArray.empty, 0, 0, false, 0)).2.2.2.2.2.2.2.2.2.2.2.2.2.2.2.1 (List.getD x0 (Int.toNat x2) (0, 0, 0, 0, 0, 0, 0, false, false, 0, 0, [], ByteArray.empty, 0, 0, false, 0)).2.2.2.2.2.2.2.2.2.2.2.2.2.2.2.2) fun y2 =>
 bif y2 then
 (some false)
 else (bif (ine (List.getD x0 (Int.toNat x2) (0, 0, 0, 0, 0, 0, 0, false, false, 0, 0, [], ByteArray.empty, 0, 0, false, 0)).2.2.2.2.2.1 (List.getD x0 (Int.toNat x2) (0, 0, 0, 0, 0, 0, 0, false, false, 0, 0, [], ByteArray.empty, 0, 0, false, 0)).1) then
 (some false)
 else (bif (ine (List.getD x0 (Int.toNat x2) (0, 0, 0, 0, 0, 0, 0, false, false, 0, 0, [], ByteArray.empty, 0, 0, false, 0)).2.2.2.1 (List.getD x0 (Int.toNat x2) (0, 0, 0, 0, 0, 0, 0, false, false, 0, 0, [], ByteArray.empty, 0, 0, false, 0)).2.1) then
 (some false)
 else (bif ((inn x2) && (inbs 0 (Int.toNat x2) (List.length x3))) then
 (Option.bind (F35 FUEL (List.getD x0 (Int.toNat x2) (0, 0, 0, 0, 0, 0, 0, false, false, 0, 0, [], ByteArray.empty, 0, 0, false, 0)).1 (List.getD x0 (Int.toNat x2) (0, 0, 0, 0, 0, 0, 0, false, false, 0, 0, [], ByteArray.empty, 0, 0, false, 0)).2.1) fun y3 =>
 Option.bind (F34 FUEL (List.drop 0 (List.take (Int.toNat x2) x3)) y3.1 y3.2) fun y4 =>
 bif (ige y4 (0)) then
 (some false)
 else (F16_c0 n x0 x1 (iadd .i64 x2 (1)) x3 x4))
 else (none))))))
 else (none))
 else (some true)
def F16 (n : Nat) (a0 : List (Int × Int × Int × Int × Int × Int × Int × Bool × Bool × Int × Int × (List (Int)) × ByteArray × Int × Int × Bool × Int)) : Option (Bool) :=
  bif (igt (ofN (List.length a0)) (40)) then
 (some false)
 else (F16_c0 n a0 (ofN (List.length a0)) (0) a0 false)
def F23_c0 : Nat → List (Int × Int × Int × Int × Int × Int × Int × Bool × Bool × Int × Int × (List (Int)) × ByteArray × Int × Int × Bool × Int) → Int → Int → List (Int × Int × Int × Int × Int × Int × Int × Bool × Bool × Int × Int × (List (Int)) × ByteArray × Int × Int × Bool × Int) → Bool → Option (Bool)
  | 0, _, _, _, _, _ => none
  | n + 1, x0, x1, x2, x3, x4 => bif (ilt x2 x1) then
 (bif (inb x2 (List.length x0)) then
 (bif (inb x2 (List.length x3)) then
 (bif (ine (List.getD x0 (Int.toNat x2) (0, 0, 0, 0, 0, 0, 0, false, false, 0, 0, [], ByteArray.empty, 0, 0, false, 0)).1 (List.getD x3 (Int.toNat x2) (0, 0, 0, 0, 0, 0, 0, false, false, 0, 0, [], ByteArray.empty, 0, 0, false, 0)).1) then
 (some false)
 else (bif (inb x2 (List.length x3)) then
 (bif (ine (List.getD x0 (Int.toNat x2) (0, 0, 0, 0, 0, 0, 0, false, false, 0, 0, [], ByteArray.empty, 0, 0, false, 0)).2.1 (List.getD x3 (Int.toNat x2) (0, 0, 0, 0, 0, 0, 0, false, false, 0, 0, [], ByteArray.empty, 0, 0, false, 0)).2.1) then
 (some false)
 else (bif (inb x2 (List.length x3)) then
 (Option.bind (F37 FUEL (List.getD x0 (Int.toNat x2) (0, 0, 0, 0, 0, 0, 0, false, false, 0, 0, [], ByteArray.empty, 0, 0, false, 0)).2.2.1 (List.getD x0 (Int.toNat x2) (0, 0, 0, 0, 0, 0, 0, false, false, 0, 0, [], ByteArray.empty, 0, 0, false, 0)).2.2.2.1 (List.getD x0 (Int.toNat x2) (0, 0, 0, 0, 0, 0, 0, false, false, 0, 0, [], ByteArray.empty, 0, 0, false, 0)).2.2.2.2.1 (List.getD x0 (Int.toNat x2) (0, 0, 0, 0, 0, 0, 0, false, false, 0, 0, [], ByteArray.empty, 0, 0, false, 0)).2.2.2.2.2.1 (List.getD x0 (Int.toNat x2) (0, 0, 0, 0, 0, 0, 0, false, false, 0, 0, [], ByteArray.empty, 0, 0, false, 0)).2.2.2.2.2.2.1 (List.getD x0 (Int.toNat x2) (0, 0, 0, 0, 0, 0, 0, false, false, 0, 0, [], ByteArray.empty, 0, 0, false, 0)).2.2.2.2.2.2.2.1 (List.getD x0 (Int.toNat x2) (0, 0, 0, 0, 0, 0, 0, false, false, 0, 0, [], ByteArray.empty, 0, 0, false, 0)).2.2.2.2.2.2.2.2.1 (List.getD x0 (Int.toNat x2) (0, 0, 0, 0, 0, 0, 0, false, false, 0, 0, [], ByteArray.empty, 0, 0, false, 0)).2.2.2.2.2.2.2.2.2.1 (List.getD x0 (Int.toNat x2) (0, 0, 0, 0, 0, 0, 0, false, false, 0, 0, [], ByteArray.empty, 0, 0, false, 0)).2.2.2.2.2.2.2.2.2.2.1 (List.getD x0 (Int.toNat x2) (0, 0, 0, 0, 0, 0, 0, false, false, 0, 0, [], ByteArray.empty, 0, 0, false, 0)).2.2.2.2.2.2.2.2.2.2.2.1 (List.getD x0 (Int.toNat x2) (0, 0, 0, 0, 0, 0, 0, false, false, 0, 0, [], ByteArray.empty, 0, 0, false, 0)).2.2.2.2.2.2.2.2.2.2.2.2.1 (List.getD x0 (Int.toNat x2) (0, 0, 0, 0, 0, 0, 0, false, false, 0, 0, [], ByteArray.empty, 0, 0, false, 0)).2.2.2.2.2.2.2.2.2.2.2.2.2.1 (List.getD x0 (Int.toNat x2) (0, 0, 0, 0, 0, 0, 0, false, false, 0, 0, [], ByteArray.empty, 0, 0, false, 0)).2.2.2.2.2.2.2.2.2.2.2.2.2.2.1 (List.getD x0 (Int.toNat x2) (0, 0, 0, 0, 0, 0, 0, false, false, 0, 0, [], ByteArray.empty, 0, 0, false, 0)).2.2.2.2.2.2.2.2.2.2.2.2.2.2.2.1 (List.getD x0 (Int.toNat x2) (0, 0, 0, 0, 0, 0, 0, false, false, 0, 0, [], ByteArray.empty, 0, 0, false, 0)).2.2.2.2.2.2.2.2.2.2.2.2.2.2.2.2 (List.getD x3 (Int.toNat x2) (0, 0, 0, 0, 0, 0, 0, false, false, 0, 0, [], ByteArray.empty, 0, 0, false, 0)).2.2.1 (List.getD x3 (Int.toNat x2) (0, 0, 0, 0, 0, 0, 0, false, false, 0, 0, [], ByteArray.empty, 0, 0, false, 0)).2.2.2.1 (List.getD x3 (Int.toNat x2) (0, 0, 0, 0, 0, 0, 0, false, false, 0, 0, [], ByteArray.empty, 0, 0, false, 0)).2.2.2.2.1 (List.getD x3 (Int.toNat x2) (0, 0, 0, 0, 0, 0, 0, false, false, 0, 0, [], ByteArray.empty, 0, 0, false, 0)).2.2.2.2.2.1 (List.getD x3 (Int.toNat x2) (0, 0, 0, 0, 0, 0, 0, false, false, 0, 0, [], ByteArray.empty, 0, 0, false, 0)).2.2.2.2.2.2.1 (List.getD x3 (Int.toNat x2) (0, 0, 0, 0, 0, 0, 0, false, false, 0, 0, [], ByteArray.empty, 0, 0, false, 0)).2.2.2.2.2.2.2.1 (List.getD x3 (Int.toNat x2) (0, 0, 0, 0, 0, 0, 0, false, false, 0, 0, [], ByteArray.empty, 0, 0, false, 0)).2.2.2.2.2.2.2.2.1 (List.getD x3 (Int.toNat x2) (0, 0, 0, 0, 0, 0, 0, false, false, 0, 0, [], ByteArray.empty, 0, 0, false, 0)).2.2.2.2.2.2.2.2.2.1 (List.getD x3 (Int.toNat x2) (0, 0, 0, 0, 0, 0, 0, false, false, 0, 0, [], ByteArray.empty, 0, 0, false, 0)).2.2.2.2.2.2.2.2.2.2.1 (List.getD x3 (Int.toNat x2) (0, 0, 0, 0, 0, 0, 0, false, false, 0, 0, [], ByteArray.empty, 0, 0, false, 0)).2.2.2.2.2.2.2.2.2.2.2.1 (List.getD x3 (Int.toNat x2) (0, 0, 0, 0, 0, 0, 0, false, false, 0, 0, [], ByteArray.empty, 0, 0, false, 0)).2.2.2.2.2.2.2.2.2.2.2.2.1 (List.getD x3 (Int.toNat x2) (0, 0, 0, 0, 0, 0, 0, false, false, 0, 0, [], ByteArray.empty, 0, 0, false, 0)).2.2.2.2.2.2.2.2.2.2.2.2.2.1 (List.getD x3 (Int.toNat x2) (0, 0, 0, 0, 0, 0, 0, false, false, 0, 0, [], ByteArray.empty, 0, 0, false, 0)).2.2.2.2.2.2.2.2.2.2.2.2.2.2.1 (List.getD x3 (Int.toNat x2) (0, 0, 0, 0, 0, 0, 0, false, false, 0, 0, [], ByteArray.empty, 0, 0, false, 0)).2.2.2.2.2.2.2.2.2.2.2.2.2.2.2.1 (List.getD x3 (Int.toNat x2) (0, 0, 0, 0, 0, 0, 0, false, false, 0, 0, [], ByteArray.empty, 0, 0, false, 0)).2.2.2.2.2.2.2.2.2.2.2.2.2.2.2.2) fun y1 =>
 bif (!y1) then
 (some false)
 else (F23_c0 n x0 x1 (iadd .i64 x2 (1)) x3 x4))
 else (none)))
 else (none)))
 else (none))
 else (none))
 else (some true)
def F23 (n : Nat) (a0 a1 : List (Int × Int × Int × Int × Int × Int × Int × Bool × Bool × Int × Int × (List (Int)) × ByteArray × Int × Int × Bool × Int)) : Option (Bool) :=
  bif (ine (ofN (List.length a0)) (ofN (List.length a1))) then
 (some false)
 else (F23_c0 n a0 (ofN (List.length a0)) (0) a1 false)
def F10_c0 : Nat → Bool → List (Int × Int × Int × Int × Int × Int × Int × Bool × Bool × Int × Int × (List (Int)) × ByteArray × Int × Int × Bool × Int) → Int → Option (Bool)
  | 0, _, _, _ => none
  | n + 1, x0, x1, x2 => bif (ile x2 (42)) then
 (Option.bind (F29 FUEL x2) fun y2 =>
 Option.bind (F27 FUEL y2.q0 y2.q1 y2.q2 y2.q3 y2.q4 y2.q5 y2.q6 y2.q7 y2.q8 [] y2.q9 y2.q10 y2.q11 y2.q12 y2.q13) fun y3 =>
 Option.bind (F19 FUEL x1 ([(y3.q0, y3.q1, y3.q2, y3.q3, y3.q4, y3.q5, y3.q6, y3.q7, y3.q8, [], y3.q9, y3.q10, y3.q11, y3.q12, y3.q13)] : List (Int × Int × Int × Int × Int × Bool × Bool × Int × Int × (List (Int)) × ByteArray × Int × Int × Bool × Int))) fun y4 =>
 F10_c0 n x0 y4 (iadd .i64 x2 (1)))
 else (Option.bind (F13 FUEL x1 (1) (1048578)) fun y5 =>
 Option.bind (F13 FUEL x1 (1) (1048579)) fun y6 =>
 Option.bind (F29 FUEL (1)) fun y7 =>
 Option.bind (F11 FUEL y7.q0 y7.q1 y7.q2 y7.q3 y7.q4 y7.q5 y7.q6 y7.q7 y7.q8 [] y7.q9 y7.q10 y7.q11 y7.q12 y7.q13) fun y8 =>
 bif (!x0) then
 (bif (ieq (ofN (List.length x1)) (40)) then
 (bif (!y5.q14) then
 (bif y6.q14 then
 (Option.bind (F29 FUEL (3)) fun y9 =>
 Option.bind (F27 FUEL y9.q0 y9.q1 y9.q2 y9.q3 y9.q4 y9.q5 y9.q6 y9.q7 y9.q8 [] y9.q9 y9.q10 y9.q11 y9.q12 y9.q13) fun y10 =>
 Option.bind (F15 FUEL y6.q0 y6.q1 y6.q2 y6.q3 y6.q4 y6.q5 y6.q6 y6.q7 y6.q8 y6.q15 y6.q9 y6.q10 y6.q11 y6.q12 y6.q13 y10.q0 y10.q1 y10.q2 y10.q3 y10.q4 y10.q5 y10.q6 y10.q7 y10.q8 [] y10.q9 y10.q10 y10.q11 y10.q12 y10.q13) fun y11 =>
 bif y11 then
 (bif (ieq y8.q17 (2)) then
 (Option.bind (F29 FUEL (1)) fun y12 =>
 Option.bind (F21 FUEL x1 y12.q0 y12.q1 y12.q2 y12.q3 y12.q4 y12.q5 y12.q6 y12.q7 y12.q8 [] y12.q9 y12.q10 y12.q11 y12.q12 y12.q13) fun y13 =>
 bif y13 then
 (Option.bind (F29 FUEL (5)) fun y14 =>
 Option.bind (F21 FUEL x1 y14.q0 y14.q1 y14.q2 y14.q3 y14.q4 y14.q5 y14.q6 y14.q7 y14.q8 [] y14.q9 y14.q10 y14.q11 y14.q12 y14.q13) fun y15 =>
 bif (!y15) then
 (Option.bind (F16 FUEL x1) fun y16 =>
 bif y16 then
 (Option.bind (F24 FUEL x1) fun y17 =>
 Option.bind (F23 FUEL x1 y17) fun y18 =>
 bif y18 then
 (Option.bind (F29 FUEL (9)) fun y19 =>
 Option.bind (F29 FUEL (9)) fun y20 =>
 Option.bind (F27 FUEL y20.q0 y20.q1 y20.q2 y20.q3 y20.q4 y20.q5 y20.q6 y20.q7 y20.q8 [] y20.q9 y20.q10 y20.q11 y20.q12 y20.q13) fun y21 =>
 Option.bind (F19 FUEL x1 ([(y19.q0, y19.q1, y19.q2, y19.q3, y19.q4, y19.q5, y19.q6, y19.q7, y19.q8, [], y19.q9, y19.q10, y19.q11, y19.q12, y19.q13), (y21.q0, y21.q1, y21.q2, y21.q3, y21.q4, y21.q5, y21.q6, y21.q7, y21.q8, [], y21.q9, y21.q10, y21.q11, y21.q12, y21.q13)] : List (Int × Int × Int × Int × Int × Bool × Bool × Int × Int × (List (Int)) × ByteArray × Int × Int × Bool × Int))) fun y22 =>
 some (ieq (ofN (List.length y22)) (40)))
 else (some false))
 else (some false))
 else (some false))
 else (some false))
 else (some false))
 else (some false))
 else (some false))
 else (some false))
 else (some false))
 else (some false))
def F10 (n : Nat) : Option (Bool) :=
  Option.bind (F13 FUEL [] (1) (2)) fun y1 =>
 F10_c0 n y1.q14 [] (1)
def F33 (_n : Nat) (a0 a1 a2 a3 a4 : Int) (a5 a6 : Bool) (a7 a8 : Int) (a9 : List (Int)) (a10 : ByteArray) (a11 a12 : Int) (a13 : Bool) (a14 : Int) : Option (Si5b2i2si2bil) :=
  bif (room (0 + List.length a9) 8) then
 (some ⟨a0, a1, a2, a3, a4, a5, a6, a7, a8, a10, a11, a12, a13, a14, ([] ++ a9)⟩)
 else (none)
def F28_c0 : Nat → List (Int × Int × Int × Int × Int × Int × Int × Bool × Bool × Int × Int × (List (Int)) × ByteArray × Int × Int × Bool × Int) → Int → List (Int × Int × Int × Int × Int × Int × Int × Bool × Bool × Int × Int × (List (Int)) × ByteArray × Int × Int × Bool × Int) → Option ((List (Int × Int × Int × Int × Int × Int × Int × Bool × Bool × Int × Int × (List (Int)) × ByteArray × Int × Int × Bool × Int)))
  | 0, _, _, _ => none
  | n + 1, x0, x1, x2 => bif (ilt x1 (ofN (List.length x0))) then
 (bif (inb x1 (List.length x0)) then
 (Option.bind (F33 FUEL (List.getD x0 (Int.toNat x1) (0, 0, 0, 0, 0, 0, 0, false, false, 0, 0, [], ByteArray.empty, 0, 0, false, 0)).2.2.1 (List.getD x0 (Int.toNat x1) (0, 0, 0, 0, 0, 0, 0, false, false, 0, 0, [], ByteArray.empty, 0, 0, false, 0)).2.2.2.1 (List.getD x0 (Int.toNat x1) (0, 0, 0, 0, 0, 0, 0, false, false, 0, 0, [], ByteArray.empty, 0, 0, false, 0)).2.2.2.2.1 (List.getD x0 (Int.toNat x1) (0, 0, 0, 0, 0, 0, 0, false, false, 0, 0, [], ByteArray.empty, 0, 0, false, 0)).2.2.2.2.2.1 (List.getD x0 (Int.toNat x1) (0, 0, 0, 0, 0, 0, 0, false, false, 0, 0, [], ByteArray.empty, 0, 0, false, 0)).2.2.2.2.2.2.1 (List.getD x0 (Int.toNat x1) (0, 0, 0, 0, 0, 0, 0, false, false, 0, 0, [], ByteArray.empty, 0, 0, false, 0)).2.2.2.2.2.2.2.1 (List.getD x0 (Int.toNat x1) (0, 0, 0, 0, 0, 0, 0, false, false, 0, 0, [], ByteArray.empty, 0, 0, false, 0)).2.2.2.2.2.2.2.2.1 (List.getD x0 (Int.toNat x1) (0, 0, 0, 0, 0, 0, 0, false, false, 0, 0, [], ByteArray.empty, 0, 0, false, 0)).2.2.2.2.2.2.2.2.2.1 (List.getD x0 (Int.toNat x1) (0, 0, 0, 0, 0, 0, 0, false, false, 0, 0, [], ByteArray.empty, 0, 0, false, 0)).2.2.2.2.2.2.2.2.2.2.1 (List.getD x0 (Int.toNat x1) (0, 0, 0, 0, 0, 0, 0, false, false, 0, 0, [], ByteArray.empty, 0, 0, false, 0)).2.2.2.2.2.2.2.2.2.2.2.1 (List.getD x0 (Int.toNat x1) (0, 0, 0, 0, 0, 0, 0, false, false, 0, 0, [], ByteArray.empty, 0, 0, false, 0)).2.2.2.2.2.2.2.2.2.2.2.2.1 (List.getD x0 (Int.toNat x1) (0, 0, 0, 0, 0, 0, 0, false, false, 0, 0, [], ByteArray.empty, 0, 0, false, 0)).2.2.2.2.2.2.2.2.2.2.2.2.2.1 (List.getD x0 (Int.toNat x1) (0, 0, 0, 0, 0, 0, 0, false, false, 0, 0, [], ByteArray.empty, 0, 0, false, 0)).2.2.2.2.2.2.2.2.2.2.2.2.2.2.1 (List.getD x0 (Int.toNat x1) (0, 0, 0, 0, 0, 0, 0, false, false, 0, 0, [], ByteArray.empty, 0, 0, false, 0)).2.2.2.2.2.2.2.2.2.2.2.2.2.2.2.1 (List.getD x0 (Int.toNat x1) (0, 0, 0, 0, 0, 0, 0, false, false, 0, 0, [], ByteArray.empty, 0, 0, false, 0)).2.2.2.2.2.2.2.2.2.2.2.2.2.2.2.2) fun y1 =>
 bif (room (List.length x2 + List.length ([((List.getD x0 (Int.toNat x1) (0, 0, 0, 0, 0, 0, 0, false, false, 0, 0, [], ByteArray.empty, 0, 0, false, 0)).1, (List.getD x0 (Int.toNat x1) (0, 0, 0, 0, 0, 0, 0, false, false, 0, 0, [], ByteArray.empty, 0, 0, false, 0)).2.1, y1.q0, y1.q1, y1.q2, y1.q3, y1.q4, y1.q5, y1.q6, y1.q7, y1.q8, y1.q14, y1.q9, y1.q10, y1.q11, y1.q12, y1.q13)] : List (Int × Int × Int × Int × Int × Int × Int × Bool × Bool × Int × Int × (List (Int)) × ByteArray × Int × Int × Bool × Int))) 152) then
 (F28_c0 n x0 (iadd .i64 x1 (1)) (x2 ++ ([((List.getD x0 (Int.toNat x1) (0, 0, 0, 0, 0, 0, 0, false, false, 0, 0, [], ByteArray.empty, 0, 0, false, 0)).1, (List.getD x0 (Int.toNat x1) (0, 0, 0, 0, 0, 0, 0, false, false, 0, 0, [], ByteArray.empty, 0, 0, false, 0)).2.1, y1.q0, y1.q1, y1.q2, y1.q3, y1.q4, y1.q5, y1.q6, y1.q7, y1.q8, y1.q14, y1.q9, y1.q10, y1.q11, y1.q12, y1.q13)] : List (Int × Int × Int × Int × Int × Int × Int × Bool × Bool × Int × Int × (List (Int)) × ByteArray × Int × Int × Bool × Int))))
 else (none))
 else (none))
 else (some x2)
def F28 (n : Nat) (a0 : List (Int × Int × Int × Int × Int × Int × Int × Bool × Bool × Int × Int × (List (Int)) × ByteArray × Int × Int × Bool × Int)) : Option ((List (Int × Int × Int × Int × Int × Int × Int × Bool × Bool × Int × Int × (List (Int)) × ByteArray × Int × Int × Bool × Int))) :=
  F28_c0 n a0 (0) []
def F18_c0 : Nat → List (Int × Int × Int × Int × Int × Int × Int × Bool × Bool × Int × Int × (List (Int)) × ByteArray × Int × Int × Bool × Int) → List (Int × Int × Int × Int × Int × Int × Int × Bool × Bool × Int × Int × (List (Int)) × ByteArray × Int × Int × Bool × Int) → Int → Option (Bool)
  | 0, _, _, _ => none
  | n + 1, x0, x1, x2 => bif (ilt x2 (ofN (List.length x0))) then
 (bif (inb x2 (List.length x0)) then
 (bif (inb x2 (List.length x1)) then
 (bif (ine (List.getD x0 (Int.toNat x2) (0, 0, 0, 0, 0, 0, 0, false, false, 0, 0, [], ByteArray.empty, 0, 0, false, 0)).1 (List.getD x1 (Int.toNat x2) (0, 0, 0, 0, 0, 0, 0, false, false, 0, 0, [], ByteArray.empty, 0, 0, false, 0)).1) then
 (some false)
 else (bif (inb x2 (List.length x0)) then
 (bif (inb x2 (List.length x1)) then
 (bif (ine (List.getD x0 (Int.toNat x2) (0, 0, 0, 0, 0, 0, 0, false, false, 0, 0, [], ByteArray.empty, 0, 0, false, 0)).2.1 (List.getD x1 (Int.toNat x2) (0, 0, 0, 0, 0, 0, 0, false, false, 0, 0, [], ByteArray.empty, 0, 0, false, 0)).2.1) then
 (some false)
 else (bif (inb x2 (List.length x0)) then
 (bif (inb x2 (List.length x1)) then
 (Option.bind (F15 FUEL (List.getD x0 (Int.toNat x2) (0, 0, 0, 0, 0, 0, 0, false, false, 0, 0, [], ByteArray.empty, 0, 0, false, 0)).2.2.1 (List.getD x0 (Int.toNat x2) (0, 0, 0, 0, 0, 0, 0, false, false, 0, 0, [], ByteArray.empty, 0, 0, false, 0)).2.2.2.1 (List.getD x0 (Int.toNat x2) (0, 0, 0, 0, 0, 0, 0, false, false, 0, 0, [], ByteArray.empty, 0, 0, false, 0)).2.2.2.2.1 (List.getD x0 (Int.toNat x2) (0, 0, 0, 0, 0, 0, 0, false, false, 0, 0, [], ByteArray.empty, 0, 0, false, 0)).2.2.2.2.2.1 (List.getD x0 (Int.toNat x2) (0, 0, 0, 0, 0, 0, 0, false, false, 0, 0, [], ByteArray.empty, 0, 0, false, 0)).2.2.2.2.2.2.1 (List.getD x0 (Int.toNat x2) (0, 0, 0, 0, 0, 0, 0, false, false, 0, 0, [], ByteArray.empty, 0, 0, false, 0)).2.2.2.2.2.2.2.1 (List.getD x0 (Int.toNat x2) (0, 0, 0, 0, 0, 0, 0, false, false, 0, 0, [], ByteArray.empty, 0, 0, false, 0)).2.2.2.2.2.2.2.2.1 (List.getD x0 (Int.toNat x2) (0, 0, 0, 0, 0, 0, 0, false, false, 0, 0, [], ByteArray.empty, 0, 0, false, 0)).2.2.2.2.2.2.2.2.2.1 (List.getD x0 (Int.toNat x2) (0, 0, 0, 0, 0, 0, 0, false, false, 0, 0, [], ByteArray.empty, 0, 0, false, 0)).2.2.2.2.2.2.2.2.2.2.1 (List.getD x0 (Int.toNat x2) (0, 0, 0, 0, 0, 0, 0, false, false, 0, 0, [], ByteArray.empty, 0, 0, false, 0)).2.2.2.2.2.2.2.2.2.2.2.1 (List.getD x0 (Int.toNat x2) (0, 0, 0, 0, 0, 0, 0, false, false, 0, 0, [], ByteArray.empty, 0, 0, false, 0)).2.2.2.2.2.2.2.2.2.2.2.2.1 (List.getD x0 (Int.toNat x2) (0, 0, 0, 0, 0, 0, 0, false, false, 0, 0, [], ByteArray.empty, 0, 0, false, 0)).2.2.2.2.2.2.2.2.2.2.2.2.2.1 (List.getD x0 (Int.toNat x2) (0, 0, 0, 0, 0, 0, 0, false, false, 0, 0, [], ByteArray.empty, 0, 0, false, 0)).2.2.2.2.2.2.2.2.2.2.2.2.2.2.1 (List.getD x0 (Int.toNat x2) (0, 0, 0, 0, 0, 0, 0, false, false, 0, 0, [], ByteArray.empty, 0, 0, false, 0)).2.2.2.2.2.2.2.2.2.2.2.2.2.2.2.1 (List.getD x0 (Int.toNat x2) (0, 0, 0, 0, 0, 0, 0, false, false, 0, 0, [], ByteArray.empty, 0, 0, false, 0)).2.2.2.2.2.2.2.2.2.2.2.2.2.2.2.2 (List.getD x1 (Int.toNat x2) (0, 0, 0, 0, 0, 0, 0, false, false, 0, 0, [], ByteArray.empty, 0, 0, false, 0)).2.2.1 (List.getD x1 (Int.toNat x2) (0, 0, 0, 0, 0, 0, 0, false, false, 0, 0, [], ByteArray.empty, 0, 0, false, 0)).2.2.2.1 (List.getD x1 (Int.toNat x2) (0, 0, 0, 0, 0, 0, 0, false, false, 0, 0, [], ByteArray.empty, 0, 0, false, 0)).2.2.2.2.1 (List.getD x1 (Int.toNat x2) (0, 0, 0, 0, 0, 0, 0, false, false, 0, 0, [], ByteArray.empty, 0, 0, false, 0)).2.2.2.2.2.1 (List.getD x1 (Int.toNat x2) (0, 0, 0, 0, 0, 0, 0, false, false, 0, 0, [], ByteArray.empty, 0, 0, false, 0)).2.2.2.2.2.2.1 (List.getD x1 (Int.toNat x2) (0, 0, 0, 0, 0, 0, 0, false, false, 0, 0, [], ByteArray.empty, 0, 0, false, 0)).2.2.2.2.2.2.2.1 (List.getD x1 (Int.toNat x2) (0, 0, 0, 0, 0, 0, 0, false, false, 0, 0, [], ByteArray.empty, 0, 0, false, 0)).2.2.2.2.2.2.2.2.1 (List.getD x1 (Int.toNat x2) (0, 0, 0, 0, 0, 0, 0, false, false, 0, 0, [], ByteArray.empty, 0, 0, false, 0)).2.2.2.2.2.2.2.2.2.1 (List.getD x1 (Int.toNat x2) (0, 0, 0, 0, 0, 0, 0, false, false, 0, 0, [], ByteArray.empty, 0, 0, false, 0)).2.2.2.2.2.2.2.2.2.2.1 (List.getD x1 (Int.toNat x2) (0, 0, 0, 0, 0, 0, 0, false, false, 0, 0, [], ByteArray.empty, 0, 0, false, 0)).2.2.2.2.2.2.2.2.2.2.2.1 (List.getD x1 (Int.toNat x2) (0, 0, 0, 0, 0, 0, 0, false, false, 0, 0, [], ByteArray.empty, 0, 0, false, 0)).2.2.2.2.2.2.2.2.2.2.2.2.1 (List.getD x1 (Int.toNat x2) (0, 0, 0, 0, 0, 0, 0, false, false, 0, 0, [], ByteArray.empty, 0, 0, false, 0)).2.2.2.2.2.2.2.2.2.2.2.2.2.1 (List.getD x1 (Int.toNat x2) (0, 0, 0, 0, 0, 0, 0, false, false, 0, 0, [], ByteArray.empty, 0, 0, false, 0)).2.2.2.2.2.2.2.2.2.2.2.2.2.2.1 (List.getD x1 (Int.toNat x2) (0, 0, 0, 0, 0, 0, 0, false, false, 0, 0, [], ByteArray.empty, 0, 0, false, 0)).2.2.2.2.2.2.2.2.2.2.2.2.2.2.2.1 (List.getD x1 (Int.toNat x2) (0, 0, 0, 0, 0, 0, 0, false, false, 0, 0, [], ByteArray.empty, 0, 0, false, 0)).2.2.2.2.2.2.2.2.2.2.2.2.2.2.2.2) fun y1 =>
 bif (!y1) then
 (some false)
 else (F18_c0 n x0 x1 (iadd .i64 x2 (1))))
 else (none))
 else (none)))
 else (none))
 else (none)))
 else (none))
 else (none))
 else (some true)
def F18 (n : Nat) (a0 a1 : List (Int × Int × Int × Int × Int × Int × Int × Bool × Bool × Int × Int × (List (Int)) × ByteArray × Int × Int × Bool × Int)) : Option (Bool) :=
  bif (ine (ofN (List.length a0)) (ofN (List.length a1))) then
 (some false)
 else (F18_c0 n a0 a1 (0))
mutual
def F7_c0 : Nat → List (Int × Int × Int × Int × Int × Int × Int × Bool × Bool × Int × Int × (List (Int)) × ByteArray × Int × Int × Bool × Int) → Int → Int → List (Int × Int × Int × Int × Int × Int × Int × Bool × Bool × Int × Int × (List (Int)) × ByteArray × Int × Int × Bool × Int) → List (Int × Int × Int × Int × Int × Int × Int × Bool × Bool × Int × Int × (List (Int)) × ByteArray × Int × Int × Bool × Int) → List (Int × Int × Int × Int × Int × Int × Int × Bool × Bool × Int × Int × (List (Int)) × ByteArray × Int × Int × Bool × Int) → List (Int) → Option (Bool)
  | 0, _, _, _, _, _, _, _ => none
  | n + 1, x0, x1, x2, x3, x4, x5, x6 => bif (ilt x2 x1) then
 (bif (inb x2 (List.length x0)) then
 (Option.bind (F32 FUEL (List.getD x0 (Int.toNat x2) (0, 0, 0, 0, 0, 0, 0, false, false, 0, 0, [], ByteArray.empty, 0, 0, false, 0)).2.2.1 (List.getD x0 (Int.toNat x2) (0, 0, 0, 0, 0, 0, 0, false, false, 0, 0, [], ByteArray.empty, 0, 0, false, 0)).2.2.2.1 (List.getD x0 (Int.toNat x2) (0, 0, 0, 0, 0, 0, 0, false, false, 0, 0, [], ByteArray.empty, 0, 0, false, 0)).2.2.2.2.1 (List.getD x0 (Int.toNat x2) (0, 0, 0, 0, 0, 0, 0, false, false, 0, 0, [], ByteArray.empty, 0, 0, false, 0)).2.2.2.2.2.1 (List.getD x0 (Int.toNat x2) (0, 0, 0, 0, 0, 0, 0, false, false, 0, 0, [], ByteArray.empty, 0, 0, false, 0)).2.2.2.2.2.2.1 (List.getD x0 (Int.toNat x2) (0, 0, 0, 0, 0, 0, 0, false, false, 0, 0, [], ByteArray.empty, 0, 0, false, 0)).2.2.2.2.2.2.2.1 (List.getD x0 (Int.toNat x2) (0, 0, 0, 0, 0, 0, 0, false, false, 0, 0, [], ByteArray.empty, 0, 0, false, 0)).2.2.2.2.2.2.2.2.1 (List.getD x0 (Int.toNat x2) (0, 0, 0, 0, 0, 0, 0, false, false, 0, 0, [], ByteArray.empty, 0, 0, false, 0)).2.2.2.2.2.2.2.2.2.1 (List.getD x0 (Int.toNat x2) (0, 0, 0, 0, 0, 0, 0, false, false, 0, 0, [], ByteArray.empty, 0, 0, false, 0)).2.2.2.2.2.2.2.2.2.2.1 (List.getD x0 (Int.toNat x2) (0, 0, 0, 0, 0, 0, 0, false, false, 0, 0, [], ByteArray.empty, 0, 0, false, 0)).2.2.2.2.2.2.2.2.2.2.2.1 (List.getD x0 (Int.toNat x2) (0, 0, 0, 0, 0, 0, 0, false, false, 0, 0, [], ByteArray.empty, 0, 0, false, 0)).2.2.2.2.2.2.2.2.2.2.2.2.1 (List.getD x0 (Int.toNat x2) (0, 0, 0, 0, 0, 0, 0, false, false, 0, 0, [], ByteArray.empty, 0, 0, false, 0)).2.2.2.2.2.2.2.2.2.2.2.2.2.1 (List.getD x0 (Int.toNat x2) (0, 0, 0, 0, 0, 0, 0, false, false, 0, 0, [], ByteArray.empty, 0, 0, false, 0)).2.2.2.2.2.2.2.2.2.2.2.2.2.2.1 (List.getD x0 (Int.toNat x2) (0, 0, 0, 0, 0, 0, 0, false, false, 0, 0, [], ByteArray.empty, 0, 0, false, 0)).2.2.2.2.2.2.2.2.2.2.2.2.2.2.2.1 (List.getD x0 (Int.toNat x2) (0, 0, 0, 0, 0, 0, 0, false, false, 0, 0, [], ByteArray.empty, 0, 0, false, 0)).2.2.2.2.2.2.2.2.2.2.2.2.2.2.2.2) fun y6 =>
 bif (room (List.length x6 + List.length [(ofN (List.length y6.q14))]) 152) then
 (F7_c0 n x0 x1 (iadd .i64 x2 (1)) x3 x4 x5 (x6 ++ [(ofN (List.length y6.q14))]))
 else (none))
 else (none))
 else (F7_c1 n x3 x4 (0) x5 x6)
def F7_c1 : Nat → List (Int × Int × Int × Int × Int × Int × Int × Bool × Bool × Int × Int × (List (Int)) × ByteArray × Int × Int × Bool × Int) → List (Int × Int × Int × Int × Int × Int × Int × Bool × Bool × Int × Int × (List (Int)) × ByteArray × Int × Int × Bool × Int) → Int → List (Int × Int × Int × Int × Int × Int × Int × Bool × Bool × Int × Int × (List (Int)) × ByteArray × Int × Int × Bool × Int) → List (Int) → Option (Bool)
  | 0, _, _, _, _, _ => none
  | n + 1, x0, x1, x2, x3, x4 => bif (ilt x2 (ofN (List.length x4))) then
 (F7_c2 n x0 x1 x2 (0) x3 x4)
 else (F7_c3 n x0 x1 (0) x3)
def F7_c2 : Nat → List (Int × Int × Int × Int × Int × Int × Int × Bool × Bool × Int × Int × (List (Int)) × ByteArray × Int × Int × Bool × Int) → List (Int × Int × Int × Int × Int × Int × Int × Bool × Bool × Int × Int × (List (Int)) × ByteArray × Int × Int × Bool × Int) → Int → Int → List (Int × Int × Int × Int × Int × Int × Int × Bool × Bool × Int × Int × (List (Int)) × ByteArray × Int × Int × Bool × Int) → List (Int) → Option (Bool)
  | 0, _, _, _, _, _, _ => none
  | n + 1, x0, x1, x2, x3, x4, x5 => bif (inb x2 (List.length x5)) then
 (bif (nlt (Int.toNat x2) (List.length x5)) then
 (bif (ilt x3 (List.getD x5 (Int.toNat x2) 0)) then
 (bif (inb x2 (List.length x5)) then
 (bif (nlt (Int.toNat x2) (List.length x5)) then
 (bif (inb x2 (List.length x5)) then
 (bif (nlt (Int.toNat x2) (List.length x5)) then
 (bif (inb x3 (Int.toNat (List.getD x5 (Int.toNat x2) 0))) then
 (bif (inb x3 (Int.toNat (List.getD x5 (Int.toNat x2) 0))) then
 (F7_c2 n x0 x1 x2 (iadd .i64 x3 (1)) x4 x5)
 else (none))
 else (none))
 else (none))
 else (none))
 else (none))
 else (none))
 else (bif (inb x2 (List.length x5)) then
 (bif (nlt (Int.toNat x2) (List.length x5)) then
 (bif (inb x2 (List.length x5)) then
 (bif (nlt (Int.toNat x2) (List.length x5)) then
 (F7_c1 n x0 x1 (iadd .i64 x2 (1)) x4 x5)
 else (none))
 else (none))
 else (none))
 else (none)))
 else (none))
 else (none)
def F7_c3 : Nat → List (Int × Int × Int × Int × Int × Int × Int × Bool × Bool × Int × Int × (List (Int)) × ByteArray × Int × Int × Bool × Int) → List (Int × Int × Int × Int × Int × Int × Int × Bool × Bool × Int × Int × (List (Int)) × ByteArray × Int × Int × Bool × Int) → Int → List (Int × Int × Int × Int × Int × Int × Int × Bool × Bool × Int × Int × (List (Int)) × ByteArray × Int × Int × Bool × Int) → Option (Bool)
  | 0, _, _, _, _ => none
  | n + 1, x0, x1, x2, x3 => bif (ilt x2 (ofN (List.length x0))) then
 (bif (inb x2 (List.length x0)) then
 (bif (inb x2 (List.length x0)) then
 (Option.bind (F13 FUEL x0 (List.getD x0 (Int.toNat x2) (0, 0, 0, 0, 0, 0, 0, false, false, 0, 0, [], ByteArray.empty, 0, 0, false, 0)).1 (List.getD x0 (Int.toNat x2) (0, 0, 0, 0, 0, 0, 0, false, false, 0, 0, [], ByteArray.empty, 0, 0, false, 0)).2.1) fun y7 =>
 bif (!y7.q14) then
 (some false)
 else (F7_c4 n x0 x1 x2 (0) x3 y7.q0 y7.q1 y7.q2 y7.q3 y7.q4 y7.q5 y7.q6 y7.q7 y7.q8 y7.q9 y7.q10 y7.q11 y7.q12 y7.q13 y7.q15))
 else (none))
 else (none))
 else (Option.bind (F18 FUEL x0 x3) fun y8 =>
 bif y8 then
 (Option.bind (F23 FUEL x0 x1) fun y9 =>
 Option.bind (F23 FUEL x1 x0) fun y10 =>
 bif (beqb y9 y10) then
 (Option.bind (F23 FUEL x0 x0) fun y11 =>
 bif y11 then
 (Option.bind (F10 FUEL) fun y12 =>
 some y12)
 else (some false))
 else (some false))
 else (some false))
def F7_c4 : Nat → List (Int × Int × Int × Int × Int × Int × Int × Bool × Bool × Int × Int × (List (Int)) × ByteArray × Int × Int × Bool × Int) → List (Int × Int × Int × Int × Int × Int × Int × Bool × Bool × Int × Int × (List (Int)) × ByteArray × Int × Int × Bool × Int) → Int → Int → List (Int × Int × Int × Int × Int × Int × Int × Bool × Bool × Int × Int × (List (Int)) × ByteArray × Int × Int × Bool × Int) → Int → Int → Int → Int → Int → Bool → Bool → Int → Int → ByteArray → Int → Int → Bool → Int → List (Int) → Option (Bool)
  | 0, _, _, _, _, _, _, _, _, _, _, _, _, _, _, _, _, _, _, _, _ => none
  | n + 1, x0, x1, x2, x3, x4, x5, x6, x7, x8, x9, x10, x11, x12, x13, x14, x15, x16, x17, x18, x19 => bif (ilt x3 (ofN (List.length x19))) then
 (bif (inb x3 (List.length x19)) then
 (bif (nlt (Int.toNat x3) (List.length x19)) then
 (F7_c4 n x0 x1 x2 (iadd .i64 x3 (1)) x4 x5 x6 x7 x8 x9 x10 x11 x12 x13 x14 x15 x16 x17 x18 (List.set x19 (Int.toNat x3) (-7)))
 else (none))
 else (none))
 else (F7_c3 n x0 x1 (iadd .i64 x2 (1)) x4)
end
def F7 (n : Nat) (a0 a1 : List (Int × Int × Int × Int × Int × Int × Int × Bool × Bool × Int × Int × (List (Int)) × ByteArray × Int × Int × Bool × Int)) : Option (Bool) :=
  Option.bind (F8 FUEL a0) fun y1 =>
 bif y1 then
 (Option.bind (F10 FUEL) fun y2 =>
 some y2)
 else (Option.bind (F8 FUEL a1) fun y3 =>
 bif y3 then
 (Option.bind (F10 FUEL) fun y4 =>
 some y4)
 else (Option.bind (F28 FUEL a0) fun y5 =>
 F7_c0 n a0 (ofN (List.length a0)) (0) a0 a1 y5 []))
end Go.Proofs.Ytcbhmedknbiffaa
