/-
  What the functions of this program compute, in plain words.
-/
import Derived.Test.YthaomidjgadieaaEvR
namespace Go.Proofs.Ythaomidjgadieaa
open Go Go.RowKit
set_option maxRecDepth 100000


/-! ### garland/garlandlaw06.great -/
def F13 (_n : Nat) (_a0 _a1 _a2 _a3 _a4 : Int) (_a5 _a6 : Bool) (_a7 _a8 : Int) (a9 : List (Int)) (a10 : ByteArray) (_a11 _a12 : Int) (_a13 : Bool) (_a14 : Int) : Option (Bool) :=
  bif (igt (ofN (List.length a9)) (30)) then
 (some true)
 else (some (igt (stlen a10) (100)))

/-! ### garland/msg.isPlace -/
def F49 (_n : Nat) (a0 : Int) : Option (Bool) :=
  bif (ige a0 (0)) then
 (some (ilt a0 (65536)))
 else (some false)

/-! ### garland/msg.Call -/
def F15_c0 : Nat → Option (Int × Int)
  | 0 => none
  | _ + 1 => some ((0), (2))
def F15 (n : Nat) (a0 a1 : Int) : Option (Int × Int) :=
  Option.bind (F49 FUEL a0) fun y1 =>
 bif (!y1) then
 (F15_c0 n )
 else (bif (ilt a1 (1)) then
 (F15_c0 n )
 else (bif (igt a1 (1048576)) then
 (F15_c0 n )
 else (some ((iadd .i64 (imul .i64 a0 (1048576)) a1), (0)))))

/-! ### garland/msg.Asks -/
def F21 (_n : Nat) (a0 _a1 _a2 _a3 _a4 : Int) (_a5 _a6 : Bool) (_a7 _a8 : Int) (_a9 : List (Int)) (_a10 : ByteArray) (_a11 _a12 : Int) (_a13 : Bool) (_a14 : Int) : Option (Bool) :=
  bif (ige a0 (1)) then
 (some (ile a0 (6)))
 else (some false)

/-! ### garland/msg.Tell -/
structure Si5b2i2si2bi where
  q0 : Int
  q1 : Int
  q2 : Int
  q3 : Int
  q4 : Int
  q5 : Bool
  q6 : Bool
  q7 : Int
  q8 : Int
  q9 : ByteArray
  q10 : Int
  q11 : Int
  q12 : Bool
  q13 : Int
def F26 (_n : Nat) (a0 a1 a2 a3 a4 : Int) (a5 a6 : Bool) (a7 a8 : Int) (a9 : List (Int)) (a10 : ByteArray) (a11 a12 : Int) (a13 : Bool) (a14 : Int) : Option (Si5b2i2si2bi) :=
  Option.bind (F21 FUEL a0 a1 a2 a3 a4 a5 a6 a7 a8 a9 a10 a11 a12 a13 a14) fun y1 =>
 bif (!y1) then
 (some ⟨(0), (0), (0), (0), (0), false, false, (0), (0), ByteArray.empty, (0), (0), false, (0)⟩)
 else (some ⟨(iadd .u8 a0 (6)), a1, a3, a2, (0), false, false, (0), (0), ByteArray.empty, (0), (0), false, (0)⟩)

/-! ### garland/msg.isKey -/
def F51 (_n : Nat) (a0 : ByteArray) : Option (Bool) :=
  bif (ige (stlen a0) (1)) then
 (some (ile (stlen a0) (20)))
 else (some false)

/-! ### garland/msg.isValue -/
def F52 (_n : Nat) (a0 : Int) : Option (Bool) :=
  bif (ige a0 (0)) then
 (some (ile a0 (1048576)))
 else (some false)

/-! ### garland/msg.Pair -/
def F17 (_n : Nat) (a0 : ByteArray) (a1 a2 : Int) (_a3 : Bool) : Option (Bool) :=
  Option.bind (F51 FUEL a0) fun y1 =>
 bif y1 then
 (Option.bind (F52 FUEL a1) fun y2 =>
 bif y2 then
 (Option.bind (F52 FUEL a2) fun y3 =>
 some y3)
 else (some false))
 else (some false)

/-! ### slices.Index[[]int,int] -/
def F77_c0 : Nat → List (Int) → Int → Int → Int → Option (Int)
  | 0, _, _, _, _ => none
  | n + 1, x0, x1, x2, x3 => bif (ilt x3 x2) then
 (bif (inb x3 (List.length x0)) then
 (bif (ieq x1 (List.getD x0 (Int.toNat x3) 0)) then
 (some x3)
 else (F77_c0 n x0 x1 x2 (iadd .i64 x3 (1))))
 else (none))
 else (some (-1))
def F77 (n : Nat) (a0 : List (Int)) (a1 : Int) : Option (Int) :=
  F77_c0 n a0 a1 (ofN (List.length a0)) (0)

/-! ### slices.Contains[[]int,int] -/
def F72 (_n : Nat) (a0 : List (Int)) (a1 : Int) : Option (Bool) :=
  Option.bind (F77 FUEL a0 a1) fun y1 =>
 some (ige y1 (0))

/-! ### garland/msg.apart -/
def F65_c0 : Nat → Int → List (Int) → List (Int) → Int → Int → Option (Bool)
  | 0, _, _, _, _, _ => none
  | n + 1, x0, x1, x2, x3, x4 => bif (ilt x4 x3) then
 (bif (inb x4 (List.length x2)) then
 (bif (ieq (List.getD x2 (Int.toNat x4) 0) x0) then
 (some false)
 else (bif ((inn x4) && (inbs 0 (Int.toNat x4) (List.length x1))) then
 (Option.bind (F72 FUEL (List.drop 0 (List.take (Int.toNat x4) x1)) (List.getD x2 (Int.toNat x4) 0)) fun y1 =>
 bif y1 then
 (some false)
 else (F65_c0 n x0 x1 x2 x3 (iadd .i64 x4 (1))))
 else (none)))
 else (none))
 else (some true)
def F65 (n : Nat) (a0 : Int) (a1 : List (Int)) : Option (Bool) :=
  F65_c0 n a0 a1 a1 (ofN (List.length a1)) (0)

/-! ### garland/msg.holds -/
def F53 (_n : Nat) (a0 _a1 a2 _a3 _a4 : Int) (_a5 _a6 : Bool) (_a7 _a8 : Int) (a9 : List (Int)) (a10 : ByteArray) (a11 a12 : Int) (a13 : Bool) (a14 : Int) : Option (Bool) :=
  bif (ieq a0 (5)) then
 (Option.bind (F17 FUEL a10 a11 a12 a13) fun y1 =>
 some y1)
 else (bif (ieq a0 (6)) then
 (Option.bind (F51 FUEL a10) fun y2 =>
 some y2)
 else (bif (ieq a0 (7)) then
 (bif (ile (ofN (List.length a9)) (3)) then
 (Option.bind (F65 FUEL a2 a9) fun y3 =>
 some y3)
 else (some false))
 else (bif (ieq a0 (11)) then
 (bif (ieq a14 (0)) then
 (some true)
 else (some (ieq a14 (200))))
 else (bif (ieq a0 (12)) then
 (bif (ieq a14 (0)) then
 (Option.bind (F17 FUEL a10 a11 a12 a13) fun y4 =>
 bif y4 then
 (some true)
 else (bif (ieq a14 (201)) then
 (some ((steq a10 ByteArray.empty) && ((ieq a11 (0)) && ((ieq a12 (0)) && ((beqb a13 false) && true)))))
 else (some false)))
 else (bif (ieq a14 (201)) then
 (some ((steq a10 ByteArray.empty) && ((ieq a11 (0)) && ((ieq a12 (0)) && ((beqb a13 false) && true)))))
 else (some false)))
 else (some true)))))

/-! ### garland/msg.Asker -/
def F23 (_n : Nat) (a0 a1 a2 a3 a4 : Int) (a5 a6 : Bool) (a7 a8 : Int) (a9 : List (Int)) (a10 : ByteArray) (a11 a12 : Int) (a13 : Bool) (a14 : Int) : Option (Int) :=
  Option.bind (F21 FUEL a0 a1 a2 a3 a4 a5 a6 a7 a8 a9 a10 a11 a12 a13 a14) fun y1 =>
 bif y1 then
 (some a2)
 else (some a3)

/-! ### garland/msg.isCall -/
def F55 (_n : Nat) (a0 a1 : Int) : Option (Bool) :=
  bif (igt a1 (imul .i64 a0 (1048576))) then
 (some (ile a1 (imul .i64 (iadd .i64 a0 (1)) (1048576))))
 else (some false)

/-! ### garland/msg.beside -/
structure Sbi5b2i2si2bi where
  q0 : Bool
  q1 : Int
  q2 : Int
  q3 : Int
  q4 : Int
  q5 : Int
  q6 : Bool
  q7 : Bool
  q8 : Int
  q9 : Int
  q10 : ByteArray
  q11 : Int
  q12 : Int
  q13 : Bool
  q14 : Int
def F56 (_n : Nat) (a0 _a1 _a2 _a3 a4 : Int) (a5 a6 : Bool) (a7 a8 : Int) (a9 : ByteArray) (a10 a11 : Int) (a12 : Bool) (a13 : Int) : Option (Sbi5b2i2si2bi) :=
  bif (ieq a0 (4)) then
 (some ⟨true, (0), (0), (0), (0), (0), false, a6, a7, a8, a9, a10, a11, a12, a13⟩)
 else (bif (ieq a0 (5)) then
 (some ⟨true, (0), (0), (0), (0), a4, a5, a6, a7, a8, ByteArray.empty, (0), (0), false, a13⟩)
 else (bif (ieq a0 (6)) then
 (some ⟨true, (0), (0), (0), (0), a4, a5, a6, a7, a8, ByteArray.empty, a10, a11, a12, a13⟩)
 else (bif (ieq a0 (7)) then
 (some ⟨false, (0), (0), (0), (0), a4, a5, a6, a7, (0), a9, a10, a11, a12, a13⟩)
 else (bif (ieq a0 (10)) then
 (some ⟨true, (0), (0), (0), (0), a4, a5, false, (0), a8, a9, a10, a11, a12, a13⟩)
 else (bif (ieq a0 (11)) then
 (some ⟨true, (0), (0), (0), (0), a4, a5, a6, a7, a8, a9, a10, a11, a12, (0)⟩)
 else (bif (ieq a0 (12)) then
 (some ⟨true, (0), (0), (0), (0), a4, a5, a6, a7, a8, ByteArray.empty, (0), (0), false, (0)⟩)
 else (some ⟨true, (0), (0), (0), (0), a4, a5, a6, a7, a8, a9, a10, a11, a12, a13⟩)))))))

/-! ### slices.Equal[[]int,int] -/
def F59_c0 : Nat → List (Int) → List (Int) → Int → Int → Option (Bool)
  | 0, _, _, _, _ => none
  | n + 1, x0, x1, x2, x3 => bif (ilt x3 x2) then
 (bif (inb x3 (List.length x0)) then
 (bif (inb x3 (List.length x1)) then
 (bif (ine (List.getD x0 (Int.toNat x3) 0) (List.getD x1 (Int.toNat x3) 0)) then
 (some false)
 else (F59_c0 n x0 x1 x2 (iadd .i64 x3 (1))))
 else (none))
 else (none))
 else (some true)
def F59 (n : Nat) (a0 a1 : List (Int)) : Option (Bool) :=
  bif (ine (ofN (List.length a0)) (ofN (List.length a1))) then
 (some false)
 else (F59_c0 n a0 a1 (ofN (List.length a0)) (0))

/-! ### garland/msg.Same -/
def F28 (_n : Nat) (a0 a1 a2 a3 a4 : Int) (a5 a6 : Bool) (a7 a8 : Int) (a9 : List (Int)) (a10 : ByteArray) (a11 a12 : Int) (a13 : Bool) (a14 a15 a16 a17 a18 a19 : Int) (a20 a21 : Bool) (a22 a23 : Int) (a24 : List (Int)) (a25 : ByteArray) (a26 a27 : Int) (a28 : Bool) (a29 : Int) : Option (Bool) :=
  bif (ieq a0 a15) then
 (bif (ieq a1 a16) then
 (bif (ieq a2 a17) then
 (bif (ieq a3 a18) then
 (bif (ieq a4 a19) then
 (bif (beqb a5 a20) then
 (bif (beqb a6 a21) then
 (bif (ieq a7 a22) then
 (bif (ieq a8 a23) then
 (Option.bind (F59 FUEL a9 a24) fun y1 =>
 bif y1 then
 (bif ((steq a10 a25) && ((ieq a11 a26) && ((ieq a12 a27) && ((beqb a13 a28) && true)))) then
 (some (ieq a14 a29))
 else (some false))
 else (some false))
 else (some false))
 else (some false))
 else (some false))
 else (some false))
 else (some false))
 else (some false))
 else (some false))
 else (some false))
 else (some false)

/-! ### garland/msg.Right -/
mutual
def F19_c0 : Nat → Option (Bool)
  | 0 => none
  | _ + 1 => some false
def F19_c1 : Nat → List (Int) → Int → Int → Int → Int → Int → Int → Int → Bool → Bool → Int → Int → List (Int) → ByteArray → Int → Int → Bool → Int → Option (Bool)
  | 0, _, _, _, _, _, _, _, _, _, _, _, _, _, _, _, _, _, _ => none
  | n + 1, x0, x1, x2, x3, x4, x5, x6, x7, x8, x9, x10, x11, x12, x13, x14, x15, x16, x17 => bif (ilt x2 x1) then
 (bif (inb x2 (List.length x0)) then
 (Option.bind (F49 FUEL (List.getD x0 (Int.toNat x2) 0)) fun y22 =>
 bif (!y22) then
 (F19_c0 n )
 else (F19_c1 n x0 x1 (iadd .i64 x2 (1)) x3 x4 x5 x6 x7 x8 x9 x10 x11 x12 x13 x14 x15 x16 x17))
 else (none))
 else (bif (ieq x5 x6) then
 (F19_c0 n )
 else (Option.bind (F23 FUEL x3 x4 x5 x6 x7 x8 x9 x10 x11 x12 x13 x14 x15 x16 x17) fun y23 =>
 Option.bind (F55 FUEL y23 x4) fun y24 =>
 bif (!y24) then
 (F19_c0 n )
 else (Option.bind (F56 FUEL x3 x4 x5 x6 x7 x8 x9 x10 x11 x13 x14 x15 x16 x17) fun y25 =>
 bif y25.q0 then
 (Option.bind (F28 FUEL y25.q1 y25.q2 y25.q3 y25.q4 y25.q5 y25.q6 y25.q7 y25.q8 y25.q9 x12 y25.q10 y25.q11 y25.q12 y25.q13 y25.q14 (0) (0) (0) (0) (0) false false (0) (0) [] ByteArray.empty (0) (0) false (0)) fun y26 =>
 some y26)
 else (Option.bind (F28 FUEL y25.q1 y25.q2 y25.q3 y25.q4 y25.q5 y25.q6 y25.q7 y25.q8 y25.q9 [] y25.q10 y25.q11 y25.q12 y25.q13 y25.q14 (0) (0) (0) (0) (0) false false (0) (0) [] ByteArray.empty (0) (0) false (0)) fun y27 =>
 some y27))))
end
def F19 (n : Nat) (a0 a1 a2 a3 a4 : Int) (a5 a6 : Bool) (a7 a8 : Int) (a9 : List (Int)) (a10 : ByteArray) (a11 a12 : Int) (a13 : Bool) (a14 : Int) : Option (Bool) :=
  bif (ilt a0 (1)) then
 (F19_c0 n )
 else (bif (ige a0 (13)) then
 (F19_c0 n )
 else (Option.bind (F53 FUEL a0 a1 a2 a3 a4 a5 a6 a7 a8 a9 a10 a11 a12 a13 a14) fun y1 =>
 bif (!y1) then
 (F19_c0 n )
 else (Option.bind (F49 FUEL a2) fun y2 =>
 bif (!y2) then
 (F19_c0 n )
 else (Option.bind (F49 FUEL a3) fun y3 =>
 bif (!y3) then
 (F19_c0 n )
 else (bif (ieq a0 (4)) then
 (Option.bind (F49 FUEL a4) fun y4 =>
 bif (!y4) then
 (F19_c0 n )
 else (bif (ieq a2 a3) then
 (F19_c0 n )
 else (Option.bind (F23 FUEL a0 a1 a2 a3 a4 a5 a6 a7 a8 a9 a10 a11 a12 a13 a14) fun y5 =>
 Option.bind (F55 FUEL y5 a1) fun y6 =>
 bif (!y6) then
 (F19_c0 n )
 else (Option.bind (F56 FUEL a0 a1 a2 a3 a4 a5 a6 a7 a8 a10 a11 a12 a13 a14) fun y7 =>
 bif y7.q0 then
 (Option.bind (F28 FUEL y7.q1 y7.q2 y7.q3 y7.q4 y7.q5 y7.q6 y7.q7 y7.q8 y7.q9 a9 y7.q10 y7.q11 y7.q12 y7.q13 y7.q14 (0) (0) (0) (0) (0) false false (0) (0) [] ByteArray.empty (0) (0) false (0)) fun y8 =>
 some y8)
 else (Option.bind (F28 FUEL y7.q1 y7.q2 y7.q3 y7.q4 y7.q5 y7.q6 y7.q7 y7.q8 y7.q9 [] y7.q10 y7.q11 y7.q12 y7.q13 y7.q14 (0) (0) (0) (0) (0) false false (0) (0) [] ByteArray.empty (0) (0) false (0)) fun y9 =>
 some y9)))))
 else (bif (ieq a0 (10)) then
 (Option.bind (F49 FUEL a7) fun y10 =>
 bif (!y10) then
 (F19_c0 n )
 else (bif (ieq a2 a3) then
 (F19_c0 n )
 else (Option.bind (F23 FUEL a0 a1 a2 a3 a4 a5 a6 a7 a8 a9 a10 a11 a12 a13 a14) fun y11 =>
 Option.bind (F55 FUEL y11 a1) fun y12 =>
 bif (!y12) then
 (F19_c0 n )
 else (Option.bind (F56 FUEL a0 a1 a2 a3 a4 a5 a6 a7 a8 a10 a11 a12 a13 a14) fun y13 =>
 bif y13.q0 then
 (Option.bind (F28 FUEL y13.q1 y13.q2 y13.q3 y13.q4 y13.q5 y13.q6 y13.q7 y13.q8 y13.q9 a9 y13.q10 y13.q11 y13.q12 y13.q13 y13.q14 (0) (0) (0) (0) (0) false false (0) (0) [] ByteArray.empty (0) (0) false (0)) fun y14 =>
 some y14)
 else (Option.bind (F28 FUEL y13.q1 y13.q2 y13.q3 y13.q4 y13.q5 y13.q6 y13.q7 y13.q8 y13.q9 [] y13.q10 y13.q11 y13.q12 y13.q13 y13.q14 (0) (0) (0) (0) (0) false false (0) (0) [] ByteArray.empty (0) (0) false (0)) fun y15 =>
 some y15)))))
 else (bif (ieq a0 (7)) then
 (bif (ine a8 (-1)) then
 (Option.bind (F49 FUEL a8) fun y16 =>
 bif (!y16) then
 (F19_c0 n )
 else (F19_c1 n a9 (ofN (List.length a9)) (0) a0 a1 a2 a3 a4 a5 a6 a7 a8 a9 a10 a11 a12 a13 a14))
 else (F19_c1 n a9 (ofN (List.length a9)) (0) a0 a1 a2 a3 a4 a5 a6 a7 a8 a9 a10 a11 a12 a13 a14))
 else (bif (ieq a2 a3) then
 (F19_c0 n )
 else (Option.bind (F23 FUEL a0 a1 a2 a3 a4 a5 a6 a7 a8 a9 a10 a11 a12 a13 a14) fun y17 =>
 Option.bind (F55 FUEL y17 a1) fun y18 =>
 bif (!y18) then
 (F19_c0 n )
 else (Option.bind (F56 FUEL a0 a1 a2 a3 a4 a5 a6 a7 a8 a10 a11 a12 a13 a14) fun y19 =>
 bif y19.q0 then
 (Option.bind (F28 FUEL y19.q1 y19.q2 y19.q3 y19.q4 y19.q5 y19.q6 y19.q7 y19.q8 y19.q9 a9 y19.q10 y19.q11 y19.q12 y19.q13 y19.q14 (0) (0) (0) (0) (0) false false (0) (0) [] ByteArray.empty (0) (0) false (0)) fun y20 =>
 some y20)
 else (Option.bind (F28 FUEL y19.q1 y19.q2 y19.q3 y19.q4 y19.q5 y19.q6 y19.q7 y19.q8 y19.q9 [] y19.q10 y19.q11 y19.q12 y19.q13 y19.q14 (0) (0) (0) (0) (0) false false (0) (0) [] ByteArray.empty (0) (0) false (0)) fun y21 =>
 some y21)))))))))))

/-! ### garland/msg.Own -/
structure Si5b2i2si2bil where
  q0 : Int
  q1 : Int
  q2 : Int
  q3 : Int
  q4 : Int
  q5 : Bool
  q6 : Bool
  q7 : Int
  q8 : Int
  q9 : ByteArray
  q10 : Int
  q11 : Int
  q12 : Bool
  q13 : Int
  q14 : List (Int)
def F29 (_n : Nat) (a0 a1 a2 a3 a4 : Int) (a5 a6 : Bool) (a7 a8 : Int) (a9 : List (Int)) (a10 : ByteArray) (a11 a12 : Int) (a13 : Bool) (a14 : Int) : Option (Si5b2i2si2bil) :=
  bif (room (List.length a9) 8) then
 (some ⟨a0, a1, a2, a3, a4, a5, a6, a7, a8, a10, a11, a12, a13, a14, a9⟩)
 else (none)

/-! ### garland/garlandlaw06.wakes -/
def F14 (_n : Nat) : Option (Bool) :=
  Option.bind (F15 FUEL (2) (3)) fun y1 =>
 Option.bind (F15 FUEL (2) (0)) fun y2 =>
 Option.bind (F26 FUEL (4) y1.1 (2) (9) (65535) true false (0) (0) [] ByteArray.empty (0) (0) false (0)) fun y3 =>
 bif (ieq y1.1 (2097155)) then
 (bif (ieq y1.2 (0)) then
 (bif (ieq y2.2 (2)) then
 (Option.bind (F19 FUEL (4) y1.1 (2) (9) (65535) true false (0) (0) [] ByteArray.empty (0) (0) false (0)) fun y4 =>
 bif y4 then
 (Option.bind (F21 FUEL (4) y1.1 (2) (9) (65535) true false (0) (0) [] ByteArray.empty (0) (0) false (0)) fun y5 =>
 bif y5 then
 (Option.bind (F21 FUEL y3.q0 y3.q1 y3.q2 y3.q3 y3.q4 y3.q5 y3.q6 y3.q7 y3.q8 [] y3.q9 y3.q10 y3.q11 y3.q12 y3.q13) fun y6 =>
 bif (!y6) then
 (Option.bind (F23 FUEL (4) y1.1 (2) (9) (65535) true false (0) (0) [] ByteArray.empty (0) (0) false (0)) fun y7 =>
 bif (ieq y7 (2)) then
 (Option.bind (F23 FUEL y3.q0 y3.q1 y3.q2 y3.q3 y3.q4 y3.q5 y3.q6 y3.q7 y3.q8 [] y3.q9 y3.q10 y3.q11 y3.q12 y3.q13) fun y8 =>
 bif (ieq y8 (2)) then
 (Option.bind (F28 FUEL y3.q0 y3.q1 y3.q2 y3.q3 y3.q4 y3.q5 y3.q6 y3.q7 y3.q8 [] y3.q9 y3.q10 y3.q11 y3.q12 y3.q13 (10) y1.1 (9) (2) (0) false false (0) (0) [] ByteArray.empty (0) (0) false (0)) fun y9 =>
 bif y9 then
 (Option.bind (F19 FUEL y3.q0 y3.q1 y3.q2 y3.q3 y3.q4 y3.q5 y3.q6 y3.q7 y3.q8 [] y3.q9 y3.q10 y3.q11 y3.q12 y3.q13) fun y10 =>
 bif y10 then
 (Option.bind (F19 FUEL (7) y1.1 (9) (2) (0) false false (0) (-1) [(4), (2)] ByteArray.empty (0) (0) false (0)) fun y11 =>
 bif y11 then
 (Option.bind (F19 FUEL (0) (0) (0) (0) (0) false false (0) (0) [] ByteArray.empty (0) (0) false (0)) fun y12 =>
 bif (!y12) then
 (Option.bind (F17 FUEL (ByteArray.mk #[97]) (0) (0) false) fun y13 =>
 bif y13 then
 (Option.bind (F17 FUEL ByteArray.empty (0) (0) false) fun y14 =>
 bif (!y14) then
 (Option.bind (F29 FUEL (7) y1.1 (9) (2) (0) false false (0) (-1) [(4), (2)] ByteArray.empty (0) (0) false (0)) fun y15 =>
 Option.bind (F28 FUEL y15.q0 y15.q1 y15.q2 y15.q3 y15.q4 y15.q5 y15.q6 y15.q7 y15.q8 y15.q14 y15.q9 y15.q10 y15.q11 y15.q12 y15.q13 (7) y1.1 (9) (2) (0) false false (0) (-1) [(4), (2)] ByteArray.empty (0) (0) false (0)) fun y16 =>
 some y16)
 else (some false))
 else (some false))
 else (some false))
 else (some false))
 else (some false))
 else (some false))
 else (some false))
 else (some false))
 else (some false))
 else (some false))
 else (some false))
 else (some false))
 else (some false))
 else (some false)

/-! ### garland/garlandref06.place -/
def F50 (_n : Nat) (a0 : Int) : Option (Bool) :=
  bif (ige a0 (0)) then
 (some (ilt a0 (65536)))
 else (some false)

/-! ### garland/garlandref06.Call -/
def F16 (_n : Nat) (a0 a1 : Int) : Option (Int × Int) :=
  Option.bind (F50 FUEL a0) fun y1 =>
 bif (!y1) then
 (some ((0), (2)))
 else (bif (ilt a1 (1)) then
 (some ((0), (2)))
 else (bif (igt a1 (1048576)) then
 (some ((0), (2)))
 else (some ((iadd .i64 (imul .i64 a0 (1048576)) a1), (0)))))

/-! ### garland/garlandref06.Pair -/
def F18 (_n : Nat) (a0 : ByteArray) (a1 a2 : Int) (_a3 : Bool) : Option (Bool) :=
  bif (ige (stlen a0) (1)) then
 (bif (ile (stlen a0) (20)) then
 (bif (ige a1 (0)) then
 (bif (ile a1 (1048576)) then
 (bif (ige a2 (0)) then
 (some (ile a2 (1048576)))
 else (some false))
 else (some false))
 else (some false))
 else (some false))
 else (some false)

/-! ### garland/garlandref06.Asks -/
def F22 (_n : Nat) (a0 _a1 _a2 _a3 _a4 : Int) (_a5 _a6 : Bool) (_a7 _a8 : Int) (_a9 : List (Int)) (_a10 : ByteArray) (_a11 _a12 : Int) (_a13 : Bool) (_a14 : Int) : Option (Bool) :=
  bif (ige a0 (1)) then
 (some (ile a0 (6)))
 else (some false)

/-! ### garland/garlandref06.Asker -/
def F24 (_n : Nat) (a0 a1 a2 a3 a4 : Int) (a5 a6 : Bool) (a7 a8 : Int) (a9 : List (Int)) (a10 : ByteArray) (a11 a12 : Int) (a13 : Bool) (a14 : Int) : Option (Int) :=
  Option.bind (F22 FUEL a0 a1 a2 a3 a4 a5 a6 a7 a8 a9 a10 a11 a12 a13 a14) fun y1 =>
 bif y1 then
 (some a2)
 else (some a3)

/-! ### garland/garlandref06.bare -/
def F57 (_n : Nat) (a0 a1 a2 a3 a4 : Int) (a5 a6 : Bool) (a7 a8 : Int) (a9 : ByteArray) (a10 a11 : Int) (a12 : Bool) (a13 : Int) : Option (Sbi5b2i2si2bi) :=
  bif (ieq a0 (4)) then
 (some ⟨true, a0, a1, a2, a3, (0), false, a6, a7, a8, a9, a10, a11, a12, a13⟩)
 else (bif (ieq a0 (5)) then
 (bif (ieq a0 (5)) then
 (some ⟨true, a0, a1, a2, a3, a4, a5, a6, a7, a8, ByteArray.empty, (0), (0), false, a13⟩)
 else (bif (ieq a0 (7)) then
 (some ⟨false, a0, a1, a2, a3, a4, a5, a6, a7, (0), a9, a10, a11, a12, a13⟩)
 else (bif (ieq a0 (10)) then
 (some ⟨true, a0, a1, a2, a3, a4, a5, false, (0), a8, a9, a10, a11, a12, a13⟩)
 else (bif (ieq a0 (11)) then
 (some ⟨true, a0, a1, a2, a3, a4, a5, a6, a7, a8, a9, a10, a11, a12, (0)⟩)
 else (bif (ieq a0 (12)) then
 (some ⟨true, a0, a1, a2, a3, a4, a5, a6, a7, a8, ByteArray.empty, (0), (0), false, (0)⟩)
 else (some ⟨true, a0, a1, a2, a3, a4, a5, a6, a7, a8, a9, a10, a11, a12, a13⟩))))))
 else (bif (ieq a0 (6)) then
 (some ⟨true, a0, a1, a2, a3, a4, a5, a6, a7, a8, ByteArray.empty, (0), (0), false, a13⟩)
 else (bif (ieq a0 (7)) then
 (some ⟨false, a0, a1, a2, a3, a4, a5, a6, a7, (0), a9, a10, a11, a12, a13⟩)
 else (bif (ieq a0 (10)) then
 (some ⟨true, a0, a1, a2, a3, a4, a5, false, (0), a8, a9, a10, a11, a12, a13⟩)
 else (bif (ieq a0 (11)) then
 (some ⟨true, a0, a1, a2, a3, a4, a5, a6, a7, a8, a9, a10, a11, a12, (0)⟩)
 else (bif (ieq a0 (12)) then
 (some ⟨true, a0, a1, a2, a3, a4, a5, a6, a7, a8, ByteArray.empty, (0), (0), false, (0)⟩)
 else (some ⟨true, a0, a1, a2, a3, a4, a5, a6, a7, a8, a9, a10, a11, a12, a13⟩)))))))

/-! ### garland/garlandref06.Same -/
def F25_c0 : Nat → Int → Int → Int → Int → Int → Int → Bool → Bool → Int → Int → List (Int) → ByteArray → Int → Int → Bool → Int → Int → Int → Int → Int → Int → Bool → Bool → Int → Int → List (Int) → ByteArray → Int → Int → Bool → Int → Option (Bool)
  | 0, _, _, _, _, _, _, _, _, _, _, _, _, _, _, _, _, _, _, _, _, _, _, _, _, _, _, _, _, _, _, _ => none
  | n + 1, x0, x1, x2, x3, x4, x5, x6, x7, x8, x9, x10, x11, x12, x13, x14, x15, x16, x17, x18, x19, x20, x21, x22, x23, x24, x25, x26, x27, x28, x29, x30 => bif (ilt x0 (ofN (List.length x10))) then
 (bif (inb x0 (List.length x10)) then
 (bif (inb x0 (List.length x25)) then
 (bif (ine (List.getD x10 (Int.toNat x0) 0) (List.getD x25 (Int.toNat x0) 0)) then
 (some false)
 else (F25_c0 n (iadd .i64 x0 (1)) x1 x2 x3 x4 x5 x6 x7 x8 x9 x10 x11 x12 x13 x14 x15 x16 x17 x18 x19 x20 x21 x22 x23 x24 x25 x26 x27 x28 x29 x30))
 else (none))
 else (none))
 else (bif (ieq x1 x16) then
 (bif (ieq x2 x17) then
 (bif (ieq x3 x18) then
 (bif (ieq x4 x19) then
 (bif (ieq x5 x20) then
 (bif (beqb x6 x21) then
 (bif (beqb x7 x22) then
 (bif (ieq x8 x23) then
 (bif (ieq x9 x24) then
 (bif ((steq x11 x26) && ((ieq x12 x27) && ((ieq x13 x28) && ((beqb x14 x29) && true)))) then
 (some (ieq x15 x30))
 else (some false))
 else (some false))
 else (some false))
 else (some false))
 else (some false))
 else (some false))
 else (some false))
 else (some false))
 else (some false))
 else (some false))
def F25 (n : Nat) (a0 a1 a2 a3 a4 : Int) (a5 a6 : Bool) (a7 a8 : Int) (a9 : List (Int)) (a10 : ByteArray) (a11 a12 : Int) (a13 : Bool) (a14 a15 a16 a17 a18 a19 : Int) (a20 a21 : Bool) (a22 a23 : Int) (a24 : List (Int)) (a25 : ByteArray) (a26 a27 : Int) (a28 : Bool) (a29 : Int) : Option (Bool) :=
  bif (ine (ofN (List.length a9)) (ofN (List.length a24))) then
 (some false)
 else (F25_c0 n (0) a0 a1 a2 a3 a4 a5 a6 a7 a8 a9 a10 a11 a12 a13 a14 a15 a16 a17 a18 a19 a20 a21 a22 a23 a24 a25 a26 a27 a28 a29)

/-! ### garland/garlandref06.list -/
mutual
def F67_c0 : Nat → List (Int) → Int → Int → Option (Bool)
  | 0, _, _, _ => none
  | n + 1, x0, x1, x2 => bif (ilt x2 (ofN (List.length x0))) then
 (bif (inb x2 (List.length x0)) then
 (Option.bind (F50 FUEL (List.getD x0 (Int.toNat x2) 0)) fun y1 =>
 bif (!y1) then
 (some false)
 else (bif (inb x2 (List.length x0)) then
 (bif (ieq (List.getD x0 (Int.toNat x2) 0) x1) then
 (some false)
 else (F67_c1 n x0 x1 x2 (0)))
 else (none)))
 else (none))
 else (some (ile (ofN (List.length x0)) (3)))
def F67_c1 : Nat → List (Int) → Int → Int → Int → Option (Bool)
  | 0, _, _, _, _ => none
  | n + 1, x0, x1, x2, x3 => bif (ilt x3 x2) then
 (bif (inb x3 (List.length x0)) then
 (bif (inb x2 (List.length x0)) then
 (bif (ieq (List.getD x0 (Int.toNat x3) 0) (List.getD x0 (Int.toNat x2) 0)) then
 (some false)
 else (F67_c1 n x0 x1 x2 (iadd .i64 x3 (1))))
 else (none))
 else (none))
 else (F67_c0 n x0 x1 (iadd .i64 x2 (1)))
end
def F67 (n : Nat) (a0 : List (Int)) (a1 : Int) : Option (Bool) :=
  F67_c0 n a0 a1 (0)

/-! ### garland/garlandref06.has -/
def F58 (_n : Nat) (a0 _a1 a2 _a3 a4 : Int) (_a5 _a6 : Bool) (a7 a8 : Int) (a9 : List (Int)) (a10 : ByteArray) (a11 a12 : Int) (a13 : Bool) (a14 : Int) : Option (Bool) :=
  bif (ieq a0 (4)) then
 (Option.bind (F50 FUEL a4) fun y1 =>
 some y1)
 else (bif (ieq a0 (5)) then
 (Option.bind (F18 FUEL a10 a11 a12 a13) fun y2 =>
 some y2)
 else (bif (ieq a0 (6)) then
 (Option.bind (F18 FUEL a10 a11 a12 a13) fun y3 =>
 bif y3 then
 (some ((steq a10 a10) && ((ieq a11 (0)) && ((ieq a12 (0)) && ((beqb a13 false) && true)))))
 else (some false))
 else (bif (ieq a0 (7)) then
 (bif (ieq a8 (-1)) then
 (Option.bind (F67 FUEL a9 a2) fun y4 =>
 some y4)
 else (Option.bind (F50 FUEL a8) fun y5 =>
 bif y5 then
 (Option.bind (F67 FUEL a9 a2) fun y6 =>
 some y6)
 else (some false)))
 else (bif (ieq a0 (10)) then
 (Option.bind (F50 FUEL a7) fun y7 =>
 some y7)
 else (bif (ieq a0 (11)) then
 (bif (ieq a14 (0)) then
 (some true)
 else (some (ieq a14 (200))))
 else (bif (ieq a0 (12)) then
 (bif (ieq a14 (0)) then
 (Option.bind (F18 FUEL a10 a11 a12 a13) fun y8 =>
 bif y8 then
 (some true)
 else (bif (ieq a14 (201)) then
 (some ((steq a10 ByteArray.empty) && ((ieq a11 (0)) && ((ieq a12 (0)) && ((beqb a13 false) && true)))))
 else (some false)))
 else (bif (ieq a14 (201)) then
 (some ((steq a10 ByteArray.empty) && ((ieq a11 (0)) && ((ieq a12 (0)) && ((beqb a13 false) && true)))))
 else (some false)))
 else (some true)))))))

/-! ### garland/garlandref06.Right -/
def F20 (_n : Nat) (a0 a1 a2 a3 a4 : Int) (a5 a6 : Bool) (a7 a8 : Int) (a9 : List (Int)) (a10 : ByteArray) (a11 a12 : Int) (a13 : Bool) (a14 : Int) : Option (Bool) :=
  bif (ilt a0 (1)) then
 (some false)
 else (bif (ige a0 (13)) then
 (some false)
 else (Option.bind (F50 FUEL a2) fun y1 =>
 bif (!y1) then
 (some false)
 else (Option.bind (F50 FUEL a3) fun y2 =>
 bif (!y2) then
 (some false)
 else (bif (ieq a2 a3) then
 (some false)
 else (Option.bind (F24 FUEL a0 a1 a2 a3 a4 a5 a6 a7 a8 a9 a10 a11 a12 a13 a14) fun y3 =>
 bif (ilt a1 (iadd .i64 (imul .i64 y3 (1048576)) (1))) then
 (some false)
 else (bif (ige a1 (iadd .i64 (iadd .i64 (imul .i64 y3 (1048576)) (1)) (1048576))) then
 (some false)
 else (Option.bind (F57 FUEL a0 a1 a2 a3 a4 a5 a6 a7 a8 a10 a11 a12 a13 a14) fun y4 =>
 bif y4.q0 then
 (Option.bind (F25 FUEL y4.q1 y4.q2 y4.q3 y4.q4 y4.q5 y4.q6 y4.q7 y4.q8 y4.q9 a9 y4.q10 y4.q11 y4.q12 y4.q13 y4.q14 a0 a1 a2 a3 (0) false false (0) (0) [] ByteArray.empty (0) (0) false (0)) fun y5 =>
 bif y5 then
 (Option.bind (F58 FUEL a0 a1 a2 a3 a4 a5 a6 a7 a8 a9 a10 a11 a12 a13 a14) fun y6 =>
 some y6)
 else (some false))
 else (Option.bind (F25 FUEL y4.q1 y4.q2 y4.q3 y4.q4 y4.q5 y4.q6 y4.q7 y4.q8 y4.q9 [] y4.q10 y4.q11 y4.q12 y4.q13 y4.q14 a0 a1 a2 a3 (0) false false (0) (0) [] ByteArray.empty (0) (0) false (0)) fun y7 =>
 bif y7 then
 (Option.bind (F58 FUEL a0 a1 a2 a3 a4 a5 a6 a7 a8 a9 a10 a11 a12 a13 a14) fun y8 =>
 some y8)
 else (some false)))))))))

/-! ### garland/garlandref06.Tell -/
def F27 (_n : Nat) (a0 a1 a2 a3 a4 : Int) (a5 a6 : Bool) (a7 a8 : Int) (a9 : List (Int)) (a10 : ByteArray) (a11 a12 : Int) (a13 : Bool) (a14 : Int) : Option (Si5b2i2si2bi) :=
  Option.bind (F22 FUEL a0 a1 a2 a3 a4 a5 a6 a7 a8 a9 a10 a11 a12 a13 a14) fun y1 =>
 bif (!y1) then
 (some ⟨(0), (0), (0), (0), (0), false, false, (0), (0), ByteArray.empty, (0), (0), false, (0)⟩)
 else (some ⟨(iadd .u8 a0 (6)), a1, a3, a2, (0), false, false, (0), (0), ByteArray.empty, (0), (0), false, (0)⟩)

/-! ### garland/garlandlaw06.MsgTells -/
def F3 (_n : Nat) (a0 a1 a2 a3 a4 : Int) (a5 a6 : Bool) (a7 a8 : Int) (a9 : List (Int)) (a10 : ByteArray) (a11 a12 : Int) (a13 : Bool) (a14 a15 a16 a17 a18 a19 : Int) (a20 a21 : Bool) (a22 a23 : Int) (a24 : List (Int)) (a25 : ByteArray) (a26 a27 : Int) (a28 : Bool) (a29 : Int) (a30 : ByteArray) (a31 a32 : Int) (a33 : Bool) (a34 a35 : Int) : Option (Bool) :=
  Option.bind (F13 FUEL a0 a1 a2 a3 a4 a5 a6 a7 a8 a9 a10 a11 a12 a13 a14) fun y1 =>
 bif y1 then
 (Option.bind (F14 FUEL) fun y2 =>
 some y2)
 else (Option.bind (F13 FUEL a15 a16 a17 a18 a19 a20 a21 a22 a23 a24 a25 a26 a27 a28 a29) fun y3 =>
 bif y3 then
 (Option.bind (F14 FUEL) fun y4 =>
 some y4)
 else (bif (igt (stlen a30) (100)) then
 (Option.bind (F14 FUEL) fun y5 =>
 some y5)
 else (Option.bind (F15 FUEL a34 a35) fun y6 =>
 Option.bind (F16 FUEL a34 a35) fun y7 =>
 bif (ieq y6.1 y7.1) then
 (bif (ieq y6.2 y7.2) then
 (Option.bind (F17 FUEL a30 a31 a32 a33) fun y8 =>
 Option.bind (F18 FUEL a30 a31 a32 a33) fun y9 =>
 bif (beqb y8 y9) then
 (Option.bind (F19 FUEL a0 a1 a2 a3 a4 a5 a6 a7 a8 a9 a10 a11 a12 a13 a14) fun y10 =>
 Option.bind (F20 FUEL a0 a1 a2 a3 a4 a5 a6 a7 a8 a9 a10 a11 a12 a13 a14) fun y11 =>
 bif (beqb y10 y11) then
 (Option.bind (F21 FUEL a0 a1 a2 a3 a4 a5 a6 a7 a8 a9 a10 a11 a12 a13 a14) fun y12 =>
 Option.bind (F22 FUEL a0 a1 a2 a3 a4 a5 a6 a7 a8 a9 a10 a11 a12 a13 a14) fun y13 =>
 bif (beqb y12 y13) then
 (Option.bind (F23 FUEL a0 a1 a2 a3 a4 a5 a6 a7 a8 a9 a10 a11 a12 a13 a14) fun y14 =>
 Option.bind (F24 FUEL a0 a1 a2 a3 a4 a5 a6 a7 a8 a9 a10 a11 a12 a13 a14) fun y15 =>
 bif (ieq y14 y15) then
 (Option.bind (F26 FUEL a0 a1 a2 a3 a4 a5 a6 a7 a8 a9 a10 a11 a12 a13 a14) fun y16 =>
 Option.bind (F27 FUEL a0 a1 a2 a3 a4 a5 a6 a7 a8 a9 a10 a11 a12 a13 a14) fun y17 =>
 Option.bind (F25 FUEL y16.q0 y16.q1 y16.q2 y16.q3 y16.q4 y16.q5 y16.q6 y16.q7 y16.q8 [] y16.q9 y16.q10 y16.q11 y16.q12 y16.q13 y17.q0 y17.q1 y17.q2 y17.q3 y17.q4 y17.q5 y17.q6 y17.q7 y17.q8 [] y17.q9 y17.q10 y17.q11 y17.q12 y17.q13) fun y18 =>
 bif y18 then
 (Option.bind (F28 FUEL a0 a1 a2 a3 a4 a5 a6 a7 a8 a9 a10 a11 a12 a13 a14 a15 a16 a17 a18 a19 a20 a21 a22 a23 a24 a25 a26 a27 a28 a29) fun y19 =>
 Option.bind (F25 FUEL a0 a1 a2 a3 a4 a5 a6 a7 a8 a9 a10 a11 a12 a13 a14 a15 a16 a17 a18 a19 a20 a21 a22 a23 a24 a25 a26 a27 a28 a29) fun y20 =>
 bif (beqb y19 y20) then
 (Option.bind (F29 FUEL a0 a1 a2 a3 a4 a5 a6 a7 a8 a9 a10 a11 a12 a13 a14) fun y21 =>
 Option.bind (F25 FUEL y21.q0 y21.q1 y21.q2 y21.q3 y21.q4 y21.q5 y21.q6 y21.q7 y21.q8 y21.q14 y21.q9 y21.q10 y21.q11 y21.q12 y21.q13 a0 a1 a2 a3 a4 a5 a6 a7 a8 a9 a10 a11 a12 a13 a14) fun y22 =>
 bif y22 then
 (Option.bind (F14 FUEL) fun y23 =>
 some y23)
 else (some false))
 else (some false))
 else (some false))
 else (some false))
 else (some false))
 else (some false))
 else (some false))
 else (some false))
 else (some false))))

/-! ### garland/garlandlaw06.MsgTold -/
def F4 (_n : Nat) (a0 a1 a2 a3 a4 : Int) (a5 a6 : Bool) (a7 a8 : Int) (a9 : List (Int)) (a10 : ByteArray) (a11 a12 : Int) (a13 : Bool) (a14 : Int) (a15 : ByteArray) (a16 a17 : Int) (a18 : Bool) : Option (Bool) :=
  Option.bind (F13 FUEL a0 a1 a2 a3 a4 a5 a6 a7 a8 a9 a10 a11 a12 a13 a14) fun y1 =>
 bif y1 then
 (Option.bind (F14 FUEL) fun y2 =>
 some y2)
 else (bif (igt (stlen a15) (100)) then
 (Option.bind (F14 FUEL) fun y3 =>
 some y3)
 else (Option.bind (F20 FUEL a0 a1 a2 a3 a4 a5 a6 a7 a8 a9 a10 a11 a12 a13 a14) fun y4 =>
 bif (!y4) then
 (Option.bind (F14 FUEL) fun y5 =>
 some y5)
 else (Option.bind (F26 FUEL a0 a1 a2 a3 a4 a5 a6 a7 a8 a9 a10 a11 a12 a13 a14) fun y6 =>
 Option.bind (F21 FUEL a0 a1 a2 a3 a4 a5 a6 a7 a8 a9 a10 a11 a12 a13 a14) fun y7 =>
 bif (!y7) then
 (Option.bind (F25 FUEL y6.q0 y6.q1 y6.q2 y6.q3 y6.q4 y6.q5 y6.q6 y6.q7 y6.q8 [] y6.q9 y6.q10 y6.q11 y6.q12 y6.q13 (0) (0) (0) (0) (0) false false (0) (0) [] ByteArray.empty (0) (0) false (0)) fun y8 =>
 bif y8 then
 (Option.bind (F14 FUEL) fun y9 =>
 some y9)
 else (some false))
 else (Option.bind (F21 FUEL y6.q0 y6.q1 y6.q2 y6.q3 y6.q4 y6.q5 y6.q6 y6.q7 y6.q8 [] y6.q9 y6.q10 y6.q11 y6.q12 y6.q13) fun y10 =>
 bif y10 then
 (some false)
 else (Option.bind (F23 FUEL y6.q0 y6.q1 y6.q2 y6.q3 y6.q4 y6.q5 y6.q6 y6.q7 y6.q8 [] y6.q9 y6.q10 y6.q11 y6.q12 y6.q13) fun y11 =>
 Option.bind (F23 FUEL a0 a1 a2 a3 a4 a5 a6 a7 a8 a9 a10 a11 a12 a13 a14) fun y12 =>
 bif (ine y11 y12) then
 (some false)
 else (bif (ine y6.q1 a1) then
 (some false)
 else (bif (ine y6.q2 a3) then
 (some false)
 else (bif (ine y6.q3 a2) then
 (some false)
 else (bif (ine a0 (6)) then
 (Option.bind (F19 FUEL y6.q0 y6.q1 y6.q2 y6.q3 y6.q4 y6.q5 y6.q6 y6.q7 y6.q8 [] y6.q9 y6.q10 y6.q11 y6.q12 y6.q13) fun y13 =>
 bif y13 then
 (Option.bind (F14 FUEL) fun y14 =>
 some y14)
 else (some false))
 else (Option.bind (F19 FUEL y6.q0 y6.q1 y6.q2 y6.q3 y6.q4 y6.q5 y6.q6 y6.q7 y6.q8 [] y6.q9 y6.q10 y6.q11 y6.q12 (201)) fun y15 =>
 bif y15 then
 (Option.bind (F19 FUEL y6.q0 y6.q1 y6.q2 y6.q3 y6.q4 y6.q5 y6.q6 y6.q7 y6.q8 [] a15 a16 a17 a18 (0)) fun y16 =>
 Option.bind (F18 FUEL a15 a16 a17 a18) fun y17 =>
 bif (beqb y16 y17) then
 (Option.bind (F14 FUEL) fun y18 =>
 some y18)
 else (some false))
 else (some false)))))))))))

/-! ### garland/garlandlaw06.MsgOne -/
def F5 (_n : Nat) (a0 a1 a2 a3 a4 : Int) (a5 a6 : Bool) (a7 a8 : Int) (a9 : List (Int)) (a10 : ByteArray) (a11 a12 : Int) (a13 : Bool) (a14 a15 : Int) : Option (Bool) :=
  Option.bind (F13 FUEL a0 a1 a2 a3 a4 a5 a6 a7 a8 a9 a10 a11 a12 a13 a14) fun y1 =>
 bif y1 then
 (Option.bind (F14 FUEL) fun y2 =>
 some y2)
 else (Option.bind (F20 FUEL a0 a1 a2 a3 a4 a5 a6 a7 a8 a9 a10 a11 a12 a13 a14) fun y3 =>
 bif (!y3) then
 (Option.bind (F14 FUEL) fun y4 =>
 some y4)
 else (bif (ilt a15 (1)) then
 (Option.bind (F14 FUEL) fun y5 =>
 some y5)
 else (bif (igt a15 (60000)) then
 (Option.bind (F14 FUEL) fun y6 =>
 some y6)
 else (Option.bind (F19 FUEL a0 a1 a2 a2 a4 a5 a6 a7 a8 a9 a10 a11 a12 a13 a14) fun y7 =>
 bif y7 then
 (some false)
 else (Option.bind (F28 FUEL a0 a1 a2 a2 a4 a5 a6 a7 a8 a9 a10 a11 a12 a13 a14 a0 a1 a2 a3 a4 a5 a6 a7 a8 a9 a10 a11 a12 a13 a14) fun y8 =>
 bif y8 then
 (some false)
 else (Option.bind (F19 FUEL a0 (iadd .i64 a1 (imul .i64 (1048576) a15)) a2 a3 a4 a5 a6 a7 a8 a9 a10 a11 a12 a13 a14) fun y9 =>
 bif y9 then
 (some false)
 else (Option.bind (F28 FUEL a0 (iadd .i64 a1 (imul .i64 (1048576) a15)) a2 a3 a4 a5 a6 a7 a8 a9 a10 a11 a12 a13 a14 a0 a1 a2 a3 a4 a5 a6 a7 a8 a9 a10 a11 a12 a13 a14) fun y10 =>
 bif y10 then
 (some false)
 else (Option.bind (F19 FUEL (0) a1 a2 a3 a4 a5 a6 a7 a8 a9 a10 a11 a12 a13 a14) fun y11 =>
 bif y11 then
 (some false)
 else (Option.bind (F28 FUEL (0) a1 a2 a3 a4 a5 a6 a7 a8 a9 a10 a11 a12 a13 a14 a0 a1 a2 a3 a4 a5 a6 a7 a8 a9 a10 a11 a12 a13 a14) fun y12 =>
 bif y12 then
 (some false)
 else (Option.bind (F19 FUEL a0 a1 (iadd .i64 (65536) a15) a3 a4 a5 a6 a7 a8 a9 a10 a11 a12 a13 a14) fun y13 =>
 bif y13 then
 (some false)
 else (Option.bind (F28 FUEL a0 a1 (iadd .i64 (65536) a15) a3 a4 a5 a6 a7 a8 a9 a10 a11 a12 a13 a14 a0 a1 a2 a3 a4 a5 a6 a7 a8 a9 a10 a11 a12 a13 a14) fun y14 =>
 bif y14 then
 (some false)
 else (Option.bind (F19 FUEL a0 a1 a2 a3 a4 a5 a6 a7 a8 a9 a10 a11 a12 a13 (5)) fun y15 =>
 bif y15 then
 (some false)
 else (Option.bind (F28 FUEL a0 a1 a2 a3 a4 a5 a6 a7 a8 a9 a10 a11 a12 a13 (5) a0 a1 a2 a3 a4 a5 a6 a7 a8 a9 a10 a11 a12 a13 a14) fun y16 =>
 bif y16 then
 (some false)
 else (Option.bind (F19 FUEL a0 a1 a2 a3 (ineg .i64 a15) a5 a6 a7 a8 a9 a10 a11 a12 a13 a14) fun y17 =>
 bif y17 then
 (some false)
 else (Option.bind (F28 FUEL a0 a1 a2 a3 (ineg .i64 a15) a5 a6 a7 a8 a9 a10 a11 a12 a13 a14 a0 a1 a2 a3 a4 a5 a6 a7 a8 a9 a10 a11 a12 a13 a14) fun y18 =>
 bif y18 then
 (some false)
 else (Option.bind (F19 FUEL a0 a1 a2 a3 a4 a5 a6 (ineg .i64 a15) a8 a9 a10 a11 a12 a13 a14) fun y19 =>
 bif y19 then
 (some false)
 else (Option.bind (F28 FUEL a0 a1 a2 a3 a4 a5 a6 (ineg .i64 a15) a8 a9 a10 a11 a12 a13 a14 a0 a1 a2 a3 a4 a5 a6 a7 a8 a9 a10 a11 a12 a13 a14) fun y20 =>
 bif y20 then
 (some false)
 else (Option.bind (F19 FUEL a0 a1 a2 a3 a4 a5 a6 a7 (isub .i64 (-1) a15) a9 a10 a11 a12 a13 a14) fun y21 =>
 bif y21 then
 (some false)
 else (Option.bind (F28 FUEL a0 a1 a2 a3 a4 a5 a6 a7 (isub .i64 (-1) a15) a9 a10 a11 a12 a13 a14 a0 a1 a2 a3 a4 a5 a6 a7 a8 a9 a10 a11 a12 a13 a14) fun y22 =>
 bif y22 then
 (some false)
 else (Option.bind (F19 FUEL a0 a1 a2 a3 a4 a5 a6 a7 a8 a9 a10 (ineg .i64 a15) a12 a13 a14) fun y23 =>
 bif y23 then
 (some false)
 else (Option.bind (F28 FUEL a0 a1 a2 a3 a4 a5 a6 a7 a8 a9 a10 (ineg .i64 a15) a12 a13 a14 a0 a1 a2 a3 a4 a5 a6 a7 a8 a9 a10 a11 a12 a13 a14) fun y24 =>
 bif y24 then
 (some false)
 else (Option.bind (F19 FUEL a0 a1 a2 a3 a4 a5 a6 a7 a8 a9 a10 a11 a12 a13 a14) fun y25 =>
 bif y25 then
 (Option.bind (F28 FUEL a0 a1 a2 a3 a4 a5 a6 a7 a8 a9 a10 a11 a12 a13 a14 a0 a1 a2 a3 a4 a5 a6 a7 a8 a9 a10 a11 a12 a13 a14) fun y26 =>
 bif y26 then
 (Option.bind (F14 FUEL) fun y27 =>
 some y27)
 else (some false))
 else (some false)))))))))))))))))))))))

/-! ### garland/garlandlaw06.MsgCalls -/
def F6 (_n : Nat) (a0 a1 a2 a3 : Int) : Option (Bool) :=
  Option.bind (F15 FUEL a0 a2) fun y1 =>
 Option.bind (F15 FUEL a1 a3) fun y2 =>
 bif (ine y1.2 (0)) then
 (bif (ige a0 (0)) then
 (bif (ilt a0 (65536)) then
 (bif (ige a2 (1)) then
 (bif (beqb (ieq y1.2 (0)) (ile a2 (1048576))) then
 (bif (ieq y1.2 (0)) then
 (Option.bind (F14 FUEL) fun y3 =>
 some y3)
 else (bif (ieq y1.2 (2)) then
 (bif (ieq y1.1 (0)) then
 (Option.bind (F14 FUEL) fun y4 =>
 some y4)
 else (some false))
 else (some false)))
 else (some false))
 else (bif (beqb (ieq y1.2 (0)) false) then
 (bif (ieq y1.2 (0)) then
 (Option.bind (F14 FUEL) fun y5 =>
 some y5)
 else (bif (ieq y1.2 (2)) then
 (bif (ieq y1.1 (0)) then
 (Option.bind (F14 FUEL) fun y6 =>
 some y6)
 else (some false))
 else (some false)))
 else (some false)))
 else (bif (beqb (ieq y1.2 (0)) false) then
 (bif (ieq y1.2 (0)) then
 (Option.bind (F14 FUEL) fun y7 =>
 some y7)
 else (bif (ieq y1.2 (2)) then
 (bif (ieq y1.1 (0)) then
 (Option.bind (F14 FUEL) fun y8 =>
 some y8)
 else (some false))
 else (some false)))
 else (some false)))
 else (bif (beqb (ieq y1.2 (0)) false) then
 (bif (ieq y1.2 (0)) then
 (Option.bind (F14 FUEL) fun y9 =>
 some y9)
 else (bif (ieq y1.2 (2)) then
 (bif (ieq y1.1 (0)) then
 (Option.bind (F14 FUEL) fun y10 =>
 some y10)
 else (some false))
 else (some false)))
 else (some false)))
 else (bif (ine y2.2 (0)) then
 (bif (ige a0 (0)) then
 (bif (ilt a0 (65536)) then
 (bif (ige a2 (1)) then
 (bif (beqb (ieq y1.2 (0)) (ile a2 (1048576))) then
 (bif (ieq y1.2 (0)) then
 (Option.bind (F14 FUEL) fun y11 =>
 some y11)
 else (bif (ieq y1.2 (2)) then
 (bif (ieq y1.1 (0)) then
 (Option.bind (F14 FUEL) fun y12 =>
 some y12)
 else (some false))
 else (some false)))
 else (some false))
 else (bif (beqb (ieq y1.2 (0)) false) then
 (bif (ieq y1.2 (0)) then
 (Option.bind (F14 FUEL) fun y13 =>
 some y13)
 else (bif (ieq y1.2 (2)) then
 (bif (ieq y1.1 (0)) then
 (Option.bind (F14 FUEL) fun y14 =>
 some y14)
 else (some false))
 else (some false)))
 else (some false)))
 else (bif (beqb (ieq y1.2 (0)) false) then
 (bif (ieq y1.2 (0)) then
 (Option.bind (F14 FUEL) fun y15 =>
 some y15)
 else (bif (ieq y1.2 (2)) then
 (bif (ieq y1.1 (0)) then
 (Option.bind (F14 FUEL) fun y16 =>
 some y16)
 else (some false))
 else (some false)))
 else (some false)))
 else (bif (beqb (ieq y1.2 (0)) false) then
 (bif (ieq y1.2 (0)) then
 (Option.bind (F14 FUEL) fun y17 =>
 some y17)
 else (bif (ieq y1.2 (2)) then
 (bif (ieq y1.1 (0)) then
 (Option.bind (F14 FUEL) fun y18 =>
 some y18)
 else (some false))
 else (some false)))
 else (some false)))
 else (bif (ieq a0 a1) then
 (bif (bneb (ieq y1.1 y2.1) (ieq a2 a3)) then
 (some false)
 else (bif (ieq a0 a1) then
 (Option.bind (F14 FUEL) fun y19 =>
 some y19)
 else (Option.bind (F19 FUEL (2) y1.1 a0 a1 (0) false false (0) (0) [] ByteArray.empty (0) (0) false (0)) fun y20 =>
 bif y20 then
 (Option.bind (F19 FUEL (8) y2.1 a0 a1 (0) false false (0) (0) [] ByteArray.empty (0) (0) false (0)) fun y21 =>
 bif y21 then
 (Option.bind (F19 FUEL (2) y2.1 a0 a1 (0) false false (0) (0) [] ByteArray.empty (0) (0) false (0)) fun y22 =>
 bif (!y22) then
 (Option.bind (F19 FUEL (8) y1.1 a0 a1 (0) false false (0) (0) [] ByteArray.empty (0) (0) false (0)) fun y23 =>
 bif (!y23) then
 (Option.bind (F14 FUEL) fun y24 =>
 some y24)
 else (some false))
 else (some false))
 else (some false))
 else (some false))))
 else (bif (bneb (ieq y1.1 y2.1) false) then
 (some false)
 else (bif (ieq a0 a1) then
 (Option.bind (F14 FUEL) fun y25 =>
 some y25)
 else (Option.bind (F19 FUEL (2) y1.1 a0 a1 (0) false false (0) (0) [] ByteArray.empty (0) (0) false (0)) fun y26 =>
 bif y26 then
 (Option.bind (F19 FUEL (8) y2.1 a0 a1 (0) false false (0) (0) [] ByteArray.empty (0) (0) false (0)) fun y27 =>
 bif y27 then
 (Option.bind (F19 FUEL (2) y2.1 a0 a1 (0) false false (0) (0) [] ByteArray.empty (0) (0) false (0)) fun y28 =>
 bif (!y28) then
 (Option.bind (F19 FUEL (8) y1.1 a0 a1 (0) false false (0) (0) [] ByteArray.empty (0) (0) false (0)) fun y29 =>
 bif (!y29) then
 (Option.bind (F14 FUEL) fun y30 =>
 some y30)
 else (some false))
 else (some false))
 else (some false))
 else (some false))))))

/-! ### garland/garlandlaw06.MsgLists -/
mutual
def F7_c0 : Nat → List (Int) → Int → Int → Int → Bool → Int → Option (Bool)
  | 0, _, _, _, _, _, _ => none
  | n + 1, x0, x1, x2, x3, x4, x5 => bif (ilt x5 (ofN (List.length x0))) then
 (bif x4 then
 (bif (inb x5 (List.length x0)) then
 (bif (ige (List.getD x0 (Int.toNat x5) 0) (0)) then
 (bif (inb x5 (List.length x0)) then
 (bif (ilt (List.getD x0 (Int.toNat x5) 0) (65536)) then
 (bif (inb x5 (List.length x0)) then
 (F7_c1 n x0 x1 x2 x3 (ine (List.getD x0 (Int.toNat x5) 0) x1) x5 (0))
 else (none))
 else (F7_c1 n x0 x1 x2 x3 false x5 (0)))
 else (none))
 else (F7_c1 n x0 x1 x2 x3 false x5 (0)))
 else (none))
 else (F7_c1 n x0 x1 x2 x3 false x5 (0)))
 else (Option.bind (F29 FUEL (7) (iadd .i64 (imul .i64 x3 (1048576)) (1)) x1 x3 (0) false false (0) x2 x0 ByteArray.empty (0) (0) false (0)) fun y4 =>
 Option.bind (F19 FUEL (7) (iadd .i64 (imul .i64 x3 (1048576)) (1)) x1 x3 (0) false false (0) x2 x0 ByteArray.empty (0) (0) false (0)) fun y5 =>
 bif (beqb y5 x4) then
 (bif (ieq (ofN (List.length y4.q14)) (ofN (List.length x0))) then
 (Option.bind (F28 FUEL y4.q0 y4.q1 y4.q2 y4.q3 y4.q4 y4.q5 y4.q6 y4.q7 y4.q8 y4.q14 y4.q9 y4.q10 y4.q11 y4.q12 y4.q13 (7) (iadd .i64 (imul .i64 x3 (1048576)) (1)) x1 x3 (0) false false (0) x2 x0 ByteArray.empty (0) (0) false (0)) fun y6 =>
 bif y6 then
 (Option.bind (F14 FUEL) fun y7 =>
 some y7)
 else (some false))
 else (some false))
 else (some false))
def F7_c1 : Nat → List (Int) → Int → Int → Int → Bool → Int → Int → Option (Bool)
  | 0, _, _, _, _, _, _, _ => none
  | n + 1, x0, x1, x2, x3, x4, x5, x6 => bif (ilt x6 x5) then
 (bif x4 then
 (bif (inb x5 (List.length x0)) then
 (bif (inb x6 (List.length x0)) then
 (F7_c1 n x0 x1 x2 x3 (ine (List.getD x0 (Int.toNat x5) 0) (List.getD x0 (Int.toNat x6) 0)) x5 (iadd .i64 x6 (1)))
 else (none))
 else (none))
 else (F7_c1 n x0 x1 x2 x3 false x5 (iadd .i64 x6 (1))))
 else (F7_c0 n x0 x1 x2 x3 x4 (iadd .i64 x5 (1)))
end
def F7 (n : Nat) (a0 : List (Int)) (a1 a2 : Int) : Option (Bool) :=
  bif (igt (ofN (List.length a0)) (6)) then
 (Option.bind (F14 FUEL) fun y1 =>
 some y1)
 else (bif (ilt a1 (0)) then
 (Option.bind (F14 FUEL) fun y2 =>
 some y2)
 else (bif (igt a1 (65535)) then
 (Option.bind (F14 FUEL) fun y3 =>
 some y3)
 else (bif (inz (65536)) then
 (bif (ile (ofN (List.length a0)) (3)) then
 (bif (ige a2 (-1)) then
 (F7_c0 n a0 a1 a2 (irem (iadd .i64 a1 (1)) (65536)) (ilt a2 (65536)) (0))
 else (F7_c0 n a0 a1 a2 (irem (iadd .i64 a1 (1)) (65536)) false (0)))
 else (F7_c0 n a0 a1 a2 (irem (iadd .i64 a1 (1)) (65536)) false (0)))
 else (none))))

end Go.Proofs.Ythaomidjgadieaa
