/-
  What the functions of this program compute, in plain words.
-/
import Derived.Test.YtcbhmedknbiffaaDoorEvR
namespace Go.Proofs.YtcbhmedknbiffaaDoor
open Go Go.RowKit
set_option maxRecDepth 100000


/-! ### garland/calls.New -/
def F7_c0 : Nat → Int → Int → Option (Int × Int × Int)
  | 0, _, _ => none
  | _ + 1, _, _ => some ((0), (0), (2))
def F7 (n : Nat) (a0 : Int) : Option (Int × Int × Int) :=
  bif (ilt a0 (0)) then
 (F7_c0 n (0) (0))
 else (bif (ige a0 (65536)) then
 (F7_c0 n (0) (0))
 else (some (a0, (0), (0))))

/-! ### garland/msg.isPlace -/
def F52 (_n : Nat) (a0 : Int) : Option (Bool) :=
  bif (ige a0 (0)) then
 (some (ilt a0 (65536)))
 else (some false)

/-! ### garland/msg.Call -/
def F28_c0 : Nat → Option (Int × Int)
  | 0 => none
  | _ + 1 => some ((0), (2))
def F28 (n : Nat) (a0 a1 : Int) : Option (Int × Int) :=
  Option.bind (F52 FUEL a0) fun y1 =>
 bif (!y1) then
 (F28_c0 n )
 else (bif (ilt a1 (1)) then
 (F28_c0 n )
 else (bif (igt a1 (1048576)) then
 (F28_c0 n )
 else (some ((iadd .i64 (imul .i64 a0 (1048576)) a1), (0)))))

/-! ### garland/msg.Asks -/
def F30 (_n : Nat) (a0 _a1 _a2 _a3 _a4 : Int) (_a5 _a6 : Bool) (_a7 _a8 : Int) (_a9 : List (Int)) (_a10 : ByteArray) (_a11 _a12 : Int) (_a13 : Bool) (_a14 : Int) : Option (Bool) :=
  bif (ige a0 (1)) then
 (some (ile a0 (6)))
 else (some false)

/-! ### garland/msg.isKey -/
def F66 (_n : Nat) (a0 : ByteArray) : Option (Bool) :=
  bif (ige (stlen a0) (1)) then
 (some (ile (stlen a0) (20)))
 else (some false)

/-! ### garland/msg.isValue -/
def F72 (_n : Nat) (a0 : Int) : Option (Bool) :=
  bif (ige a0 (0)) then
 (some (ile a0 (1048576)))
 else (some false)

/-! ### garland/msg.Pair -/
def F65 (_n : Nat) (a0 : ByteArray) (a1 a2 : Int) (_a3 : Bool) : Option (Bool) :=
  Option.bind (F66 FUEL a0) fun y1 =>
 bif y1 then
 (Option.bind (F72 FUEL a1) fun y2 =>
 bif y2 then
 (Option.bind (F72 FUEL a2) fun y3 =>
 some y3)
 else (some false))
 else (some false)

/-! ### slices.Index[[]int,int] -/
def F74_c0 : Nat → List (Int) → Int → Int → Int → Option (Int)
  | 0, _, _, _, _ => none
  | n + 1, x0, x1, x2, x3 => bif (ilt x3 x2) then
 (bif (inb x3 (List.length x0)) then
 (bif (ieq x1 (List.getD x0 (Int.toNat x3) 0)) then
 (some x3)
 else (F74_c0 n x0 x1 x2 (iadd .i64 x3 (1))))
 else (none))
 else (some (-1))
def F74 (n : Nat) (a0 : List (Int)) (a1 : Int) : Option (Int) :=
  F74_c0 n a0 a1 (ofN (List.length a0)) (0)

/-! ### slices.Contains[[]int,int] -/
def F73 (_n : Nat) (a0 : List (Int)) (a1 : Int) : Option (Bool) :=
  Option.bind (F74 FUEL a0 a1) fun y1 =>
 some (ige y1 (0))

/-! ### garland/msg.apart -/
def F67_c0 : Nat → Int → List (Int) → List (Int) → Int → Int → Option (Bool)
  | 0, _, _, _, _, _ => none
  | n + 1, x0, x1, x2, x3, x4 => bif (ilt x4 x3) then
 (bif (inb x4 (List.length x2)) then
 (bif (ieq (List.getD x2 (Int.toNat x4) 0) x0) then
 (some false)
 else (bif ((inn x4) && (inbs 0 (Int.toNat x4) (List.length x1))) then
 (Option.bind (F73 FUEL (List.drop 0 (List.take (Int.toNat x4) x1)) (List.getD x2 (Int.toNat x4) 0)) fun y1 =>
 bif y1 then
 (some false)
 else (F67_c0 n x0 x1 x2 x3 (iadd .i64 x4 (1))))
 else (none)))
 else (none))
 else (some true)
def F67 (n : Nat) (a0 : Int) (a1 : List (Int)) : Option (Bool) :=
  F67_c0 n a0 a1 a1 (ofN (List.length a1)) (0)

/-! ### garland/msg.holds -/
def F53 (_n : Nat) (a0 _a1 a2 _a3 _a4 : Int) (_a5 _a6 : Bool) (_a7 _a8 : Int) (a9 : List (Int)) (a10 : ByteArray) (a11 a12 : Int) (a13 : Bool) (a14 : Int) : Option (Bool) :=
  bif (ieq a0 (5)) then
 (Option.bind (F65 FUEL a10 a11 a12 a13) fun y1 =>
 some y1)
 else (bif (ieq a0 (6)) then
 (Option.bind (F66 FUEL a10) fun y2 =>
 some y2)
 else (bif (ieq a0 (7)) then
 (bif (ile (ofN (List.length a9)) (3)) then
 (Option.bind (F67 FUEL a2 a9) fun y3 =>
 some y3)
 else (some false))
 else (bif (ieq a0 (11)) then
 (bif (ieq a14 (0)) then
 (some true)
 else (some (ieq a14 (200))))
 else (bif (ieq a0 (12)) then
 (bif (ieq a14 (0)) then
 (Option.bind (F65 FUEL a10 a11 a12 a13) fun y4 =>
 bif y4 then
 (some true)
 else (bif (ieq a14 (201)) then
 (some ((steq a10 ByteArray.empty) && ((ieq a11 (0)) && ((ieq a12 (0)) && ((beqb a13 false) && true)))))
 else (some false)))
 else (bif (ieq a14 (201)) then
 (some ((steq a10 ByteArray.empty) && ((ieq a11 (0)) && ((ieq a12 (0)) && ((beqb a13 false) && true)))))
 else (some false)))
 else (some true)))))

/-! ### garland/msg.Asker -/
def F56 (_n : Nat) (a0 a1 a2 a3 a4 : Int) (a5 a6 : Bool) (a7 a8 : Int) (a9 : List (Int)) (a10 : ByteArray) (a11 a12 : Int) (a13 : Bool) (a14 : Int) : Option (Int) :=
  Option.bind (F30 FUEL a0 a1 a2 a3 a4 a5 a6 a7 a8 a9 a10 a11 a12 a13 a14) fun y1 =>
 bif y1 then
 (some a2)
 else (some a3)

/-! ### garland/msg.isCall -/
def F55 (_n : Nat) (a0 a1 : Int) : Option (Bool) :=
  bif (igt a1 (imul .i64 a0 (1048576))) then
 (some (ile a1 (imul .i64 (iadd .i64 a0 (1)) (1048576))))
 else (some false)

/-! ### garland/msg.beside -/
structure Sbi5b2i2si2bi where
  q0 : Bool
  q1 : Int
  q2 : Int
  q3 : Int
  q4 : Int
  q5 : Int
  q6 : Bool
  q7 : Bool
  q8 : Int
  q9 : Int
  q10 : ByteArray
  q11 : Int
  q12 : Int
  q13 : Bool
  q14 : Int
def F58 (_n : Nat) (a0 _a1 _a2 _a3 a4 : Int) (a5 a6 : Bool) (a7 a8 : Int) (a9 : ByteArray) (a10 a11 : Int) (a12 : Bool) (a13 : Int) : Option (Sbi5b2i2si2bi) :=
  bif (ieq a0 (4)) then
 (some ⟨true, (0), (0), (0), (0), (0), false, a6, a7, a8, a9, a10, a11, a12, a13⟩)
 else (bif (ieq a0 (5)) then
 (some ⟨true, (0), (0), (0), (0), a4, a5, a6, a7, a8, ByteArray.empty, (0), (0), false, a13⟩)
 else (bif (ieq a0 (6)) then
 (some ⟨true, (0), (0), (0), (0), a4, a5, a6, a7, a8, ByteArray.empty, a10, a11, a12, a13⟩)
 else (bif (ieq a0 (7)) then
 (some ⟨false, (0), (0), (0), (0), a4, a5, a6, a7, (0), a9, a10, a11, a12, a13⟩)
 else (bif (ieq a0 (10)) then
 (some ⟨true, (0), (0), (0), (0), a4, a5, false, (0), a8, a9, a10, a11, a12, a13⟩)
 else (bif (ieq a0 (11)) then
 (some ⟨true, (0), (0), (0), (0), a4, a5, a6, a7, a8, a9, a10, a11, a12, (0)⟩)
 else (bif (ieq a0 (12)) then
 (some ⟨true, (0), (0), (0), (0), a4, a5, a6, a7, a8, ByteArray.empty, (0), (0), false, (0)⟩)
 else (some ⟨true, (0), (0), (0), (0), a4, a5, a6, a7, a8, a9, a10, a11, a12, a13⟩)))))))

/-! ### slices.Equal[[]int,int] -/
def F69_c0 : Nat → List (Int) → List (Int) → Int → Int → Option (Bool)
  | 0, _, _, _, _ => none
  | n + 1, x0, x1, x2, x3 => bif (ilt x3 x2) then
 (bif (inb x3 (List.length x0)) then
 (bif (inb x3 (List.length x1)) then
 (bif (ine (List.getD x0 (Int.toNat x3) 0) (List.getD x1 (Int.toNat x3) 0)) then
 (some false)
 else (F69_c0 n x0 x1 x2 (iadd .i64 x3 (1))))
 else (none))
 else (none))
 else (some true)
def F69 (n : Nat) (a0 a1 : List (Int)) : Option (Bool) :=
  bif (ine (ofN (List.length a0)) (ofN (List.length a1))) then
 (some false)
 else (F69_c0 n a0 a1 (ofN (List.length a0)) (0))

/-! ### garland/msg.Same -/
def F57 (_n : Nat) (a0 a1 a2 a3 a4 : Int) (a5 a6 : Bool) (a7 a8 : Int) (a9 : List (Int)) (a10 : ByteArray) (a11 a12 : Int) (a13 : Bool) (a14 a15 a16 a17 a18 a19 : Int) (a20 a21 : Bool) (a22 a23 : Int) (a24 : List (Int)) (a25 : ByteArray) (a26 a27 : Int) (a28 : Bool) (a29 : Int) : Option (Bool) :=
  bif (ieq a0 a15) then
 (bif (ieq a1 a16) then
 (bif (ieq a2 a17) then
 (bif (ieq a3 a18) then
 (bif (ieq a4 a19) then
 (bif (beqb a5 a20) then
 (bif (beqb a6 a21) then
 (bif (ieq a7 a22) then
 (bif (ieq a8 a23) then
 (Option.bind (F69 FUEL a9 a24) fun y1 =>
 bif y1 then
 (bif ((steq a10 a25) && ((ieq a11 a26) && ((ieq a12 a27) && ((beqb a13 a28) && true)))) then
 (some (ieq a14 a29))
 else (some false))
 else (some false))
 else (some false))
 else (some false))
 else (some false))
 else (some false))
 else (some false))
 else (some false))
 else (some false))
 else (some false))
 else (some false)

/-! ### garland/msg.Right -/
mutual
def F31_c0 : Nat → Option (Bool)
  | 0 => none
  | _ + 1 => some false
def F31_c1 : Nat → List (Int) → Int → Int → Int → Int → Int → Int → Int → Bool → Bool → Int → Int → List (Int) → ByteArray → Int → Int → Bool → Int → Option (Bool)
  | 0, _, _, _, _, _, _, _, _, _, _, _, _, _, _, _, _, _, _ => none
  | n + 1, x0, x1, x2, x3, x4, x5, x6, x7, x8, x9, x10, x11, x12, x13, x14, x15, x16, x17 => bif (ilt x2 x1) then
 (bif (inb x2 (List.length x0)) then
 (Option.bind (F52 FUEL (List.getD x0 (Int.toNat x2) 0)) fun y22 =>
 bif (!y22) then
 (F31_c0 n )
 else (F31_c1 n x0 x1 (iadd .i64 x2 (1)) x3 x4 x5 x6 x7 x8 x9 x10 x11 x12 x13 x14 x15 x16 x17))
 else (none))
 else (bif (ieq x5 x6) then
 (F31_c0 n )
 else (Option.bind (F56 FUEL x3 x4 x5 x6 x7 x8 x9 x10 x11 x12 x13 x14 x15 x16 x17) fun y23 =>
 Option.bind (F55 FUEL y23 x4) fun y24 =>
 bif (!y24) then
 (F31_c0 n )
 else (Option.bind (F58 FUEL x3 x4 x5 x6 x7 x8 x9 x10 x11 x13 x14 x15 x16 x17) fun y25 =>
 bif y25.q0 then
 (Option.bind (F57 FUEL y25.q1 y25.q2 y25.q3 y25.q4 y25.q5 y25.q6 y25.q7 y25.q8 y25.q9 x12 y25.q10 y25.q11 y25.q12 y25.q13 y25.q14 (0) (0) (0) (0) (0) false false (0) (0) [] ByteArray.empty (0) (0) false (0)) fun y26 =>
 some y26)
 else (Option.bind (F57 FUEL y25.q1 y25.q2 y25.q3 y25.q4 y25.q5 y25.q6 y25.q7 y25.q8 y25.q9 [] y25.q10 y25.q11 y25.q12 y25.q13 y25.q14 (0) (0) (0) (0) (0) false false (0) (0) [] ByteArray.empty (0) (0) false (0)) fun y27 =>
 some y27))))
end
def F31 (n : Nat) (a0 a1 a2 a3 a4 : Int) (a5 a6 : Bool) (a7 a8 : Int) (a9 : List (Int)) (a10 : ByteArray) (a11 a12 : Int) (a13 : Bool) (a14 : Int) : Option (Bool) :=
  bif (ilt a0 (1)) then
 (F31_c0 n )
 else (bif (ige a0 (13)) then
 (F31_c0 n )
 else (Option.bind (F53 FUEL a0 a1 a2 a3 a4 a5 a6 a7 a8 a9 a10 a11 a12 a13 a14) fun y1 =>
 bif (!y1) then
 (F31_c0 n )
 else (Option.bind (F52 FUEL a2) fun y2 =>
 bif (!y2) then
 (F31_c0 n )
 else (Option.bind (F52 FUEL a3) fun y3 =>
 bif (!y3) then
 (F31_c0 n )
 else (bif (ieq a0 (4)) then
 (Option.bind (F52 FUEL a4) fun y4 =>
 bif (!y4) then
 (F31_c0 n )
 else (bif (ieq a2 a3) then
 (F31_c0 n )
 else (Option.bind (F56 FUEL a0 a1 a2 a3 a4 a5 a6 a7 a8 a9 a10 a11 a12 a13 a14) fun y5 =>
 Option.bind (F55 FUEL y5 a1) fun y6 =>
 bif (!y6) then
 (F31_c0 n )
 else (Option.bind (F58 FUEL a0 a1 a2 a3 a4 a5 a6 a7 a8 a10 a11 a12 a13 a14) fun y7 =>
 bif y7.q0 then
 (Option.bind (F57 FUEL y7.q1 y7.q2 y7.q3 y7.q4 y7.q5 y7.q6 y7.q7 y7.q8 y7.q9 a9 y7.q10 y7.q11 y7.q12 y7.q13 y7.q14 (0) (0) (0) (0) (0) false false (0) (0) [] ByteArray.empty (0) (0) false (0)) fun y8 =>
 some y8)
 else (Option.bind (F57 FUEL y7.q1 y7.q2 y7.q3 y7.q4 y7.q5 y7.q6 y7.q7 y7.q8 y7.q9 [] y7.q10 y7.q11 y7.q12 y7.q13 y7.q14 (0) (0) (0) (0) (0) false false (0) (0) [] ByteArray.empty (0) (0) false (0)) fun y9 =>
 some y9)))))
 else (bif (ieq a0 (10)) then
 (Option.bind (F52 FUEL a7) fun y10 =>
 bif (!y10) then
 (F31_c0 n )
 else (bif (ieq a2 a3) then
 (F31_c0 n )
 else (Option.bind (F56 FUEL a0 a1 a2 a3 a4 a5 a6 a7 a8 a9 a10 a11 a12 a13 a14) fun y11 =>
 Option.bind (F55 FUEL y11 a1) fun y12 =>
 bif (!y12) then
 (F31_c0 n )
 else (Option.bind (F58 FUEL a0 a1 a2 a3 a4 a5 a6 a7 a8 a10 a11 a12 a13 a14) fun y13 =>
 bif y13.q0 then
 (Option.bind (F57 FUEL y13.q1 y13.q2 y13.q3 y13.q4 y13.q5 y13.q6 y13.q7 y13.q8 y13.q9 a9 y13.q10 y13.q11 y13.q12 y13.q13 y13.q14 (0) (0) (0) (0) (0) false false (0) (0) [] ByteArray.empty (0) (0) false (0)) fun y14 =>
 some y14)
 else (Option.bind (F57 FUEL y13.q1 y13.q2 y13.q3 y13.q4 y13.q5 y13.q6 y13.q7 y13.q8 y13.q9 [] y13.q10 y13.q11 y13.q12 y13.q13 y13.q14 (0) (0) (0) (0) (0) false false (0) (0) [] ByteArray.empty (0) (0) false (0)) fun y15 =>
 some y15)))))
 else (bif (ieq a0 (7)) then
 (bif (ine a8 (-1)) then
 (Option.bind (F52 FUEL a8) fun y16 =>
 bif (!y16) then
 (F31_c0 n )
 else (F31_c1 n a9 (ofN (List.length a9)) (0) a0 a1 a2 a3 a4 a5 a6 a7 a8 a9 a10 a11 a12 a13 a14))
 else (F31_c1 n a9 (ofN (List.length a9)) (0) a0 a1 a2 a3 a4 a5 a6 a7 a8 a9 a10 a11 a12 a13 a14))
 else (bif (ieq a2 a3) then
 (F31_c0 n )
 else (Option.bind (F56 FUEL a0 a1 a2 a3 a4 a5 a6 a7 a8 a9 a10 a11 a12 a13 a14) fun y17 =>
 Option.bind (F55 FUEL y17 a1) fun y18 =>
 bif (!y18) then
 (F31_c0 n )
 else (Option.bind (F58 FUEL a0 a1 a2 a3 a4 a5 a6 a7 a8 a10 a11 a12 a13 a14) fun y19 =>
 bif y19.q0 then
 (Option.bind (F57 FUEL y19.q1 y19.q2 y19.q3 y19.q4 y19.q5 y19.q6 y19.q7 y19.q8 y19.q9 a9 y19.q10 y19.q11 y19.q12 y19.q13 y19.q14 (0) (0) (0) (0) (0) false false (0) (0) [] ByteArray.empty (0) (0) false (0)) fun y20 =>
 some y20)
 else (Option.bind (F57 FUEL y19.q1 y19.q2 y19.q3 y19.q4 y19.q5 y19.q6 y19.q7 y19.q8 y19.q9 [] y19.q10 y19.q11 y19.q12 y19.q13 y19.q14 (0) (0) (0) (0) (0) false false (0) (0) [] ByteArray.empty (0) (0) false (0)) fun y21 =>
 some y21)))))))))))

/-! ### garland/calls.isTime -/
def F29 (_n : Nat) (a0 : Int) : Option (Bool) :=
  bif (ige a0 (0)) then
 (some (ile a0 (1099511627776)))
 else (some false)

/-! ### garland/calls.isCall -/
def F44 (_n : Nat) (a0 a1 : Int) (_a2 : List (Int × Int × Int × Int × Int × Int × Bool × Bool × Int × Int × (List (Int)) × ByteArray × Int × Int × Bool × Int × Int × Int × Int × Int)) (a3 a4 a5 a6 a7 a8 : Int) (a9 a10 : Bool) (a11 a12 : Int) (a13 : List (Int)) (a14 : ByteArray) (a15 a16 : Int) (a17 : Bool) (a18 _a19 _a20 a21 a22 : Int) : Option (Bool) :=
  Option.bind (F28 FUEL a0 (1)) fun y1 =>
 bif (ine y1.2 (0)) then
 (some false)
 else (bif (ilt a3 y1.1) then
 (some false)
 else (bif (ige a3 (iadd .i64 y1.1 a1)) then
 (some false)
 else (bif (ieq a5 a3) then
 (bif (ieq a6 a0) then
 (Option.bind (F30 FUEL a4 a5 a6 a7 a8 a9 a10 a11 a12 a13 a14 a15 a16 a17 a18) fun y2 =>
 bif y2 then
 (Option.bind (F31 FUEL a4 a5 a6 a7 a8 a9 a10 a11 a12 a13 a14 a15 a16 a17 a18) fun y3 =>
 bif y3 then
 (bif (ige a22 (1)) then
 (bif (ile a22 (3)) then
 (Option.bind (F29 FUEL a21) fun y4 =>
 some y4)
 else (some false))
 else (some false))
 else (some false))
 else (some false))
 else (some false))
 else (some false))))

/-! ### garland/calls.Right -/
mutual
def F17_c0 : Nat → Option (Bool)
  | 0 => none
  | _ + 1 => some false
def F17_c1 : Nat → Int → List (Int × Int × Int × Int × Int × Int × Bool × Bool × Int × Int × (List (Int)) × ByteArray × Int × Int × Bool × Int × Int × Int × Int × Int) → Int → Int → Int → Int → List (Int × Int × Int × Int × Int × Int × Bool × Bool × Int × Int × (List (Int)) × ByteArray × Int × Int × Bool × Int × Int × Int × Int × Int) → Option (Bool)
  | 0, _, _, _, _, _, _, _ => none
  | n + 1, x0, x1, x2, x3, x4, x5, x6 => bif (ilt x3 x2) then
 (bif (inb x3 (List.length x1)) then
 (bif (ile (List.getD x1 (Int.toNat x3) (0, 0, 0, 0, 0, 0, false, false, 0, 0, [], ByteArray.empty, 0, 0, false, 0, 0, 0, 0, 0)).1 x0) then
 (F17_c0 n )
 else (Option.bind (F44 FUEL x4 x5 x6 (List.getD x1 (Int.toNat x3) (0, 0, 0, 0, 0, 0, false, false, 0, 0, [], ByteArray.empty, 0, 0, false, 0, 0, 0, 0, 0)).1 (List.getD x1 (Int.toNat x3) (0, 0, 0, 0, 0, 0, false, false, 0, 0, [], ByteArray.empty, 0, 0, false, 0, 0, 0, 0, 0)).2.1 (List.getD x1 (Int.toNat x3) (0, 0, 0, 0, 0, 0, false, false, 0, 0, [], ByteArray.empty, 0, 0, false, 0, 0, 0, 0, 0)).2.2.1 (List.getD x1 (Int.toNat x3) (0, 0, 0, 0, 0, 0, false, false, 0, 0, [], ByteArray.empty, 0, 0, false, 0, 0, 0, 0, 0)).2.2.2.1 (List.getD x1 (Int.toNat x3) (0, 0, 0, 0, 0, 0, false, false, 0, 0, [], ByteArray.empty, 0, 0, false, 0, 0, 0, 0, 0)).2.2.2.2.1 (List.getD x1 (Int.toNat x3) (0, 0, 0, 0, 0, 0, false, false, 0, 0, [], ByteArray.empty, 0, 0, false, 0, 0, 0, 0, 0)).2.2.2.2.2.1 (List.getD x1 (Int.toNat x3) (0, 0, 0, 0, 0, 0, false, false, 0, 0, [], ByteArray.empty, 0, 0, false, 0, 0, 0, 0, 0)).2.2.2.2.2.2.1 (List.getD x1 (Int.toNat x3) (0, 0, 0, 0, 0, 0, false, false, 0, 0, [], ByteArray.empty, 0, 0, false, 0, 0, 0, 0, 0)).2.2.2.2.2.2.2.1 (List.getD x1 (Int.toNat x3) (0, 0, 0, 0, 0, 0, false, false, 0, 0, [], ByteArray.empty, 0, 0, false, 0, 0, 0, 0, 0)).2.2.2.2.2.2.2.2.1 (List.getD x1 (Int.toNat x3) (0, 0, 0, 0, 0, 0, false, false, 0, 0, [], ByteArray.empty, 0, 0, false, 0, 0, 0, 0, 0)).2.2.2.2.2.2.2.2.2.1 (List.getD x1 (Int.toNat x3) (0, 0, 0, 0, 0, 0, false, false, 0, 0, [], ByteArray.empty, 0, 0, false, 0, 0, 0, 0, 0)).2.2.2.2.2.2.2.2.2.2.1 (List.getD x1 (Int.toNat x3) (0, 0, 0, 0, 0, 0, false, false, 0, 0, [], ByteArray.empty, 0, 0, false, 0, 0, 0, 0, 0)).2.2.2.2.2.2.2.2.2.2.2.1 (List.getD x1 (Int.toNat x3) (0, 0, 0, 0, 0, 0, false, false, 0, 0, [], ByteArray.empty, 0, 0, false, 0, 0, 0, 0, 0)).2.2.2.2.2.2.2.2.2.2.2.2.1 (List.getD x1 (Int.toNat x3) (0, 0, 0, 0, 0, 0, false, false, 0, 0, [], ByteArray.empty, 0, 0, false, 0, 0, 0, 0, 0)).2.2.2.2.2.2.2.2.2.2.2.2.2.1 (List.getD x1 (Int.toNat x3) (0, 0, 0, 0, 0, 0, false, false, 0, 0, [], ByteArray.empty, 0, 0, false, 0, 0, 0, 0, 0)).2.2.2.2.2.2.2.2.2.2.2.2.2.2.1 (List.getD x1 (Int.toNat x3) (0, 0, 0, 0, 0, 0, false, false, 0, 0, [], ByteArray.empty, 0, 0, false, 0, 0, 0, 0, 0)).2.2.2.2.2.2.2.2.2.2.2.2.2.2.2.1 (List.getD x1 (Int.toNat x3) (0, 0, 0, 0, 0, 0, false, false, 0, 0, [], ByteArray.empty, 0, 0, false, 0, 0, 0, 0, 0)).2.2.2.2.2.2.2.2.2.2.2.2.2.2.2.2.1 (List.getD x1 (Int.toNat x3) (0, 0, 0, 0, 0, 0, false, false, 0, 0, [], ByteArray.empty, 0, 0, false, 0, 0, 0, 0, 0)).2.2.2.2.2.2.2.2.2.2.2.2.2.2.2.2.2.1 (List.getD x1 (Int.toNat x3) (0, 0, 0, 0, 0, 0, false, false, 0, 0, [], ByteArray.empty, 0, 0, false, 0, 0, 0, 0, 0)).2.2.2.2.2.2.2.2.2.2.2.2.2.2.2.2.2.2.1 (List.getD x1 (Int.toNat x3) (0, 0, 0, 0, 0, 0, false, false, 0, 0, [], ByteArray.empty, 0, 0, false, 0, 0, 0, 0, 0)).2.2.2.2.2.2.2.2.2.2.2.2.2.2.2.2.2.2.2) fun y1 =>
 bif (!y1) then
 (F17_c0 n )
 else (F17_c1 n (List.getD x1 (Int.toNat x3) (0, 0, 0, 0, 0, 0, false, false, 0, 0, [], ByteArray.empty, 0, 0, false, 0, 0, 0, 0, 0)).1 x1 x2 (iadd .i64 x3 (1)) x4 x5 x6)))
 else (none))
 else (some true)
end
def F17 (n : Nat) (a0 a1 : Int) (a2 : List (Int × Int × Int × Int × Int × Int × Bool × Bool × Int × Int × (List (Int)) × ByteArray × Int × Int × Bool × Int × Int × Int × Int × Int)) : Option (Bool) :=
  bif (ilt a0 (0)) then
 (F17_c0 n )
 else (bif (ige a0 (65536)) then
 (F17_c0 n )
 else (bif (ilt a1 (0)) then
 (F17_c0 n )
 else (bif (igt a1 (1048576)) then
 (F17_c0 n )
 else (bif (igt (ofN (List.length a2)) (16)) then
 (F17_c0 n )
 else (F17_c1 n (0) a2 (ofN (List.length a2)) (0) a0 a1 a2)))))

/-! ### garland/msg.Own -/
structure Si5b2i2lsi2bi where
  q0 : Int
  q1 : Int
  q2 : Int
  q3 : Int
  q4 : Int
  q5 : Bool
  q6 : Bool
  q7 : Int
  q8 : Int
  q9 : List (Int)
  q10 : ByteArray
  q11 : Int
  q12 : Int
  q13 : Bool
  q14 : Int
def F32 (_n : Nat) (a0 a1 a2 a3 a4 : Int) (a5 a6 : Bool) (a7 a8 : Int) (a9 : List (Int)) (a10 : ByteArray) (a11 a12 : Int) (a13 : Bool) (a14 : Int) : Option (Si5b2i2lsi2bi) :=
  bif (room (List.length a9) 8) then
 (some ⟨a0, a1, a2, a3, a4, a5, a6, a7, a8, a9, a10, a11, a12, a13, a14⟩)
 else (none)

/-! ### garland/calls.ownCall -/
structure Si6b2i2lsi2bi5 where
  q0 : Int
  q1 : Int
  q2 : Int
  q3 : Int
  q4 : Int
  q5 : Int
  q6 : Bool
  q7 : Bool
  q8 : Int
  q9 : Int
  q10 : List (Int)
  q11 : ByteArray
  q12 : Int
  q13 : Int
  q14 : Bool
  q15 : Int
  q16 : Int
  q17 : Int
  q18 : Int
  q19 : Int
def F64 (_n : Nat) (a0 a1 a2 a3 a4 a5 : Int) (a6 a7 : Bool) (a8 a9 : Int) (a10 : List (Int)) (a11 : ByteArray) (a12 a13 : Int) (a14 : Bool) (a15 a16 a17 a18 a19 : Int) : Option (Si6b2i2lsi2bi5) :=
  Option.bind (F32 FUEL a1 a2 a3 a4 a5 a6 a7 a8 a9 a10 a11 a12 a13 a14 a15) fun y1 =>
 some ⟨a0, y1.q0, y1.q1, y1.q2, y1.q3, y1.q4, y1.q5, y1.q6, y1.q7, y1.q8, y1.q9, y1.q10, y1.q11, y1.q12, y1.q13, y1.q14, a16, a17, a18, a19⟩

/-! ### garland/calls.Own -/
def F27_c0 : Nat → List (Int × Int × Int × Int × Int × Int × Bool × Bool × Int × Int × (List (Int)) × ByteArray × Int × Int × Bool × Int × Int × Int × Int × Int) → Int → Int → Int → Int → Int → Int → Int → Int → List (Int × Int × Int × Int × Int × Int × Bool × Bool × Int × Int × (List (Int)) × ByteArray × Int × Int × Bool × Int × Int × Int × Int × Int) → Option (Int × Int × (List (Int × Int × Int × Int × Int × Int × Bool × Bool × Int × Int × (List (Int)) × ByteArray × Int × Int × Bool × Int × Int × Int × Int × Int)))
  | 0, _, _, _, _, _, _, _, _, _, _ => none
  | n + 1, x0, x1, x2, x3, x4, x5, x6, x7, x8, x9 => bif (ilt x2 x1) then
 (bif (inb x2 (List.length x0)) then
 (Option.bind (F64 FUEL (List.getD x0 (Int.toNat x2) (0, 0, 0, 0, 0, 0, false, false, 0, 0, [], ByteArray.empty, 0, 0, false, 0, 0, 0, 0, 0)).1 (List.getD x0 (Int.toNat x2) (0, 0, 0, 0, 0, 0, false, false, 0, 0, [], ByteArray.empty, 0, 0, false, 0, 0, 0, 0, 0)).2.1 (List.getD x0 (Int.toNat x2) (0, 0, 0, 0, 0, 0, false, false, 0, 0, [], ByteArray.empty, 0, 0, false, 0, 0, 0, 0, 0)).2.2.1 (List.getD x0 (Int.toNat x2) (0, 0, 0, 0, 0, 0, false, false, 0, 0, [], ByteArray.empty, 0, 0, false, 0, 0, 0, 0, 0)).2.2.2.1 (List.getD x0 (Int.toNat x2) (0, 0, 0, 0, 0, 0, false, false, 0, 0, [], ByteArray.empty, 0, 0, false, 0, 0, 0, 0, 0)).2.2.2.2.1 (List.getD x0 (Int.toNat x2) (0, 0, 0, 0, 0, 0, false, false, 0, 0, [], ByteArray.empty, 0, 0, false, 0, 0, 0, 0, 0)).2.2.2.2.2.1 (List.getD x0 (Int.toNat x2) (0, 0, 0, 0, 0, 0, false, false, 0, 0, [], ByteArray.empty, 0, 0, false, 0, 0, 0, 0, 0)).2.2.2.2.2.2.1 (List.getD x0 (Int.toNat x2) (0, 0, 0, 0, 0, 0, false, false, 0, 0, [], ByteArray.empty, 0, 0, false, 0, 0, 0, 0, 0)).2.2.2.2.2.2.2.1 (List.getD x0 (Int.toNat x2) (0, 0, 0, 0, 0, 0, false, false, 0, 0, [], ByteArray.empty, 0, 0, false, 0, 0, 0, 0, 0)).2.2.2.2.2.2.2.2.1 (List.getD x0 (Int.toNat x2) (0, 0, 0, 0, 0, 0, false, false, 0, 0, [], ByteArray.empty, 0, 0, false, 0, 0, 0, 0, 0)).2.2.2.2.2.2.2.2.2.1 (List.getD x0 (Int.toNat x2) (0, 0, 0, 0, 0, 0, false, false, 0, 0, [], ByteArray.empty, 0, 0, false, 0, 0, 0, 0, 0)).2.2.2.2.2.2.2.2.2.2.1 (List.getD x0 (Int.toNat x2) (0, 0, 0, 0, 0, 0, false, false, 0, 0, [], ByteArray.empty, 0, 0, false, 0, 0, 0, 0, 0)).2.2.2.2.2.2.2.2.2.2.2.1 (List.getD x0 (Int.toNat x2) (0, 0, 0, 0, 0, 0, false, false, 0, 0, [], ByteArray.empty, 0, 0, false, 0, 0, 0, 0, 0)).2.2.2.2.2.2.2.2.2.2.2.2.1 (List.getD x0 (Int.toNat x2) (0, 0, 0, 0, 0, 0, false, false, 0, 0, [], ByteArray.empty, 0, 0, false, 0, 0, 0, 0, 0)).2.2.2.2.2.2.2.2.2.2.2.2.2.1 (List.getD x0 (Int.toNat x2) (0, 0, 0, 0, 0, 0, false, false, 0, 0, [], ByteArray.empty, 0, 0, false, 0, 0, 0, 0, 0)).2.2.2.2.2.2.2.2.2.2.2.2.2.2.1 (List.getD x0 (Int.toNat x2) (0, 0, 0, 0, 0, 0, false, false, 0, 0, [], ByteArray.empty, 0, 0, false, 0, 0, 0, 0, 0)).2.2.2.2.2.2.2.2.2.2.2.2.2.2.2.1 (List.getD x0 (Int.toNat x2) (0, 0, 0, 0, 0, 0, false, false, 0, 0, [], ByteArray.empty, 0, 0, false, 0, 0, 0, 0, 0)).2.2.2.2.2.2.2.2.2.2.2.2.2.2.2.2.1 (List.getD x0 (Int.toNat x2) (0, 0, 0, 0, 0, 0, false, false, 0, 0, [], ByteArray.empty, 0, 0, false, 0, 0, 0, 0, 0)).2.2.2.2.2.2.2.2.2.2.2.2.2.2.2.2.2.1 (List.getD x0 (Int.toNat x2) (0, 0, 0, 0, 0, 0, false, false, 0, 0, [], ByteArray.empty, 0, 0, false, 0, 0, 0, 0, 0)).2.2.2.2.2.2.2.2.2.2.2.2.2.2.2.2.2.2.1 (List.getD x0 (Int.toNat x2) (0, 0, 0, 0, 0, 0, false, false, 0, 0, [], ByteArray.empty, 0, 0, false, 0, 0, 0, 0, 0)).2.2.2.2.2.2.2.2.2.2.2.2.2.2.2.2.2.2.2) fun y1 =>
 bif (room (List.length x9 + List.length [(y1.q0, y1.q1, y1.q2, y1.q3, y1.q4, y1.q5, y1.q6, y1.q7, y1.q8, y1.q9, y1.q10, y1.q11, y1.q12, y1.q13, y1.q14, y1.q15, y1.q16, y1.q17, y1.q18, y1.q19)]) 176) then
 (F27_c0 n x0 x1 (iadd .i64 x2 (1)) x3 x4 x5 x6 x7 x8 (x9 ++ [(y1.q0, y1.q1, y1.q2, y1.q3, y1.q4, y1.q5, y1.q6, y1.q7, y1.q8, y1.q9, y1.q10, y1.q11, y1.q12, y1.q13, y1.q14, y1.q15, y1.q16, y1.q17, y1.q18, y1.q19)]))
 else (none))
 else (none))
 else (some (x5, x6, x9))
def F27 (n : Nat) (a0 a1 : Int) (a2 : List (Int × Int × Int × Int × Int × Int × Bool × Bool × Int × Int × (List (Int)) × ByteArray × Int × Int × Bool × Int × Int × Int × Int × Int)) : Option (Int × Int × (List (Int × Int × Int × Int × Int × Int × Bool × Bool × Int × Int × (List (Int)) × ByteArray × Int × Int × Bool × Int × Int × Int × Int × Int))) :=
  bif (inn (0) && ile (0) (ofN (List.length a2)) && decide ((ofN (List.length a2)) * 176 ≤ 281474976710656) && decide ((ofN (List.length a2)) ≤ 9223372036854775807)) then
 (F27_c0 n a2 (ofN (List.length a2)) (0) (0) (0) a0 a1 (0) (0) (List.replicate (Int.toNat (0)) ((0), (0), (0), (0), (0), (0), false, false, (0), (0), [], ByteArray.empty, (0), (0), false, (0), (0), (0), (0), (0))))
 else (none)

/-! ### garland/calls.Open -/
structure Si7b2i2lsi2bi2l_i6b2i2lsi2bi5_ where
  q0 : Int
  q1 : Int
  q2 : Int
  q3 : Int
  q4 : Int
  q5 : Int
  q6 : Int
  q7 : Bool
  q8 : Bool
  q9 : Int
  q10 : Int
  q11 : List (Int)
  q12 : ByteArray
  q13 : Int
  q14 : Int
  q15 : Bool
  q16 : Int
  q17 : Int
  q18 : List (Int × Int × Int × Int × Int × Int × Bool × Bool × Int × Int × (List (Int)) × ByteArray × Int × Int × Bool × Int × Int × Int × Int × Int)
def F10_c0 : Nat → Int → Int → Int → List (Int × Int × Int × Int × Int × Int × Bool × Bool × Int × Int × (List (Int)) × ByteArray × Int × Int × Bool × Int × Int × Int × Int × Int) → Int → Int → Int → Int → Int → Int → Int → Bool → Bool → Int → Int → ByteArray → Int → Int → Bool → Int → Option (Si7b2i2lsi2bi2l_i6b2i2lsi2bi5_)
  | 0, _, _, _, _, _, _, _, _, _, _, _, _, _, _, _, _, _, _, _, _ => none
  | _ + 1, x0, x1, x2, x3, _, _, _, _, _, _, _, _, _, _, _, _, _, _, _, _ => Option.bind (F27 FUEL x1 x2 x3) fun y9 =>
 some ⟨y9.1, y9.2.1, (0), (0), (0), (0), (0), false, false, (0), (0), [], ByteArray.empty, (0), (0), false, (0), x0, y9.2.2⟩
def F10 (n : Nat) (a0 a1 : Int) (a2 : List (Int × Int × Int × Int × Int × Int × Bool × Bool × Int × Int × (List (Int)) × ByteArray × Int × Int × Bool × Int × Int × Int × Int × Int)) (a3 _a4 _a5 a6 a7 : Int) (a8 a9 : Bool) (a10 a11 : Int) (a12 : List (Int)) (a13 : ByteArray) (a14 a15 : Int) (a16 : Bool) (a17 a18 a19 a20 : Int) : Option (Si7b2i2lsi2bi2l_i6b2i2lsi2bi5_) :=
  Option.bind (F17 FUEL a0 a1 a2) fun y1 =>
 bif (!y1) then
 (F10_c0 n (2) a0 a1 a2 (0) (0) (0) (0) (0) (0) (0) false false (0) (0) ByteArray.empty (0) (0) false (0))
 else (bif (ieq (ofN (List.length a2)) (16)) then
 (F10_c0 n (100) a0 a1 a2 (0) (0) (0) (0) (0) (0) (0) false false (0) (0) ByteArray.empty (0) (0) false (0))
 else (bif (ieq a1 (1048576)) then
 (F10_c0 n (100) a0 a1 a2 (0) (0) (0) (0) (0) (0) (0) false false (0) (0) ByteArray.empty (0) (0) false (0))
 else (Option.bind (F28 FUEL a0 (iadd .i64 a1 (1))) fun y2 =>
 Option.bind (F29 FUEL a20) fun y3 =>
 bif (!y3) then
 (F10_c0 n (2) a0 a1 a2 (0) (0) (0) (0) (0) (0) (0) false false (0) (0) ByteArray.empty (0) (0) false (0))
 else (Option.bind (F30 FUEL a3 y2.1 a0 a6 a7 a8 a9 a10 a11 a12 a13 a14 a15 a16 a17) fun y4 =>
 bif (!y4) then
 (F10_c0 n (2) a0 a1 a2 (0) (0) (0) (0) (0) (0) (0) false false (0) (0) ByteArray.empty (0) (0) false (0))
 else (Option.bind (F31 FUEL a3 y2.1 a0 a6 a7 a8 a9 a10 a11 a12 a13 a14 a15 a16 a17) fun y5 =>
 bif (!y5) then
 (F10_c0 n (2) a0 a1 a2 (0) (0) (0) (0) (0) (0) (0) false false (0) (0) ByteArray.empty (0) (0) false (0))
 else (Option.bind (F27 FUEL a0 a1 a2) fun y6 =>
 Option.bind (F32 FUEL a3 y2.1 a0 a6 a7 a8 a9 a10 a11 a12 a13 a14 a15 a16 a17) fun y7 =>
 bif (room (List.length y6.2.2 + List.length [(y2.1, y7.q0, y7.q1, y7.q2, y7.q3, y7.q4, y7.q5, y7.q6, y7.q7, y7.q8, y7.q9, y7.q10, y7.q11, y7.q12, y7.q13, y7.q14, a18, a19, a20, (1))]) 176) then
 (Option.bind (F32 FUEL a3 y2.1 a0 a6 a7 a8 a9 a10 a11 a12 a13 a14 a15 a16 a17) fun y8 =>
 some ⟨y6.1, (iadd .i64 y6.2.1 (1)), y8.q0, y8.q1, y8.q2, y8.q3, y8.q4, y8.q5, y8.q6, y8.q7, y8.q8, y8.q9, y8.q10, y8.q11, y8.q12, y8.q13, y8.q14, (0), (y6.2.2 ++ [(y2.1, y7.q0, y7.q1, y7.q2, y7.q3, y7.q4, y7.q5, y7.q6, y7.q7, y7.q8, y7.q9, y7.q10, y7.q11, y7.q12, y7.q13, y7.q14, a18, a19, a20, (1))])⟩)
 else (none)))))))

/-! ### garland/garlandref06.Asks -/
def F37 (_n : Nat) (a0 _a1 _a2 _a3 _a4 : Int) (_a5 _a6 : Bool) (_a7 _a8 : Int) (_a9 : List (Int)) (_a10 : ByteArray) (_a11 _a12 : Int) (_a13 : Bool) (_a14 : Int) : Option (Bool) :=
  bif (ige a0 (1)) then
 (some (ile a0 (6)))
 else (some false)

/-! ### garland/garlandref06.Tell -/
structure Si5b2i2si2bi where
  q0 : Int
  q1 : Int
  q2 : Int
  q3 : Int
  q4 : Int
  q5 : Bool
  q6 : Bool
  q7 : Int
  q8 : Int
  q9 : ByteArray
  q10 : Int
  q11 : Int
  q12 : Bool
  q13 : Int
def F13 (_n : Nat) (a0 a1 a2 a3 a4 : Int) (a5 a6 : Bool) (a7 a8 : Int) (a9 : List (Int)) (a10 : ByteArray) (a11 a12 : Int) (a13 : Bool) (a14 : Int) : Option (Si5b2i2si2bi) :=
  Option.bind (F37 FUEL a0 a1 a2 a3 a4 a5 a6 a7 a8 a9 a10 a11 a12 a13 a14) fun y1 =>
 bif (!y1) then
 (some ⟨(0), (0), (0), (0), (0), false, false, (0), (0), ByteArray.empty, (0), (0), false, (0)⟩)
 else (some ⟨(iadd .u8 a0 (6)), a1, a3, a2, (0), false, false, (0), (0), ByteArray.empty, (0), (0), false, (0)⟩)

/-! ### garland/calls.isOf -/
def F40 (_n : Nat) (a0 _a1 : Int) (_a2 : List (Int × Int × Int × Int × Int × Int × Bool × Bool × Int × Int × (List (Int)) × ByteArray × Int × Int × Bool × Int × Int × Int × Int × Int)) (a3 a4 _a5 _a6 a7 _a8 : Int) (_a9 _a10 : Bool) (_a11 _a12 : Int) (_a13 : List (Int)) (_a14 : ByteArray) (_a15 _a16 : Int) (_a17 : Bool) (_a18 _a19 _a20 _a21 _a22 a23 a24 a25 a26 _a27 : Int) (_a28 _a29 : Bool) (_a30 _a31 : Int) (_a32 : List (Int)) (_a33 : ByteArray) (_a34 _a35 : Int) (_a36 : Bool) (_a37 : Int) : Option (Bool) :=
  bif (ieq a24 a3) then
 (bif (ieq a25 a7) then
 (bif (ieq a26 a0) then
 (some (ieq a23 (iadd .u8 a4 (6))))
 else (some false))
 else (some false))
 else (some false)

/-! ### garland/calls.Close -/
structure Si8b2i2lsi2bi5bl_i6b2i2lsi2bi5_ where
  q0 : Int
  q1 : Int
  q2 : Int
  q3 : Int
  q4 : Int
  q5 : Int
  q6 : Int
  q7 : Int
  q8 : Bool
  q9 : Bool
  q10 : Int
  q11 : Int
  q12 : List (Int)
  q13 : ByteArray
  q14 : Int
  q15 : Int
  q16 : Bool
  q17 : Int
  q18 : Int
  q19 : Int
  q20 : Int
  q21 : Int
  q22 : Bool
  q23 : List (Int × Int × Int × Int × Int × Int × Bool × Bool × Int × Int × (List (Int)) × ByteArray × Int × Int × Bool × Int × Int × Int × Int × Int)
mutual
def F14_c0 : Nat → Int → Int → List (Int × Int × Int × Int × Int × Int × Bool × Bool × Int × Int × (List (Int)) × ByteArray × Int × Int × Bool × Int × Int × Int × Int × Int) → Int → Int → Int → Int → Int → Int → Int → Int → Bool → Bool → Int → Int → ByteArray → Int → Int → Bool → Int → Int → Int → Int → Int → Option (Si8b2i2lsi2bi5bl_i6b2i2lsi2bi5_)
  | 0, _, _, _, _, _, _, _, _, _, _, _, _, _, _, _, _, _, _, _, _, _, _, _, _ => none
  | _ + 1, x0, x1, x2, _, _, _, _, _, _, _, _, _, _, _, _, _, _, _, _, _, _, _, _, _ => Option.bind (F27 FUEL x0 x1 x2) fun y3 =>
 some ⟨y3.1, y3.2.1, (0), (0), (0), (0), (0), (0), false, false, (0), (0), [], ByteArray.empty, (0), (0), false, (0), (0), (0), (0), (0), false, y3.2.2⟩
def F14_c1 : Nat → List (Int × Int × Int × Int × Int × Int × Bool × Bool × Int × Int × (List (Int)) × ByteArray × Int × Int × Bool × Int × Int × Int × Int × Int) → Int → Int → Int → Int → Int → Int → Int → Int → List (Int × Int × Int × Int × Int × Int × Bool × Bool × Int × Int × (List (Int)) × ByteArray × Int × Int × Bool × Int × Int × Int × Int × Int) → Int → Int → Int → Int → Int → Int → Int → Int → Bool → Bool → Int → Int → ByteArray → Int → Int → Bool → Int → Int → Int → Int → Int → Int → Int → Int → Int → Int → Int → Bool → Bool → Int → Int → List (Int) → ByteArray → Int → Int → Bool → Int → Int → Int → Int → Int → Bool → Int → Int → Int → Int → Int → Bool → Bool → Int → Int → List (Int) → ByteArray → Int → Int → Bool → Int → List (Int × Int × Int × Int × Int × Int × Bool × Bool × Int × Int × (List (Int)) × ByteArray × Int × Int × Bool × Int × Int × Int × Int × Int) → Option (Si8b2i2lsi2bi5bl_i6b2i2lsi2bi5_)
  | 0, _, _, _, _, _, _, _, _, _, _, _, _, _, _, _, _, _, _, _, _, _, _, _, _, _, _, _, _, _, _, _, _, _, _, _, _, _, _, _, _, _, _, _, _, _, _, _, _, _, _, _, _, _, _, _, _, _, _, _, _, _, _, _, _, _, _, _, _ => none
  | n + 1, x0, x1, x2, x3, x4, x5, x6, x7, x8, x9, x10, x11, x12, x13, x14, x15, x16, x17, x18, x19, x20, x21, x22, x23, x24, x25, x26, x27, x28, x29, x30, x31, x32, x33, x34, x35, x36, x37, x38, x39, x40, x41, x42, x43, x44, x45, x46, x47, x48, x49, x50, x51, x52, x53, x54, x55, x56, x57, x58, x59, x60, x61, x62, x63, x64, x65, x66, x67 => bif (ilt x2 x1) then
 (bif (inb x2 (List.length x0)) then
 (Option.bind (F64 FUEL (List.getD x0 (Int.toNat x2) (0, 0, 0, 0, 0, 0, false, false, 0, 0, [], ByteArray.empty, 0, 0, false, 0, 0, 0, 0, 0)).1 (List.getD x0 (Int.toNat x2) (0, 0, 0, 0, 0, 0, false, false, 0, 0, [], ByteArray.empty, 0, 0, false, 0, 0, 0, 0, 0)).2.1 (List.getD x0 (Int.toNat x2) (0, 0, 0, 0, 0, 0, false, false, 0, 0, [], ByteArray.empty, 0, 0, false, 0, 0, 0, 0, 0)).2.2.1 (List.getD x0 (Int.toNat x2) (0, 0, 0, 0, 0, 0, false, false, 0, 0, [], ByteArray.empty, 0, 0, false, 0, 0, 0, 0, 0)).2.2.2.1 (List.getD x0 (Int.toNat x2) (0, 0, 0, 0, 0, 0, false, false, 0, 0, [], ByteArray.empty, 0, 0, false, 0, 0, 0, 0, 0)).2.2.2.2.1 (List.getD x0 (Int.toNat x2) (0, 0, 0, 0, 0, 0, false, false, 0, 0, [], ByteArray.empty, 0, 0, false, 0, 0, 0, 0, 0)).2.2.2.2.2.1 (List.getD x0 (Int.toNat x2) (0, 0, 0, 0, 0, 0, false, false, 0, 0, [], ByteArray.empty, 0, 0, false, 0, 0, 0, 0, 0)).2.2.2.2.2.2.1 (List.getD x0 (Int.toNat x2) (0, 0, 0, 0, 0, 0, false, false, 0, 0, [], ByteArray.empty, 0, 0, false, 0, 0, 0, 0, 0)).2.2.2.2.2.2.2.1 (List.getD x0 (Int.toNat x2) (0, 0, 0, 0, 0, 0, false, false, 0, 0, [], ByteArray.empty, 0, 0, false, 0, 0, 0, 0, 0)).2.2.2.2.2.2.2.2.1 (List.getD x0 (Int.toNat x2) (0, 0, 0, 0, 0, 0, false, false, 0, 0, [], ByteArray.empty, 0, 0, false, 0, 0, 0, 0, 0)).2.2.2.2.2.2.2.2.2.1 (List.getD x0 (Int.toNat x2) (0, 0, 0, 0, 0, 0, false, false, 0, 0, [], ByteArray.empty, 0, 0, false, 0, 0, 0, 0, 0)).2.2.2.2.2.2.2.2.2.2.1 (List.getD x0 (Int.toNat x2) (0, 0, 0, 0, 0, 0, false, false, 0, 0, [], ByteArray.empty, 0, 0, false, 0, 0, 0, 0, 0)).2.2.2.2.2.2.2.2.2.2.2.1 (List.getD x0 (Int.toNat x2) (0, 0, 0, 0, 0, 0, false, false, 0, 0, [], ByteArray.empty, 0, 0, false, 0, 0, 0, 0, 0)).2.2.2.2.2.2.2.2.2.2.2.2.1 (List.getD x0 (Int.toNat x2) (0, 0, 0, 0, 0, 0, false, false, 0, 0, [], ByteArray.empty, 0, 0, false, 0, 0, 0, 0, 0)).2.2.2.2.2.2.2.2.2.2.2.2.2.1 (List.getD x0 (Int.toNat x2) (0, 0, 0, 0, 0, 0, false, false, 0, 0, [], ByteArray.empty, 0, 0, false, 0, 0, 0, 0, 0)).2.2.2.2.2.2.2.2.2.2.2.2.2.2.1 (List.getD x0 (Int.toNat x2) (0, 0, 0, 0, 0, 0, false, false, 0, 0, [], ByteArray.empty, 0, 0, false, 0, 0, 0, 0, 0)).2.2.2.2.2.2.2.2.2.2.2.2.2.2.2.1 (List.getD x0 (Int.toNat x2) (0, 0, 0, 0, 0, 0, false, false, 0, 0, [], ByteArray.empty, 0, 0, false, 0, 0, 0, 0, 0)).2.2.2.2.2.2.2.2.2.2.2.2.2.2.2.2.1 (List.getD x0 (Int.toNat x2) (0, 0, 0, 0, 0, 0, false, false, 0, 0, [], ByteArray.empty, 0, 0, false, 0, 0, 0, 0, 0)).2.2.2.2.2.2.2.2.2.2.2.2.2.2.2.2.2.1 (List.getD x0 (Int.toNat x2) (0, 0, 0, 0, 0, 0, false, false, 0, 0, [], ByteArray.empty, 0, 0, false, 0, 0, 0, 0, 0)).2.2.2.2.2.2.2.2.2.2.2.2.2.2.2.2.2.2.1 (List.getD x0 (Int.toNat x2) (0, 0, 0, 0, 0, 0, false, false, 0, 0, [], ByteArray.empty, 0, 0, false, 0, 0, 0, 0, 0)).2.2.2.2.2.2.2.2.2.2.2.2.2.2.2.2.2.2.2) fun y4 =>
 Option.bind (F40 FUEL x7 x8 x9 y4.q0 y4.q1 y4.q2 y4.q3 y4.q4 y4.q5 y4.q6 y4.q7 y4.q8 y4.q9 y4.q10 y4.q11 y4.q12 y4.q13 y4.q14 y4.q15 y4.q16 y4.q17 y4.q18 y4.q19 x52 x53 x54 x55 x56 x57 x58 x59 x60 x61 x62 x63 x64 x65 x66) fun y5 =>
 bif (!y5) then
 (bif (room (List.length x67 + List.length [(y4.q0, y4.q1, y4.q2, y4.q3, y4.q4, y4.q5, y4.q6, y4.q7, y4.q8, y4.q9, y4.q10, y4.q11, y4.q12, y4.q13, y4.q14, y4.q15, y4.q16, y4.q17, y4.q18, y4.q19)]) 176) then
 (F14_c1 n x0 x1 (iadd .i64 x2 (1)) x3 x4 x5 x6 x7 x8 x9 x10 x11 x12 x13 x14 x15 x16 x17 x18 x19 x20 x21 x22 x23 x24 x25 x26 x27 x28 x29 x30 x31 x32 x33 x34 x35 x36 x37 x38 x39 x40 x41 x42 x43 x44 x45 x46 x47 x48 x49 x50 x51 x52 x53 x54 x55 x56 x57 x58 x59 x60 x61 x62 x63 x64 x65 x66 (x67 ++ [(y4.q0, y4.q1, y4.q2, y4.q3, y4.q4, y4.q5, y4.q6, y4.q7, y4.q8, y4.q9, y4.q10, y4.q11, y4.q12, y4.q13, y4.q14, y4.q15, y4.q16, y4.q17, y4.q18, y4.q19)]))
 else (none))
 else (F14_c1 n x0 x1 (iadd .i64 x2 (1)) x3 x4 x5 x6 x7 x8 x9 x10 x11 x12 x13 x14 x15 x16 x17 x18 x19 x20 x21 x22 x23 x24 x25 x26 x27 x28 x29 x30 y4.q0 y4.q1 y4.q2 y4.q3 y4.q4 y4.q5 y4.q6 y4.q7 y4.q8 y4.q9 y4.q10 y4.q11 y4.q12 y4.q13 y4.q14 y4.q15 y4.q16 y4.q17 y4.q18 y4.q19 true x52 x53 x54 x55 x56 x57 x58 x59 x60 x61 x62 x63 x64 x65 x66 x67))
 else (none))
 else (some ⟨x5, x6, x31, x32, x33, x34, x35, x36, x37, x38, x39, x40, x41, x42, x43, x44, x45, x46, x47, x48, x49, x50, x51, x67⟩)
end
def F14 (n : Nat) (a0 a1 : Int) (a2 : List (Int × Int × Int × Int × Int × Int × Bool × Bool × Int × Int × (List (Int)) × ByteArray × Int × Int × Bool × Int × Int × Int × Int × Int)) (a3 a4 a5 a6 a7 : Int) (a8 a9 : Bool) (a10 a11 : Int) (a12 : List (Int)) (a13 : ByteArray) (a14 a15 : Int) (a16 : Bool) (a17 : Int) : Option (Si8b2i2lsi2bi5bl_i6b2i2lsi2bi5_) :=
  Option.bind (F17 FUEL a0 a1 a2) fun y1 =>
 bif (!y1) then
 (F14_c0 n a0 a1 a2 (0) (0) (0) (0) (0) (0) (0) (0) false false (0) (0) ByteArray.empty (0) (0) false (0) (0) (0) (0) (0))
 else (Option.bind (F31 FUEL a3 a4 a5 a6 a7 a8 a9 a10 a11 a12 a13 a14 a15 a16 a17) fun y2 =>
 bif (!y2) then
 (F14_c0 n a0 a1 a2 (0) (0) (0) (0) (0) (0) (0) (0) false false (0) (0) ByteArray.empty (0) (0) false (0) (0) (0) (0) (0))
 else (bif (inn (0) && ile (0) (ofN (List.length a2)) && decide ((ofN (List.length a2)) * 176 ≤ 281474976710656) && decide ((ofN (List.length a2)) ≤ 9223372036854775807)) then
 (F14_c1 n a2 (ofN (List.length a2)) (0) (0) (0) a0 a1 a0 a1 a2 (0) (0) (0) (0) (0) (0) (0) (0) false false (0) (0) ByteArray.empty (0) (0) false (0) (0) (0) (0) (0) (0) (0) (0) (0) (0) (0) false false (0) (0) [] ByteArray.empty (0) (0) false (0) (0) (0) (0) (0) false a3 a4 a5 a6 a7 a8 a9 a10 a11 a12 a13 a14 a15 a16 a17 (List.replicate (Int.toNat (0)) ((0), (0), (0), (0), (0), (0), false, false, (0), (0), [], ByteArray.empty, (0), (0), false, (0), (0), (0), (0), (0))))
 else (none)))

/-! ### garland/wait.more -/
def F70 (_n : Nat) (a0 a1 : Int) : Option (Int) :=
  some (isub .i64 a1 a0)

/-! ### garland/wait.Wait -/
def F62 (_n : Nat) (a0 : Int) : Option (Int) :=
  bif (ilt a0 (1)) then
 (some (0))
 else (bif (inb (isub .i64 (minI a0 (3)) (1)) 3) then
 (bif (nlt (Int.toNat (isub .i64 (minI a0 (3)) (1))) 3) then
 (some (List.getD [(1), (2), (4)] (Int.toNat (isub .i64 (minI a0 (3)) (1))) 0))
 else (none))
 else (none))

/-! ### garland/wait.Over -/
def F42 (_n : Nat) (a0 a1 a2 : Int) : Option (Bool) :=
  bif (ige a1 (3)) then
 (Option.bind (F70 FUEL a0 a2) fun y1 =>
 Option.bind (F62 FUEL a1) fun y2 =>
 some (ige y1 y2))
 else (some false)

/-! ### garland/wait.Due -/
def F43 (_n : Nat) (a0 a1 a2 : Int) : Option (Bool) :=
  bif (ige a1 (1)) then
 (bif (ilt a1 (3)) then
 (Option.bind (F70 FUEL a0 a2) fun y1 =>
 Option.bind (F62 FUEL a1) fun y2 =>
 some (ige y1 y2))
 else (some false))
 else (some false)

/-! ### garland/calls.Late -/
structure Si2l_i6b2i2lsi2bi5_l_i5b2i2lsi2bi_l_i6b2i2lsi2bi5_ where
  q0 : Int
  q1 : Int
  q2 : List (Int × Int × Int × Int × Int × Int × Bool × Bool × Int × Int × (List (Int)) × ByteArray × Int × Int × Bool × Int × Int × Int × Int × Int)
  q3 : List (Int × Int × Int × Int × Int × Bool × Bool × Int × Int × (List (Int)) × ByteArray × Int × Int × Bool × Int)
  q4 : List (Int × Int × Int × Int × Int × Int × Bool × Bool × Int × Int × (List (Int)) × ByteArray × Int × Int × Bool × Int × Int × Int × Int × Int)
mutual
def F16_c0 : Nat → Int → Int → List (Int × Int × Int × Int × Int × Int × Bool × Bool × Int × Int × (List (Int)) × ByteArray × Int × Int × Bool × Int × Int × Int × Int × Int) → Int → Int → Option (Si2l_i6b2i2lsi2bi5_l_i5b2i2lsi2bi_l_i6b2i2lsi2bi5_)
  | 0, _, _, _, _, _ => none
  | _ + 1, x0, x1, x2, _, _ => Option.bind (F27 FUEL x0 x1 x2) fun y3 =>
 some ⟨y3.1, y3.2.1, y3.2.2, [], []⟩
def F16_c1 : Nat → List (Int × Int × Int × Int × Int × Int × Bool × Bool × Int × Int × (List (Int)) × ByteArray × Int × Int × Bool × Int × Int × Int × Int × Int) → Int → Int → Int → Int → Int → Int → Int → Int → Int → List (Int × Int × Int × Int × Int × Int × Bool × Bool × Int × Int × (List (Int)) × ByteArray × Int × Int × Bool × Int × Int × Int × Int × Int) → List (Int × Int × Int × Int × Int × Int × Bool × Bool × Int × Int × (List (Int)) × ByteArray × Int × Int × Bool × Int × Int × Int × Int × Int) → List (Int × Int × Int × Int × Int × Bool × Bool × Int × Int × (List (Int)) × ByteArray × Int × Int × Bool × Int) → Option (Si2l_i6b2i2lsi2bi5_l_i5b2i2lsi2bi_l_i6b2i2lsi2bi5_)
  | 0, _, _, _, _, _, _, _, _, _, _, _, _, _ => none
  | n + 1, x0, x1, x2, x3, x4, x5, x6, x7, x8, x9, x10, x11, x12 => bif (ilt x2 x1) then
 (bif (inb x2 (List.length x0)) then
 (Option.bind (F64 FUEL (List.getD x0 (Int.toNat x2) (0, 0, 0, 0, 0, 0, false, false, 0, 0, [], ByteArray.empty, 0, 0, false, 0, 0, 0, 0, 0)).1 (List.getD x0 (Int.toNat x2) (0, 0, 0, 0, 0, 0, false, false, 0, 0, [], ByteArray.empty, 0, 0, false, 0, 0, 0, 0, 0)).2.1 (List.getD x0 (Int.toNat x2) (0, 0, 0, 0, 0, 0, false, false, 0, 0, [], ByteArray.empty, 0, 0, false, 0, 0, 0, 0, 0)).2.2.1 (List.getD x0 (Int.toNat x2) (0, 0, 0, 0, 0, 0, false, false, 0, 0, [], ByteArray.empty, 0, 0, false, 0, 0, 0, 0, 0)).2.2.2.1 (List.getD x0 (Int.toNat x2) (0, 0, 0, 0, 0, 0, false, false, 0, 0, [], ByteArray.empty, 0, 0, false, 0, 0, 0, 0, 0)).2.2.2.2.1 (List.getD x0 (Int.toNat x2) (0, 0, 0, 0, 0, 0, false, false, 0, 0, [], ByteArray.empty, 0, 0, false, 0, 0, 0, 0, 0)).2.2.2.2.2.1 (List.getD x0 (Int.toNat x2) (0, 0, 0, 0, 0, 0, false, false, 0, 0, [], ByteArray.empty, 0, 0, false, 0, 0, 0, 0, 0)).2.2.2.2.2.2.1 (List.getD x0 (Int.toNat x2) (0, 0, 0, 0, 0, 0, false, false, 0, 0, [], ByteArray.empty, 0, 0, false, 0, 0, 0, 0, 0)).2.2.2.2.2.2.2.1 (List.getD x0 (Int.toNat x2) (0, 0, 0, 0, 0, 0, false, false, 0, 0, [], ByteArray.empty, 0, 0, false, 0, 0, 0, 0, 0)).2.2.2.2.2.2.2.2.1 (List.getD x0 (Int.toNat x2) (0, 0, 0, 0, 0, 0, false, false, 0, 0, [], ByteArray.empty, 0, 0, false, 0, 0, 0, 0, 0)).2.2.2.2.2.2.2.2.2.1 (List.getD x0 (Int.toNat x2) (0, 0, 0, 0, 0, 0, false, false, 0, 0, [], ByteArray.empty, 0, 0, false, 0, 0, 0, 0, 0)).2.2.2.2.2.2.2.2.2.2.1 (List.getD x0 (Int.toNat x2) (0, 0, 0, 0, 0, 0, false, false, 0, 0, [], ByteArray.empty, 0, 0, false, 0, 0, 0, 0, 0)).2.2.2.2.2.2.2.2.2.2.2.1 (List.getD x0 (Int.toNat x2) (0, 0, 0, 0, 0, 0, false, false, 0, 0, [], ByteArray.empty, 0, 0, false, 0, 0, 0, 0, 0)).2.2.2.2.2.2.2.2.2.2.2.2.1 (List.getD x0 (Int.toNat x2) (0, 0, 0, 0, 0, 0, false, false, 0, 0, [], ByteArray.empty, 0, 0, false, 0, 0, 0, 0, 0)).2.2.2.2.2.2.2.2.2.2.2.2.2.1 (List.getD x0 (Int.toNat x2) (0, 0, 0, 0, 0, 0, false, false, 0, 0, [], ByteArray.empty, 0, 0, false, 0, 0, 0, 0, 0)).2.2.2.2.2.2.2.2.2.2.2.2.2.2.1 (List.getD x0 (Int.toNat x2) (0, 0, 0, 0, 0, 0, false, false, 0, 0, [], ByteArray.empty, 0, 0, false, 0, 0, 0, 0, 0)).2.2.2.2.2.2.2.2.2.2.2.2.2.2.2.1 (List.getD x0 (Int.toNat x2) (0, 0, 0, 0, 0, 0, false, false, 0, 0, [], ByteArray.empty, 0, 0, false, 0, 0, 0, 0, 0)).2.2.2.2.2.2.2.2.2.2.2.2.2.2.2.2.1 (List.getD x0 (Int.toNat x2) (0, 0, 0, 0, 0, 0, false, false, 0, 0, [], ByteArray.empty, 0, 0, false, 0, 0, 0, 0, 0)).2.2.2.2.2.2.2.2.2.2.2.2.2.2.2.2.2.1 (List.getD x0 (Int.toNat x2) (0, 0, 0, 0, 0, 0, false, false, 0, 0, [], ByteArray.empty, 0, 0, false, 0, 0, 0, 0, 0)).2.2.2.2.2.2.2.2.2.2.2.2.2.2.2.2.2.2.1 (List.getD x0 (Int.toNat x2) (0, 0, 0, 0, 0, 0, false, false, 0, 0, [], ByteArray.empty, 0, 0, false, 0, 0, 0, 0, 0)).2.2.2.2.2.2.2.2.2.2.2.2.2.2.2.2.2.2.2) fun y4 =>
 Option.bind (F42 FUEL y4.q18 y4.q19 x9) fun y5 =>
 bif y5 then
 (bif (room (List.length x11 + List.length [(y4.q0, y4.q1, y4.q2, y4.q3, y4.q4, y4.q5, y4.q6, y4.q7, y4.q8, y4.q9, y4.q10, y4.q11, y4.q12, y4.q13, y4.q14, y4.q15, y4.q16, y4.q17, y4.q18, y4.q19)]) 176) then
 (F16_c1 n x0 x1 (iadd .i64 x2 (1)) x3 x4 x5 x6 x7 x8 x9 x10 (x11 ++ [(y4.q0, y4.q1, y4.q2, y4.q3, y4.q4, y4.q5, y4.q6, y4.q7, y4.q8, y4.q9, y4.q10, y4.q11, y4.q12, y4.q13, y4.q14, y4.q15, y4.q16, y4.q17, y4.q18, y4.q19)]) x12)
 else (none))
 else (Option.bind (F43 FUEL y4.q18 y4.q19 x9) fun y6 =>
 bif y6 then
 (Option.bind (F32 FUEL y4.q1 y4.q2 y4.q3 y4.q4 y4.q5 y4.q6 y4.q7 y4.q8 y4.q9 y4.q10 y4.q11 y4.q12 y4.q13 y4.q14 y4.q15) fun y7 =>
 bif (room (List.length x12 + List.length [(y7.q0, y7.q1, y7.q2, y7.q3, y7.q4, y7.q5, y7.q6, y7.q7, y7.q8, y7.q9, y7.q10, y7.q11, y7.q12, y7.q13, y7.q14)]) 136) then
 (bif (room (List.length x10 + List.length [(y4.q0, y4.q1, y4.q2, y4.q3, y4.q4, y4.q5, y4.q6, y4.q7, y4.q8, y4.q9, y4.q10, y4.q11, y4.q12, y4.q13, y4.q14, y4.q15, y4.q16, y4.q17, x9, (iadd .i64 y4.q19 (1)))]) 176) then
 (F16_c1 n x0 x1 (iadd .i64 x2 (1)) x3 x4 x5 x6 x7 x8 x9 (x10 ++ [(y4.q0, y4.q1, y4.q2, y4.q3, y4.q4, y4.q5, y4.q6, y4.q7, y4.q8, y4.q9, y4.q10, y4.q11, y4.q12, y4.q13, y4.q14, y4.q15, y4.q16, y4.q17, x9, (iadd .i64 y4.q19 (1)))]) x11 (x12 ++ [(y7.q0, y7.q1, y7.q2, y7.q3, y7.q4, y7.q5, y7.q6, y7.q7, y7.q8, y7.q9, y7.q10, y7.q11, y7.q12, y7.q13, y7.q14)]))
 else (none))
 else (none))
 else (bif (room (List.length x10 + List.length [(y4.q0, y4.q1, y4.q2, y4.q3, y4.q4, y4.q5, y4.q6, y4.q7, y4.q8, y4.q9, y4.q10, y4.q11, y4.q12, y4.q13, y4.q14, y4.q15, y4.q16, y4.q17, y4.q18, y4.q19)]) 176) then
 (F16_c1 n x0 x1 (iadd .i64 x2 (1)) x3 x4 x5 x6 x7 x8 x9 (x10 ++ [(y4.q0, y4.q1, y4.q2, y4.q3, y4.q4, y4.q5, y4.q6, y4.q7, y4.q8, y4.q9, y4.q10, y4.q11, y4.q12, y4.q13, y4.q14, y4.q15, y4.q16, y4.q17, y4.q18, y4.q19)]) x11 x12)
 else (none))))
 else (none))
 else (some ⟨x5, x6, x10, x12, x11⟩)
end
def F16 (n : Nat) (a0 a1 : Int) (a2 : List (Int × Int × Int × Int × Int × Int × Bool × Bool × Int × Int × (List (Int)) × ByteArray × Int × Int × Bool × Int × Int × Int × Int × Int)) (a3 : Int) : Option (Si2l_i6b2i2lsi2bi5_l_i5b2i2lsi2bi_l_i6b2i2lsi2bi5_) :=
  Option.bind (F17 FUEL a0 a1 a2) fun y1 =>
 bif (!y1) then
 (F16_c0 n a0 a1 a2 (0) (0))
 else (Option.bind (F29 FUEL a3) fun y2 =>
 bif (!y2) then
 (F16_c0 n a0 a1 a2 (0) (0))
 else (bif (inn (0) && ile (0) (ofN (List.length a2)) && decide ((ofN (List.length a2)) * 176 ≤ 281474976710656) && decide ((ofN (List.length a2)) ≤ 9223372036854775807)) then
 (F16_c1 n a2 (ofN (List.length a2)) (0) (0) (0) a0 a1 (0) (0) a3 (List.replicate (Int.toNat (0)) ((0), (0), (0), (0), (0), (0), false, false, (0), (0), [], ByteArray.empty, (0), (0), false, (0), (0), (0), (0), (0))) [] [])
 else (none)))

/-! ### garland/calls.Find -/
structure Si6b2i2lsi2bi5b where
  q0 : Int
  q1 : Int
  q2 : Int
  q3 : Int
  q4 : Int
  q5 : Int
  q6 : Bool
  q7 : Bool
  q8 : Int
  q9 : Int
  q10 : List (Int)
  q11 : ByteArray
  q12 : Int
  q13 : Int
  q14 : Bool
  q15 : Int
  q16 : Int
  q17 : Int
  q18 : Int
  q19 : Int
  q20 : Bool
mutual
def F24_c0 : Nat → Int → Int → Int → Int → Int → Int → Bool → Bool → Int → Int → ByteArray → Int → Int → Bool → Int → Int → Int → Int → Int → Bool → Option (Si6b2i2lsi2bi5b)
  | 0, _, _, _, _, _, _, _, _, _, _, _, _, _, _, _, _, _, _, _, _ => none
  | _ + 1, _, _, _, _, _, _, _, _, _, _, _, _, _, _, _, _, _, _, _, _ => some ⟨(0), (0), (0), (0), (0), (0), false, false, (0), (0), [], ByteArray.empty, (0), (0), false, (0), (0), (0), (0), (0), false⟩
def F24_c1 : Nat → List (Int × Int × Int × Int × Int × Int × Bool × Bool × Int × Int × (List (Int)) × ByteArray × Int × Int × Bool × Int × Int × Int × Int × Int) → Int → Int → Int → Int → Int → Int → Int → Int → Int → Bool → Bool → Int → Int → ByteArray → Int → Int → Bool → Int → Int → Int → Int → Int → Bool → Option (Si6b2i2lsi2bi5b)
  | 0, _, _, _, _, _, _, _, _, _, _, _, _, _, _, _, _, _, _, _, _, _, _, _, _ => none
  | n + 1, x0, x1, x2, x3, x4, x5, x6, x7, x8, x9, x10, x11, x12, x13, x14, x15, x16, x17, x18, x19, x20, x21, x22, x23 => bif (ilt x2 x1) then
 (bif (inb x2 (List.length x0)) then
 (Option.bind (F64 FUEL (List.getD x0 (Int.toNat x2) (0, 0, 0, 0, 0, 0, false, false, 0, 0, [], ByteArray.empty, 0, 0, false, 0, 0, 0, 0, 0)).1 (List.getD x0 (Int.toNat x2) (0, 0, 0, 0, 0, 0, false, false, 0, 0, [], ByteArray.empty, 0, 0, false, 0, 0, 0, 0, 0)).2.1 (List.getD x0 (Int.toNat x2) (0, 0, 0, 0, 0, 0, false, false, 0, 0, [], ByteArray.empty, 0, 0, false, 0, 0, 0, 0, 0)).2.2.1 (List.getD x0 (Int.toNat x2) (0, 0, 0, 0, 0, 0, false, false, 0, 0, [], ByteArray.empty, 0, 0, false, 0, 0, 0, 0, 0)).2.2.2.1 (List.getD x0 (Int.toNat x2) (0, 0, 0, 0, 0, 0, false, false, 0, 0, [], ByteArray.empty, 0, 0, false, 0, 0, 0, 0, 0)).2.2.2.2.1 (List.getD x0 (Int.toNat x2) (0, 0, 0, 0, 0, 0, false, false, 0, 0, [], ByteArray.empty, 0, 0, false, 0, 0, 0, 0, 0)).2.2.2.2.2.1 (List.getD x0 (Int.toNat x2) (0, 0, 0, 0, 0, 0, false, false, 0, 0, [], ByteArray.empty, 0, 0, false, 0, 0, 0, 0, 0)).2.2.2.2.2.2.1 (List.getD x0 (Int.toNat x2) (0, 0, 0, 0, 0, 0, false, false, 0, 0, [], ByteArray.empty, 0, 0, false, 0, 0, 0, 0, 0)).2.2.2.2.2.2.2.1 (List.getD x0 (Int.toNat x2) (0, 0, 0, 0, 0, 0, false, false, 0, 0, [], ByteArray.empty, 0, 0, false, 0, 0, 0, 0, 0)).2.2.2.2.2.2.2.2.1 (List.getD x0 (Int.toNat x2) (0, 0, 0, 0, 0, 0, false, false, 0, 0, [], ByteArray.empty, 0, 0, false, 0, 0, 0, 0, 0)).2.2.2.2.2.2.2.2.2.1 (List.getD x0 (Int.toNat x2) (0, 0, 0, 0, 0, 0, false, false, 0, 0, [], ByteArray.empty, 0, 0, false, 0, 0, 0, 0, 0)).2.2.2.2.2.2.2.2.2.2.1 (List.getD x0 (Int.toNat x2) (0, 0, 0, 0, 0, 0, false, false, 0, 0, [], ByteArray.empty, 0, 0, false, 0, 0, 0, 0, 0)).2.2.2.2.2.2.2.2.2.2.2.1 (List.getD x0 (Int.toNat x2) (0, 0, 0, 0, 0, 0, false, false, 0, 0, [], ByteArray.empty, 0, 0, false, 0, 0, 0, 0, 0)).2.2.2.2.2.2.2.2.2.2.2.2.1 (List.getD x0 (Int.toNat x2) (0, 0, 0, 0, 0, 0, false, false, 0, 0, [], ByteArray.empty, 0, 0, false, 0, 0, 0, 0, 0)).2.2.2.2.2.2.2.2.2.2.2.2.2.1 (List.getD x0 (Int.toNat x2) (0, 0, 0, 0, 0, 0, false, false, 0, 0, [], ByteArray.empty, 0, 0, false, 0, 0, 0, 0, 0)).2.2.2.2.2.2.2.2.2.2.2.2.2.2.1 (List.getD x0 (Int.toNat x2) (0, 0, 0, 0, 0, 0, false, false, 0, 0, [], ByteArray.empty, 0, 0, false, 0, 0, 0, 0, 0)).2.2.2.2.2.2.2.2.2.2.2.2.2.2.2.1 (List.getD x0 (Int.toNat x2) (0, 0, 0, 0, 0, 0, false, false, 0, 0, [], ByteArray.empty, 0, 0, false, 0, 0, 0, 0, 0)).2.2.2.2.2.2.2.2.2.2.2.2.2.2.2.2.1 (List.getD x0 (Int.toNat x2) (0, 0, 0, 0, 0, 0, false, false, 0, 0, [], ByteArray.empty, 0, 0, false, 0, 0, 0, 0, 0)).2.2.2.2.2.2.2.2.2.2.2.2.2.2.2.2.2.1 (List.getD x0 (Int.toNat x2) (0, 0, 0, 0, 0, 0, false, false, 0, 0, [], ByteArray.empty, 0, 0, false, 0, 0, 0, 0, 0)).2.2.2.2.2.2.2.2.2.2.2.2.2.2.2.2.2.2.1 (List.getD x0 (Int.toNat x2) (0, 0, 0, 0, 0, 0, false, false, 0, 0, [], ByteArray.empty, 0, 0, false, 0, 0, 0, 0, 0)).2.2.2.2.2.2.2.2.2.2.2.2.2.2.2.2.2.2.2) fun y2 =>
 bif (ieq y2.q16 x3) then
 (some ⟨y2.q0, y2.q1, y2.q2, y2.q3, y2.q4, y2.q5, y2.q6, y2.q7, y2.q8, y2.q9, y2.q10, y2.q11, y2.q12, y2.q13, y2.q14, y2.q15, y2.q16, y2.q17, y2.q18, y2.q19, true⟩)
 else (F24_c1 n x0 x1 (iadd .i64 x2 (1)) x3 x4 x5 x6 x7 x8 x9 x10 x11 x12 x13 x14 x15 x16 x17 x18 x19 x20 x21 x22 x23))
 else (none))
 else (some ⟨(0), (0), (0), (0), (0), (0), false, false, (0), (0), [], ByteArray.empty, (0), (0), false, (0), (0), (0), (0), (0), false⟩)
end
def F24 (n : Nat) (a0 a1 : Int) (a2 : List (Int × Int × Int × Int × Int × Int × Bool × Bool × Int × Int × (List (Int)) × ByteArray × Int × Int × Bool × Int × Int × Int × Int × Int)) (a3 : Int) : Option (Si6b2i2lsi2bi5b) :=
  Option.bind (F17 FUEL a0 a1 a2) fun y1 =>
 bif (!y1) then
 (F24_c0 n (0) (0) (0) (0) (0) (0) false false (0) (0) ByteArray.empty (0) (0) false (0) (0) (0) (0) (0) false)
 else (F24_c1 n a2 (ofN (List.length a2)) (0) a3 (0) (0) (0) (0) (0) (0) false false (0) (0) ByteArray.empty (0) (0) false (0) (0) (0) (0) (0) false)

/-! ### garland/calls.Drop -/
mutual
def F25_c0 : Nat → Int → Int → List (Int × Int × Int × Int × Int × Int × Bool × Bool × Int × Int × (List (Int)) × ByteArray × Int × Int × Bool × Int × Int × Int × Int × Int) → Int → Int → Option (Int × Int × (List (Int × Int × Int × Int × Int × Int × Bool × Bool × Int × Int × (List (Int)) × ByteArray × Int × Int × Bool × Int × Int × Int × Int × Int)))
  | 0, _, _, _, _, _ => none
  | _ + 1, x0, x1, x2, _, _ => Option.bind (F27 FUEL x0 x1 x2) fun y2 =>
 some (y2.1, y2.2.1, y2.2.2)
def F25_c1 : Nat → List (Int × Int × Int × Int × Int × Int × Bool × Bool × Int × Int × (List (Int)) × ByteArray × Int × Int × Bool × Int × Int × Int × Int × Int) → Int → Int → Int → Int → Int → Int → Int → Int → Int → List (Int × Int × Int × Int × Int × Int × Bool × Bool × Int × Int × (List (Int)) × ByteArray × Int × Int × Bool × Int × Int × Int × Int × Int) → Option (Int × Int × (List (Int × Int × Int × Int × Int × Int × Bool × Bool × Int × Int × (List (Int)) × ByteArray × Int × Int × Bool × Int × Int × Int × Int × Int)))
  | 0, _, _, _, _, _, _, _, _, _, _, _ => none
  | n + 1, x0, x1, x2, x3, x4, x5, x6, x7, x8, x9, x10 => bif (ilt x2 x1) then
 (bif (inb x2 (List.length x0)) then
 (Option.bind (F64 FUEL (List.getD x0 (Int.toNat x2) (0, 0, 0, 0, 0, 0, false, false, 0, 0, [], ByteArray.empty, 0, 0, false, 0, 0, 0, 0, 0)).1 (List.getD x0 (Int.toNat x2) (0, 0, 0, 0, 0, 0, false, false, 0, 0, [], ByteArray.empty, 0, 0, false, 0, 0, 0, 0, 0)).2.1 (List.getD x0 (Int.toNat x2) (0, 0, 0, 0, 0, 0, false, false, 0, 0, [], ByteArray.empty, 0, 0, false, 0, 0, 0, 0, 0)).2.2.1 (List.getD x0 (Int.toNat x2) (0, 0, 0, 0, 0, 0, false, false, 0, 0, [], ByteArray.empty, 0, 0, false, 0, 0, 0, 0, 0)).2.2.2.1 (List.getD x0 (Int.toNat x2) (0, 0, 0, 0, 0, 0, false, false, 0, 0, [], ByteArray.empty, 0, 0, false, 0, 0, 0, 0, 0)).2.2.2.2.1 (List.getD x0 (Int.toNat x2) (0, 0, 0, 0, 0, 0, false, false, 0, 0, [], ByteArray.empty, 0, 0, false, 0, 0, 0, 0, 0)).2.2.2.2.2.1 (List.getD x0 (Int.toNat x2) (0, 0, 0, 0, 0, 0, false, false, 0, 0, [], ByteArray.empty, 0, 0, false, 0, 0, 0, 0, 0)).2.2.2.2.2.2.1 (List.getD x0 (Int.toNat x2) (0, 0, 0, 0, 0, 0, false, false, 0, 0, [], ByteArray.empty, 0, 0, false, 0, 0, 0, 0, 0)).2.2.2.2.2.2.2.1 (List.getD x0 (Int.toNat x2) (0, 0, 0, 0, 0, 0, false, false, 0, 0, [], ByteArray.empty, 0, 0, false, 0, 0, 0, 0, 0)).2.2.2.2.2.2.2.2.1 (List.getD x0 (Int.toNat x2) (0, 0, 0, 0, 0, 0, false, false, 0, 0, [], ByteArray.empty, 0, 0, false, 0, 0, 0, 0, 0)).2.2.2.2.2.2.2.2.2.1 (List.getD x0 (Int.toNat x2) (0, 0, 0, 0, 0, 0, false, false, 0, 0, [], ByteArray.empty, 0, 0, false, 0, 0, 0, 0, 0)).2.2.2.2.2.2.2.2.2.2.1 (List.getD x0 (Int.toNat x2) (0, 0, 0, 0, 0, 0, false, false, 0, 0, [], ByteArray.empty, 0, 0, false, 0, 0, 0, 0, 0)).2.2.2.2.2.2.2.2.2.2.2.1 (List.getD x0 (Int.toNat x2) (0, 0, 0, 0, 0, 0, false, false, 0, 0, [], ByteArray.empty, 0, 0, false, 0, 0, 0, 0, 0)).2.2.2.2.2.2.2.2.2.2.2.2.1 (List.getD x0 (Int.toNat x2) (0, 0, 0, 0, 0, 0, false, false, 0, 0, [], ByteArray.empty, 0, 0, false, 0, 0, 0, 0, 0)).2.2.2.2.2.2.2.2.2.2.2.2.2.1 (List.getD x0 (Int.toNat x2) (0, 0, 0, 0, 0, 0, false, false, 0, 0, [], ByteArray.empty, 0, 0, false, 0, 0, 0, 0, 0)).2.2.2.2.2.2.2.2.2.2.2.2.2.2.1 (List.getD x0 (Int.toNat x2) (0, 0, 0, 0, 0, 0, false, false, 0, 0, [], ByteArray.empty, 0, 0, false, 0, 0, 0, 0, 0)).2.2.2.2.2.2.2.2.2.2.2.2.2.2.2.1 (List.getD x0 (Int.toNat x2) (0, 0, 0, 0, 0, 0, false, false, 0, 0, [], ByteArray.empty, 0, 0, false, 0, 0, 0, 0, 0)).2.2.2.2.2.2.2.2.2.2.2.2.2.2.2.2.1 (List.getD x0 (Int.toNat x2) (0, 0, 0, 0, 0, 0, false, false, 0, 0, [], ByteArray.empty, 0, 0, false, 0, 0, 0, 0, 0)).2.2.2.2.2.2.2.2.2.2.2.2.2.2.2.2.2.1 (List.getD x0 (Int.toNat x2) (0, 0, 0, 0, 0, 0, false, false, 0, 0, [], ByteArray.empty, 0, 0, false, 0, 0, 0, 0, 0)).2.2.2.2.2.2.2.2.2.2.2.2.2.2.2.2.2.2.1 (List.getD x0 (Int.toNat x2) (0, 0, 0, 0, 0, 0, false, false, 0, 0, [], ByteArray.empty, 0, 0, false, 0, 0, 0, 0, 0)).2.2.2.2.2.2.2.2.2.2.2.2.2.2.2.2.2.2.2) fun y3 =>
 bif (ine y3.q16 x9) then
 (bif (room (List.length x10 + List.length [(y3.q0, y3.q1, y3.q2, y3.q3, y3.q4, y3.q5, y3.q6, y3.q7, y3.q8, y3.q9, y3.q10, y3.q11, y3.q12, y3.q13, y3.q14, y3.q15, y3.q16, y3.q17, y3.q18, y3.q19)]) 176) then
 (F25_c1 n x0 x1 (iadd .i64 x2 (1)) x3 x4 x5 x6 x7 x8 x9 (x10 ++ [(y3.q0, y3.q1, y3.q2, y3.q3, y3.q4, y3.q5, y3.q6, y3.q7, y3.q8, y3.q9, y3.q10, y3.q11, y3.q12, y3.q13, y3.q14, y3.q15, y3.q16, y3.q17, y3.q18, y3.q19)]))
 else (none))
 else (F25_c1 n x0 x1 (iadd .i64 x2 (1)) x3 x4 x5 x6 x7 x8 x9 x10))
 else (none))
 else (some (x5, x6, x10))
end
def F25 (n : Nat) (a0 a1 : Int) (a2 : List (Int × Int × Int × Int × Int × Int × Bool × Bool × Int × Int × (List (Int)) × ByteArray × Int × Int × Bool × Int × Int × Int × Int × Int)) (a3 : Int) : Option (Int × Int × (List (Int × Int × Int × Int × Int × Int × Bool × Bool × Int × Int × (List (Int)) × ByteArray × Int × Int × Bool × Int × Int × Int × Int × Int))) :=
  Option.bind (F17 FUEL a0 a1 a2) fun y1 =>
 bif (!y1) then
 (F25_c0 n a0 a1 a2 (0) (0))
 else (bif (inn (0) && ile (0) (ofN (List.length a2)) && decide ((ofN (List.length a2)) * 176 ≤ 281474976710656) && decide ((ofN (List.length a2)) ≤ 9223372036854775807)) then
 (F25_c1 n a2 (ofN (List.length a2)) (0) (0) (0) a0 a1 (0) (0) a3 (List.replicate (Int.toNat (0)) ((0), (0), (0), (0), (0), (0), false, false, (0), (0), [], ByteArray.empty, (0), (0), false, (0), (0), (0), (0), (0))))
 else (none))

/-! ### garland/calls.sameCall -/
def F50 (_n : Nat) (a0 a1 a2 a3 a4 a5 : Int) (a6 a7 : Bool) (a8 a9 : Int) (a10 : List (Int)) (a11 : ByteArray) (a12 a13 : Int) (a14 : Bool) (a15 a16 a17 a18 a19 a20 a21 a22 a23 a24 a25 : Int) (a26 a27 : Bool) (a28 a29 : Int) (a30 : List (Int)) (a31 : ByteArray) (a32 a33 : Int) (a34 : Bool) (a35 a36 a37 a38 a39 : Int) : Option (Bool) :=
  bif (ieq a0 a20) then
 (bif (ieq a16 a36) then
 (bif (ieq a17 a37) then
 (bif (ieq a18 a38) then
 (bif (ieq a19 a39) then
 (Option.bind (F57 FUEL a1 a2 a3 a4 a5 a6 a7 a8 a9 a10 a11 a12 a13 a14 a15 a21 a22 a23 a24 a25 a26 a27 a28 a29 a30 a31 a32 a33 a34 a35) fun y1 =>
 some y1)
 else (some false))
 else (some false))
 else (some false))
 else (some false))
 else (some false)

/-! ### garland/calls.Same -/
def F26_c0 : Nat → List (Int × Int × Int × Int × Int × Int × Bool × Bool × Int × Int × (List (Int)) × ByteArray × Int × Int × Bool × Int × Int × Int × Int × Int) → List (Int × Int × Int × Int × Int × Int × Bool × Bool × Int × Int × (List (Int)) × ByteArray × Int × Int × Bool × Int × Int × Int × Int × Int) → Int → Int → Bool → Option (Bool)
  | 0, _, _, _, _, _ => none
  | n + 1, x0, x1, x2, x3, x4 => bif (ilt x3 x2) then
 (bif (inb x3 (List.length x1)) then
 (bif (inb x3 (List.length x0)) then
 (Option.bind (F50 FUEL (List.getD x1 (Int.toNat x3) (0, 0, 0, 0, 0, 0, false, false, 0, 0, [], ByteArray.empty, 0, 0, false, 0, 0, 0, 0, 0)).1 (List.getD x1 (Int.toNat x3) (0, 0, 0, 0, 0, 0, false, false, 0, 0, [], ByteArray.empty, 0, 0, false, 0, 0, 0, 0, 0)).2.1 (List.getD x1 (Int.toNat x3) (0, 0, 0, 0, 0, 0, false, false, 0, 0, [], ByteArray.empty, 0, 0, false, 0, 0, 0, 0, 0)).2.2.1 (List.getD x1 (Int.toNat x3) (0, 0, 0, 0, 0, 0, false, false, 0, 0, [], ByteArray.empty, 0, 0, false, 0, 0, 0, 0, 0)).2.2.2.1 (List.getD x1 (Int.toNat x3) (0, 0, 0, 0, 0, 0, false, false, 0, 0, [], ByteArray.empty, 0, 0, false, 0, 0, 0, 0, 0)).2.2.2.2.1 (List.getD x1 (Int.toNat x3) (0, 0, 0, 0, 0, 0, false, false, 0, 0, [], ByteArray.empty, 0, 0, false, 0, 0, 0, 0, 0)).2.2.2.2.2.1 (List.getD x1 (Int.toNat x3) (0, 0, 0, 0, 0, 0, false, false, 0, 0, [], ByteArray.empty, 0, 0, false, 0, 0, 0, 0, 0)).2.2.2.2.2.2.1 (List.getD x1 (Int.toNat x3) (0, 0, 0, 0, 0, 0, false, false, 0, 0, [], ByteArray.empty, 0, 0, false, 0, 0, 0, 0, 0)).2.2.2.2.2.2.2.1 (List.getD x1 (Int.toNat x3) (0, 0, 0, 0, 0, 0, false, false, 0, 0, [], ByteArray.empty, 0, 0, false, 0, 0, 0, 0, 0)).2.2.2.2.2.2.2.2.1 (List.getD x1 (Int.toNat x3) (0, 0, 0, 0, 0, 0, false, false, 0, 0, [], ByteArray.empty, 0, 0, false, 0, 0, 0, 0, 0)).2.2.2.2.2.2.2.2.2.1 (List.getD x1 (Int.toNat x3) (0, 0, 0, 0, 0, 0, false, false, 0, 0, [], ByteArray.empty, 0, 0, false, 0, 0, 0, 0, 0)).2.2.2.2.2.2.2.2.2.2.1 (List.getD x1 (Int.toNat x3) (0, 0, 0, 0, 0, 0, false, false, 0, 0, [], ByteArray.empty, 0, 0, false, 0, 0, 0, 0, 0)).2.2.2.2.2.2.2.2.2.2.2.1 (List.getD x1 (Int.toNat x3) (0, 0, 0, 0, 0, 0, false, false, 0, 0, [], ByteArray.empty, 0, 0, false, 0, 0, 0, 0, 0)).2.2.2.2.2.2.2.2.2.2.2.2.1 (List.getD x1 (Int.toNat x3) (0, 0, 0, 0, 0, 0, false, false, 0, 0, [], ByteArray.empty, 0, 0, false, 0, 0, 0, 0, 0)).2.2.2.2.2.2.2.2.2.2.2.2.2.1 (List.getD x1 (Int.toNat x3) (0, 0, 0, 0, 0, 0, false, false, 0, 0, [], ByteArray.empty, 0, 0, false, 0, 0, 0, 0, 0)).2.2.2.2.2.2.2.2.2.2.2.2.2.2.1 (List.getD x1 (Int.toNat x3) (0, 0, 0, 0, 0, 0, false, false, 0, 0, [], ByteArray.empty, 0, 0, false, 0, 0, 0, 0, 0)).2.2.2.2.2.2.2.2.2.2.2.2.2.2.2.1 (List.getD x1 (Int.toNat x3) (0, 0, 0, 0, 0, 0, false, false, 0, 0, [], ByteArray.empty, 0, 0, false, 0, 0, 0, 0, 0)).2.2.2.2.2.2.2.2.2.2.2.2.2.2.2.2.1 (List.getD x1 (Int.toNat x3) (0, 0, 0, 0, 0, 0, false, false, 0, 0, [], ByteArray.empty, 0, 0, false, 0, 0, 0, 0, 0)).2.2.2.2.2.2.2.2.2.2.2.2.2.2.2.2.2.1 (List.getD x1 (Int.toNat x3) (0, 0, 0, 0, 0, 0, false, false, 0, 0, [], ByteArray.empty, 0, 0, false, 0, 0, 0, 0, 0)).2.2.2.2.2.2.2.2.2.2.2.2.2.2.2.2.2.2.1 (List.getD x1 (Int.toNat x3) (0, 0, 0, 0, 0, 0, false, false, 0, 0, [], ByteArray.empty, 0, 0, false, 0, 0, 0, 0, 0)).2.2.2.2.2.2.2.2.2.2.2.2.2.2.2.2.2.2.2 (List.getD x0 (Int.toNat x3) (0, 0, 0, 0, 0, 0, false, false, 0, 0, [], ByteArray.empty, 0, 0, false, 0, 0, 0, 0, 0)).1 (List.getD x0 (Int.toNat x3) (0, 0, 0, 0, 0, 0, false, false, 0, 0, [], ByteArray.empty, 0, 0, false, 0, 0, 0, 0, 0)).2.1 (List.getD x0 (Int.toNat x3) (0, 0, 0, 0, 0, 0, false, false, 0, 0, [], ByteArray.empty, 0, 0, false, 0, 0, 0, 0, 0)).2.2.1 (List.getD x0 (Int.toNat x3) (0, 0, 0, 0, 0, 0, false, false, 0, 0, [], ByteArray.empty, 0, 0, false, 0, 0, 0, 0, 0)).2.2.2.1 (List.getD x0 (Int.toNat x3) (0, 0, 0, 0, 0, 0, false, false, 0, 0, [], ByteArray.empty, 0, 0, false, 0, 0, 0, 0, 0)).2.2.2.2.1 (List.getD x0 (Int.toNat x3) (0, 0, 0, 0, 0, 0, false, false, 0, 0, [], ByteArray.empty, 0, 0, false, 0, 0, 0, 0, 0)).2.2.2.2.2.1 (List.getD x0 (Int.toNat x3) (0, 0, 0, 0, 0, 0, false, false, 0, 0, [], ByteArray.empty, 0, 0, false, 0, 0, 0, 0, 0)).2.2.2.2.2.2.1 (List.getD x0 (Int.toNat x3) (0, 0, 0, 0, 0, 0, false, false, 0, 0, [], ByteArray.empty, 0, 0, false, 0, 0, 0, 0, 0)).2.2.2.2.2.2.2.1 (List.getD x0 (Int.toNat x3) (0, 0, 0, 0, 0, 0, false, false, 0, 0, [], ByteArray.empty, 0, 0, false, 0, 0, 0, 0, 0)).2.2.2.2.2.2.2.2.1 (List.getD x0 (Int.toNat x3) (0, 0, 0, 0, 0, 0, false, false, 0, 0, [], ByteArray.empty, 0, 0, false, 0, 0, 0, 0, 0)).2.2.2.2.2.2.2.2.2.1 (List.getD x0 (Int.toNat x3) (0, 0, 0, 0, 0, 0, false, false, 0, 0, [], ByteArray.empty, 0, 0, false, 0, 0, 0, 0, 0)).2.2.2.2.2.2.2.2.2.2.1 (List.getD x0 (Int.toNat x3) (0, 0, 0, 0, 0, 0, false, false, 0, 0, [], ByteArray.empty, 0, 0, false, 0, 0, 0, 0, 0)).2.2.2.2.2.2.2.2.2.2.2.1 (List.getD x0 (Int.toNat x3) (0, 0, 0, 0, 0, 0, false, false, 0, 0, [], ByteArray.empty, 0, 0, false, 0, 0, 0, 0, 0)).2.2.2.2.2.2.2.2.2.2.2.2.1 (List.getD x0 (Int.toNat x3) (0, 0, 0, 0, 0, 0, false, false, 0, 0, [], ByteArray.empty, 0, 0, false, 0, 0, 0, 0, 0)).2.2.2.2.2.2.2.2.2.2.2.2.2.1 (List.getD x0 (Int.toNat x3) (0, 0, 0, 0, 0, 0, false, false, 0, 0, [], ByteArray.empty, 0, 0, false, 0, 0, 0, 0, 0)).2.2.2.2.2.2.2.2.2.2.2.2.2.2.1 (List.getD x0 (Int.toNat x3) (0, 0, 0, 0, 0, 0, false, false, 0, 0, [], ByteArray.empty, 0, 0, false, 0, 0, 0, 0, 0)).2.2.2.2.2.2.2.2.2.2.2.2.2.2.2.1 (List.getD x0 (Int.toNat x3) (0, 0, 0, 0, 0, 0, false, false, 0, 0, [], ByteArray.empty, 0, 0, false, 0, 0, 0, 0, 0)).2.2.2.2.2.2.2.2.2.2.2.2.2.2.2.2.1 (List.getD x0 (Int.toNat x3) (0, 0, 0, 0, 0, 0, false, false, 0, 0, [], ByteArray.empty, 0, 0, false, 0, 0, 0, 0, 0)).2.2.2.2.2.2.2.2.2.2.2.2.2.2.2.2.2.1 (List.getD x0 (Int.toNat x3) (0, 0, 0, 0, 0, 0, false, false, 0, 0, [], ByteArray.empty, 0, 0, false, 0, 0, 0, 0, 0)).2.2.2.2.2.2.2.2.2.2.2.2.2.2.2.2.2.2.1 (List.getD x0 (Int.toNat x3) (0, 0, 0, 0, 0, 0, false, false, 0, 0, [], ByteArray.empty, 0, 0, false, 0, 0, 0, 0, 0)).2.2.2.2.2.2.2.2.2.2.2.2.2.2.2.2.2.2.2) fun y1 =>
 bif (!y1) then
 (some (bif x4 then false else false))
 else (F26_c0 n x0 x1 x2 (iadd .i64 x3 (1)) x4))
 else (none))
 else (none))
 else (some (bif x4 then true else false))
def F26 (n : Nat) (a0 a1 : Int) (a2 : List (Int × Int × Int × Int × Int × Int × Bool × Bool × Int × Int × (List (Int)) × ByteArray × Int × Int × Bool × Int × Int × Int × Int × Int)) (a3 a4 : Int) (a5 : List (Int × Int × Int × Int × Int × Int × Bool × Bool × Int × Int × (List (Int)) × ByteArray × Int × Int × Bool × Int × Int × Int × Int × Int)) : Option (Bool) :=
  bif (ieq a0 a3) then
 (bif (ieq a1 a4) then
 (bif (ine (ofN (List.length a2)) (ofN (List.length a5))) then
 (some false)
 else (F26_c0 n a5 a2 (ofN (List.length a2)) (0) true))
 else (some false))
 else (some false)

/-! ### garland/garlandlaw10.wakes -/
def F8 (_n : Nat) : Option (Bool) :=
  Option.bind (F7 FUEL (2)) fun y1 =>
 Option.bind (F10 FUEL y1.1 y1.2.1 [] (2) (0) (0) (9) (0) false false (0) (0) [] ByteArray.empty (0) (0) false (0) (4) (7) (5)) fun y2 =>
 Option.bind (F10 FUEL y2.q0 y2.q1 y2.q18 (2) (0) (0) (2) (0) false false (0) (0) [] ByteArray.empty (0) (0) false (0) (4) (7) (5)) fun y3 =>
 Option.bind (F13 FUEL y2.q2 y2.q3 y2.q4 y2.q5 y2.q6 y2.q7 y2.q8 y2.q9 y2.q10 y2.q11 y2.q12 y2.q13 y2.q14 y2.q15 y2.q16) fun y4 =>
 Option.bind (F14 FUEL y2.q0 y2.q1 y2.q18 y4.q0 y4.q1 y4.q2 y4.q3 y4.q4 y4.q5 y4.q6 y4.q7 y4.q8 [] y4.q9 y4.q10 y4.q11 y4.q12 y4.q13) fun y5 =>
 Option.bind (F13 FUEL y2.q2 y2.q3 y2.q4 y2.q5 y2.q6 y2.q7 y2.q8 y2.q9 y2.q10 y2.q11 y2.q12 y2.q13 y2.q14 y2.q15 y2.q16) fun y6 =>
 Option.bind (F14 FUEL y5.q0 y5.q1 y5.q23 y6.q0 y6.q1 y6.q2 y6.q3 y6.q4 y6.q5 y6.q6 y6.q7 y6.q8 [] y6.q9 y6.q10 y6.q11 y6.q12 y6.q13) fun y7 =>
 Option.bind (F16 FUEL y2.q0 y2.q1 y2.q18 (6)) fun y8 =>
 Option.bind (F16 FUEL y8.q0 y8.q1 y8.q2 (8)) fun y9 =>
 Option.bind (F16 FUEL y9.q0 y9.q1 y9.q2 (12)) fun y10 =>
 Option.bind (F24 FUEL y2.q0 y2.q1 y2.q18 (4)) fun y11 =>
 bif (ine (ofN (List.length y8.q3)) (1)) then
 (some false)
 else (bif (ine (ofN (List.length y10.q4)) (1)) then
 (some false)
 else (bif (ieq y1.2.2 (0)) then
 (bif (ieq y2.q17 (0)) then
 (bif (ieq y2.q3 (2097153)) then
 (bif (ieq y2.q4 (2)) then
 (bif (ieq y3.q17 (2)) then
 (bif y5.q22 then
 (bif (ieq y5.q19 (7)) then
 (bif (ieq (ofN (List.length y5.q23)) (0)) then
 (bif (ieq y5.q1 (1)) then
 (bif (!y7.q22) then
 (bif (inb (0) (List.length y8.q3)) then
 (bif (nlt (Int.toNat (0)) (List.length y8.q3)) then
 (bif (ieq (List.getD y8.q3 (Int.toNat (0)) (0, 0, 0, 0, 0, false, false, 0, 0, [], ByteArray.empty, 0, 0, false, 0)).2.1 y2.q3) then
 (bif (ieq (ofN (List.length y8.q4)) (0)) then
 (bif (inb (0) (List.length y10.q4)) then
 (bif (nlt (Int.toNat (0)) (List.length y10.q4)) then
 (bif (ieq (List.getD y10.q4 (Int.toNat (0)) (0, 0, 0, 0, 0, 0, false, false, 0, 0, [], ByteArray.empty, 0, 0, false, 0, 0, 0, 0, 0)).1 y2.q3) then
 (bif (ieq (ofN (List.length y10.q2)) (0)) then
 (bif (ieq y11.q16 (4)) then
 (bif y11.q20 then
 (Option.bind (F25 FUEL y2.q0 y2.q1 y2.q18 (4)) fun y12 =>
 bif (ieq (ofN (List.length y12.2.2)) (0)) then
 (Option.bind (F17 FUEL y2.q0 y2.q1 y2.q18) fun y13 =>
 bif y13 then
 (Option.bind (F17 FUEL (-1) (0) []) fun y14 =>
 bif (!y14) then
 (Option.bind (F27 FUEL y2.q0 y2.q1 y2.q18) fun y15 =>
 Option.bind (F26 FUEL y2.q0 y2.q1 y2.q18 y15.1 y15.2.1 y15.2.2) fun y16 =>
 bif y16 then
 (Option.bind (F26 FUEL y1.1 y1.2.1 [] y2.q0 y2.q1 y2.q18) fun y17 =>
 some (!y17))
 else (some false))
 else (some false))
 else (some false))
 else (some false))
 else (some false))
 else (some false))
 else (some false))
 else (some false))
 else (none))
 else (none))
 else (some false))
 else (some false))
 else (none))
 else (none))
 else (some false))
 else (some false))
 else (some false))
 else (some false))
 else (some false))
 else (some false))
 else (some false))
 else (some false))
 else (some false))
 else (some false)))

/-! ### garland/garlandlaw10.great -/
def F9 (_n : Nat) (_a0 _a1 _a2 _a3 _a4 : Int) (_a5 _a6 : Bool) (_a7 _a8 : Int) (a9 : List (Int)) (a10 : ByteArray) (_a11 _a12 : Int) (_a13 : Bool) (_a14 : Int) : Option (Bool) :=
  bif (igt (ofN (List.length a9)) (20)) then
 (some true)
 else (some (igt (stlen a10) (100)))

/-! ### garland/garlandref06.place -/
def F33 (_n : Nat) (a0 : Int) : Option (Bool) :=
  bif (ige a0 (0)) then
 (some (ilt a0 (65536)))
 else (some false)

/-! ### garland/garlandref06.Asker -/
def F34 (_n : Nat) (a0 a1 a2 a3 a4 : Int) (a5 a6 : Bool) (a7 a8 : Int) (a9 : List (Int)) (a10 : ByteArray) (a11 a12 : Int) (a13 : Bool) (a14 : Int) : Option (Int) :=
  Option.bind (F37 FUEL a0 a1 a2 a3 a4 a5 a6 a7 a8 a9 a10 a11 a12 a13 a14) fun y1 =>
 bif y1 then
 (some a2)
 else (some a3)

/-! ### garland/garlandref06.bare -/
def F35 (_n : Nat) (a0 a1 a2 a3 a4 : Int) (a5 a6 : Bool) (a7 a8 : Int) (a9 : ByteArray) (a10 a11 : Int) (a12 : Bool) (a13 : Int) : Option (Sbi5b2i2si2bi) :=
  bif (ieq a0 (4)) then
 (some ⟨true, a0, a1, a2, a3, (0), false, a6, a7, a8, a9, a10, a11, a12, a13⟩)
 else (bif (ieq a0 (5)) then
 (bif (ieq a0 (5)) then
 (some ⟨true, a0, a1, a2, a3, a4, a5, a6, a7, a8, ByteArray.empty, (0), (0), false, a13⟩)
 else (bif (ieq a0 (7)) then
 (some ⟨false, a0, a1, a2, a3, a4, a5, a6, a7, (0), a9, a10, a11, a12, a13⟩)
 else (bif (ieq a0 (10)) then
 (some ⟨true, a0, a1, a2, a3, a4, a5, false, (0), a8, a9, a10, a11, a12, a13⟩)
 else (bif (ieq a0 (11)) then
 (some ⟨true, a0, a1, a2, a3, a4, a5, a6, a7, a8, a9, a10, a11, a12, (0)⟩)
 else (bif (ieq a0 (12)) then
 (some ⟨true, a0, a1, a2, a3, a4, a5, a6, a7, a8, ByteArray.empty, (0), (0), false, (0)⟩)
 else (some ⟨true, a0, a1, a2, a3, a4, a5, a6, a7, a8, a9, a10, a11, a12, a13⟩))))))
 else (bif (ieq a0 (6)) then
 (some ⟨true, a0, a1, a2, a3, a4, a5, a6, a7, a8, ByteArray.empty, (0), (0), false, a13⟩)
 else (bif (ieq a0 (7)) then
 (some ⟨false, a0, a1, a2, a3, a4, a5, a6, a7, (0), a9, a10, a11, a12, a13⟩)
 else (bif (ieq a0 (10)) then
 (some ⟨true, a0, a1, a2, a3, a4, a5, false, (0), a8, a9, a10, a11, a12, a13⟩)
 else (bif (ieq a0 (11)) then
 (some ⟨true, a0, a1, a2, a3, a4, a5, a6, a7, a8, a9, a10, a11, a12, (0)⟩)
 else (bif (ieq a0 (12)) then
 (some ⟨true, a0, a1, a2, a3, a4, a5, a6, a7, a8, ByteArray.empty, (0), (0), false, (0)⟩)
 else (some ⟨true, a0, a1, a2, a3, a4, a5, a6, a7, a8, a9, a10, a11, a12, a13⟩)))))))

/-! ### garland/garlandref06.Same -/
def F22_c0 : Nat → Int → Int → Int → Int → Int → Int → Bool → Bool → Int → Int → List (Int) → ByteArray → Int → Int → Bool → Int → Int → Int → Int → Int → Int → Bool → Bool → Int → Int → List (Int) → ByteArray → Int → Int → Bool → Int → Option (Bool)
  | 0, _, _, _, _, _, _, _, _, _, _, _, _, _, _, _, _, _, _, _, _, _, _, _, _, _, _, _, _, _, _, _ => none
  | n + 1, x0, x1, x2, x3, x4, x5, x6, x7, x8, x9, x10, x11, x12, x13, x14, x15, x16, x17, x18, x19, x20, x21, x22, x23, x24, x25, x26, x27, x28, x29, x30 => bif (ilt x0 (ofN (List.length x10))) then
 (bif (inb x0 (List.length x10)) then
 (bif (inb x0 (List.length x25)) then
 (bif (ine (List.getD x10 (Int.toNat x0) 0) (List.getD x25 (Int.toNat x0) 0)) then
 (some false)
 else (F22_c0 n (iadd .i64 x0 (1)) x1 x2 x3 x4 x5 x6 x7 x8 x9 x10 x11 x12 x13 x14 x15 x16 x17 x18 x19 x20 x21 x22 x23 x24 x25 x26 x27 x28 x29 x30))
 else (none))
 else (none))
 else (bif (ieq x1 x16) then
 (bif (ieq x2 x17) then
 (bif (ieq x3 x18) then
 (bif (ieq x4 x19) then
 (bif (ieq x5 x20) then
 (bif (beqb x6 x21) then
 (bif (beqb x7 x22) then
 (bif (ieq x8 x23) then
 (bif (ieq x9 x24) then
 (bif ((steq x11 x26) && ((ieq x12 x27) && ((ieq x13 x28) && ((beqb x14 x29) && true)))) then
 (some (ieq x15 x30))
 else (some false))
 else (some false))
 else (some false))
 else (some false))
 else (some false))
 else (some false))
 else (some false))
 else (some false))
 else (some false))
 else (some false))
def F22 (n : Nat) (a0 a1 a2 a3 a4 : Int) (a5 a6 : Bool) (a7 a8 : Int) (a9 : List (Int)) (a10 : ByteArray) (a11 a12 : Int) (a13 : Bool) (a14 a15 a16 a17 a18 a19 : Int) (a20 a21 : Bool) (a22 a23 : Int) (a24 : List (Int)) (a25 : ByteArray) (a26 a27 : Int) (a28 : Bool) (a29 : Int) : Option (Bool) :=
  bif (ine (ofN (List.length a9)) (ofN (List.length a24))) then
 (some false)
 else (F22_c0 n (0) a0 a1 a2 a3 a4 a5 a6 a7 a8 a9 a10 a11 a12 a13 a14 a15 a16 a17 a18 a19 a20 a21 a22 a23 a24 a25 a26 a27 a28 a29)

/-! ### garland/garlandref06.Pair -/
def F59 (_n : Nat) (a0 : ByteArray) (a1 a2 : Int) (_a3 : Bool) : Option (Bool) :=
  bif (ige (stlen a0) (1)) then
 (bif (ile (stlen a0) (20)) then
 (bif (ige a1 (0)) then
 (bif (ile a1 (1048576)) then
 (bif (ige a2 (0)) then
 (some (ile a2 (1048576)))
 else (some false))
 else (some false))
 else (some false))
 else (some false))
 else (some false)

/-! ### garland/garlandref06.list -/
mutual
def F60_c0 : Nat → List (Int) → Int → Int → Option (Bool)
  | 0, _, _, _ => none
  | n + 1, x0, x1, x2 => bif (ilt x2 (ofN (List.length x0))) then
 (bif (inb x2 (List.length x0)) then
 (Option.bind (F33 FUEL (List.getD x0 (Int.toNat x2) 0)) fun y1 =>
 bif (!y1) then
 (some false)
 else (bif (inb x2 (List.length x0)) then
 (bif (ieq (List.getD x0 (Int.toNat x2) 0) x1) then
 (some false)
 else (F60_c1 n x0 x1 x2 (0)))
 else (none)))
 else (none))
 else (some (ile (ofN (List.length x0)) (3)))
def F60_c1 : Nat → List (Int) → Int → Int → Int → Option (Bool)
  | 0, _, _, _, _ => none
  | n + 1, x0, x1, x2, x3 => bif (ilt x3 x2) then
 (bif (inb x3 (List.length x0)) then
 (bif (inb x2 (List.length x0)) then
 (bif (ieq (List.getD x0 (Int.toNat x3) 0) (List.getD x0 (Int.toNat x2) 0)) then
 (some false)
 else (F60_c1 n x0 x1 x2 (iadd .i64 x3 (1))))
 else (none))
 else (none))
 else (F60_c0 n x0 x1 (iadd .i64 x2 (1)))
end
def F60 (n : Nat) (a0 : List (Int)) (a1 : Int) : Option (Bool) :=
  F60_c0 n a0 a1 (0)

/-! ### garland/garlandref06.has -/
def F36 (_n : Nat) (a0 _a1 a2 _a3 a4 : Int) (_a5 _a6 : Bool) (a7 a8 : Int) (a9 : List (Int)) (a10 : ByteArray) (a11 a12 : Int) (a13 : Bool) (a14 : Int) : Option (Bool) :=
  bif (ieq a0 (4)) then
 (Option.bind (F33 FUEL a4) fun y1 =>
 some y1)
 else (bif (ieq a0 (5)) then
 (Option.bind (F59 FUEL a10 a11 a12 a13) fun y2 =>
 some y2)
 else (bif (ieq a0 (6)) then
 (Option.bind (F59 FUEL a10 a11 a12 a13) fun y3 =>
 bif y3 then
 (some ((steq a10 a10) && ((ieq a11 (0)) && ((ieq a12 (0)) && ((beqb a13 false) && true)))))
 else (some false))
 else (bif (ieq a0 (7)) then
 (bif (ieq a8 (-1)) then
 (Option.bind (F60 FUEL a9 a2) fun y4 =>
 some y4)
 else (Option.bind (F33 FUEL a8) fun y5 =>
 bif y5 then
 (Option.bind (F60 FUEL a9 a2) fun y6 =>
 some y6)
 else (some false)))
 else (bif (ieq a0 (10)) then
 (Option.bind (F33 FUEL a7) fun y7 =>
 some y7)
 else (bif (ieq a0 (11)) then
 (bif (ieq a14 (0)) then
 (some true)
 else (some (ieq a14 (200))))
 else (bif (ieq a0 (12)) then
 (bif (ieq a14 (0)) then
 (Option.bind (F59 FUEL a10 a11 a12 a13) fun y8 =>
 bif y8 then
 (some true)
 else (bif (ieq a14 (201)) then
 (some ((steq a10 ByteArray.empty) && ((ieq a11 (0)) && ((ieq a12 (0)) && ((beqb a13 false) && true)))))
 else (some false)))
 else (bif (ieq a14 (201)) then
 (some ((steq a10 ByteArray.empty) && ((ieq a11 (0)) && ((ieq a12 (0)) && ((beqb a13 false) && true)))))
 else (some false)))
 else (some true)))))))

/-! ### garland/garlandref06.Right -/
def F11 (_n : Nat) (a0 a1 a2 a3 a4 : Int) (a5 a6 : Bool) (a7 a8 : Int) (a9 : List (Int)) (a10 : ByteArray) (a11 a12 : Int) (a13 : Bool) (a14 : Int) : Option (Bool) :=
  bif (ilt a0 (1)) then
 (some false)
 else (bif (ige a0 (13)) then
 (some false)
 else (Option.bind (F33 FUEL a2) fun y1 =>
 bif (!y1) then
 (some false)
 else (Option.bind (F33 FUEL a3) fun y2 =>
 bif (!y2) then
 (some false)
 else (bif (ieq a2 a3) then
 (some false)
 else (Option.bind (F34 FUEL a0 a1 a2 a3 a4 a5 a6 a7 a8 a9 a10 a11 a12 a13 a14) fun y3 =>
 bif (ilt a1 (iadd .i64 (imul .i64 y3 (1048576)) (1))) then
 (some false)
 else (bif (ige a1 (iadd .i64 (iadd .i64 (imul .i64 y3 (1048576)) (1)) (1048576))) then
 (some false)
 else (Option.bind (F35 FUEL a0 a1 a2 a3 a4 a5 a6 a7 a8 a10 a11 a12 a13 a14) fun y4 =>
 bif y4.q0 then
 (Option.bind (F22 FUEL y4.q1 y4.q2 y4.q3 y4.q4 y4.q5 y4.q6 y4.q7 y4.q8 y4.q9 a9 y4.q10 y4.q11 y4.q12 y4.q13 y4.q14 a0 a1 a2 a3 (0) false false (0) (0) [] ByteArray.empty (0) (0) false (0)) fun y5 =>
 bif y5 then
 (Option.bind (F36 FUEL a0 a1 a2 a3 a4 a5 a6 a7 a8 a9 a10 a11 a12 a13 a14) fun y6 =>
 some y6)
 else (some false))
 else (Option.bind (F22 FUEL y4.q1 y4.q2 y4.q3 y4.q4 y4.q5 y4.q6 y4.q7 y4.q8 y4.q9 [] y4.q10 y4.q11 y4.q12 y4.q13 y4.q14 a0 a1 a2 a3 (0) false false (0) (0) [] ByteArray.empty (0) (0) false (0)) fun y7 =>
 bif y7 then
 (Option.bind (F36 FUEL a0 a1 a2 a3 a4 a5 a6 a7 a8 a9 a10 a11 a12 a13 a14) fun y8 =>
 some y8)
 else (some false)))))))))

/-! ### garland/garlandref10.Call -/
def F15 (_n : Nat) (a0 a1 a2 a3 a4 a5 : Int) (a6 a7 : Bool) (a8 a9 : Int) (a10 : List (Int)) (a11 : ByteArray) (a12 a13 : Int) (a14 : Bool) (a15 a16 a17 a18 a19 a20 a21 a22 a23 a24 a25 : Int) (a26 a27 : Bool) (a28 a29 : Int) (a30 : List (Int)) (a31 : ByteArray) (a32 a33 : Int) (a34 : Bool) (a35 a36 a37 a38 a39 : Int) : Option (Bool) :=
  bif (ieq a0 a20) then
 (Option.bind (F22 FUEL a1 a2 a3 a4 a5 a6 a7 a8 a9 a10 a11 a12 a13 a14 a15 a21 a22 a23 a24 a25 a26 a27 a28 a29 a30 a31 a32 a33 a34 a35) fun y1 =>
 bif y1 then
 (bif (ieq a16 a36) then
 (bif (ieq a17 a37) then
 (bif (ieq a18 a38) then
 (some (ieq a19 a39))
 else (some false))
 else (some false))
 else (some false))
 else (some false))
 else (some false)

/-! ### garland/garlandref10.Calls -/
def F19_c0 : Nat → List (Int × Int × Int × Int × Int × Int × Bool × Bool × Int × Int × (List (Int)) × ByteArray × Int × Int × Bool × Int × Int × Int × Int × Int) → List (Int × Int × Int × Int × Int × Int × Bool × Bool × Int × Int × (List (Int)) × ByteArray × Int × Int × Bool × Int × Int × Int × Int × Int) → Int → Option (Bool)
  | 0, _, _, _ => none
  | n + 1, x0, x1, x2 => bif (ilt x2 (ofN (List.length x0))) then
 (bif (inb x2 (List.length x0)) then
 (bif (inb x2 (List.length x1)) then
 (Option.bind (F15 FUEL (List.getD x0 (Int.toNat x2) (0, 0, 0, 0, 0, 0, false, false, 0, 0, [], ByteArray.empty, 0, 0, false, 0, 0, 0, 0, 0)).1 (List.getD x0 (Int.toNat x2) (0, 0, 0, 0, 0, 0, false, false, 0, 0, [], ByteArray.empty, 0, 0, false, 0, 0, 0, 0, 0)).2.1 (List.getD x0 (Int.toNat x2) (0, 0, 0, 0, 0, 0, false, false, 0, 0, [], ByteArray.empty, 0, 0, false, 0, 0, 0, 0, 0)).2.2.1 (List.getD x0 (Int.toNat x2) (0, 0, 0, 0, 0, 0, false, false, 0, 0, [], ByteArray.empty, 0, 0, false, 0, 0, 0, 0, 0)).2.2.2.1 (List.getD x0 (Int.toNat x2) (0, 0, 0, 0, 0, 0, false, false, 0, 0, [], ByteArray.empty, 0, 0, false, 0, 0, 0, 0, 0)).2.2.2.2.1 (List.getD x0 (Int.toNat x2) (0, 0, 0, 0, 0, 0, false, false, 0, 0, [], ByteArray.empty, 0, 0, false, 0, 0, 0, 0, 0)).2.2.2.2.2.1 (List.getD x0 (Int.toNat x2) (0, 0, 0, 0, 0, 0, false, false, 0, 0, [], ByteArray.empty, 0, 0, false, 0, 0, 0, 0, 0)).2.2.2.2.2.2.1 (List.getD x0 (Int.toNat x2) (0, 0, 0, 0, 0, 0, false, false, 0, 0, [], ByteArray.empty, 0, 0, false, 0, 0, 0, 0, 0)).2.2.2.2.2.2.2.1 (List.getD x0 (Int.toNat x2) (0, 0, 0, 0, 0, 0, false, false, 0, 0, [], ByteArray.empty, 0, 0, false, 0, 0, 0, 0, 0)).2.2.2.2.2.2.2.2.1 (List.getD x0 (Int.toNat x2) (0, 0, 0, 0, 0, 0, false, false, 0, 0, [], ByteArray.empty, 0, 0, false, 0, 0, 0, 0, 0)).2.2.2.2.2.2.2.2.2.1 (List.getD x0 (Int.toNat x2) (0, 0, 0, 0, 0, 0, false, false, 0, 0, [], ByteArray.empty, 0, 0, false, 0, 0, 0, 0, 0)).2.2.2.2.2.2.2.2.2.2.1 (List.getD x0 (Int.toNat x2) (0, 0, 0, 0, 0, 0, false, false, 0, 0, [], ByteArray.empty, 0, 0, false, 0, 0, 0, 0, 0)).2.2.2.2.2.2.2.2.2.2.2.1 (List.getD x0 (Int.toNat x2) (0, 0, 0, 0, 0, 0, false, false, 0, 0, [], ByteArray.empty, 0, 0, false, 0, 0, 0, 0, 0)).2.2.2.2.2.2.2.2.2.2.2.2.1 (List.getD x0 (Int.toNat x2) (0, 0, 0, 0, 0, 0, false, false, 0, 0, [], ByteArray.empty, 0, 0, false, 0, 0, 0, 0, 0)).2.2.2.2.2.2.2.2.2.2.2.2.2.1 (List.getD x0 (Int.toNat x2) (0, 0, 0, 0, 0, 0, false, false, 0, 0, [], ByteArray.empty, 0, 0, false, 0, 0, 0, 0, 0)).2.2.2.2.2.2.2.2.2.2.2.2.2.2.1 (List.getD x0 (Int.toNat x2) (0, 0, 0, 0, 0, 0, false, false, 0, 0, [], ByteArray.empty, 0, 0, false, 0, 0, 0, 0, 0)).2.2.2.2.2.2.2.2.2.2.2.2.2.2.2.1 (List.getD x0 (Int.toNat x2) (0, 0, 0, 0, 0, 0, false, false, 0, 0, [], ByteArray.empty, 0, 0, false, 0, 0, 0, 0, 0)).2.2.2.2.2.2.2.2.2.2.2.2.2.2.2.2.1 (List.getD x0 (Int.toNat x2) (0, 0, 0, 0, 0, 0, false, false, 0, 0, [], ByteArray.empty, 0, 0, false, 0, 0, 0, 0, 0)).2.2.2.2.2.2.2.2.2.2.2.2.2.2.2.2.2.1 (List.getD x0 (Int.toNat x2) (0, 0, 0, 0, 0, 0, false, false, 0, 0, [], ByteArray.empty, 0, 0, false, 0, 0, 0, 0, 0)).2.2.2.2.2.2.2.2.2.2.2.2.2.2.2.2.2.2.1 (List.getD x0 (Int.toNat x2) (0, 0, 0, 0, 0, 0, false, false, 0, 0, [], ByteArray.empty, 0, 0, false, 0, 0, 0, 0, 0)).2.2.2.2.2.2.2.2.2.2.2.2.2.2.2.2.2.2.2 (List.getD x1 (Int.toNat x2) (0, 0, 0, 0, 0, 0, false, false, 0, 0, [], ByteArray.empty, 0, 0, false, 0, 0, 0, 0, 0)).1 (List.getD x1 (Int.toNat x2) (0, 0, 0, 0, 0, 0, false, false, 0, 0, [], ByteArray.empty, 0, 0, false, 0, 0, 0, 0, 0)).2.1 (List.getD x1 (Int.toNat x2) (0, 0, 0, 0, 0, 0, false, false, 0, 0, [], ByteArray.empty, 0, 0, false, 0, 0, 0, 0, 0)).2.2.1 (List.getD x1 (Int.toNat x2) (0, 0, 0, 0, 0, 0, false, false, 0, 0, [], ByteArray.empty, 0, 0, false, 0, 0, 0, 0, 0)).2.2.2.1 (List.getD x1 (Int.toNat x2) (0, 0, 0, 0, 0, 0, false, false, 0, 0, [], ByteArray.empty, 0, 0, false, 0, 0, 0, 0, 0)).2.2.2.2.1 (List.getD x1 (Int.toNat x2) (0, 0, 0, 0, 0, 0, false, false, 0, 0, [], ByteArray.empty, 0, 0, false, 0, 0, 0, 0, 0)).2.2.2.2.2.1 (List.getD x1 (Int.toNat x2) (0, 0, 0, 0, 0, 0, false, false, 0, 0, [], ByteArray.empty, 0, 0, false, 0, 0, 0, 0, 0)).2.2.2.2.2.2.1 (List.getD x1 (Int.toNat x2) (0, 0, 0, 0, 0, 0, false, false, 0, 0, [], ByteArray.empty, 0, 0, false, 0, 0, 0, 0, 0)).2.2.2.2.2.2.2.1 (List.getD x1 (Int.toNat x2) (0, 0, 0, 0, 0, 0, false, false, 0, 0, [], ByteArray.empty, 0, 0, false, 0, 0, 0, 0, 0)).2.2.2.2.2.2.2.2.1 (List.getD x1 (Int.toNat x2) (0, 0, 0, 0, 0, 0, false, false, 0, 0, [], ByteArray.empty, 0, 0, false, 0, 0, 0, 0, 0)).2.2.2.2.2.2.2.2.2.1 (List.getD x1 (Int.toNat x2) (0, 0, 0, 0, 0, 0, false, false, 0, 0, [], ByteArray.empty, 0, 0, false, 0, 0, 0, 0, 0)).2.2.2.2.2.2.2.2.2.2.1 (List.getD x1 (Int.toNat x2) (0, 0, 0, 0, 0, 0, false, false, 0, 0, [], ByteArray.empty, 0, 0, false, 0, 0, 0, 0, 0)).2.2.2.2.2.2.2.2.2.2.2.1 (List.getD x1 (Int.toNat x2) (0, 0, 0, 0, 0, 0, false, false, 0, 0, [], ByteArray.empty, 0, 0, false, 0, 0, 0, 0, 0)).2.2.2.2.2.2.2.2.2.2.2.2.1 (List.getD x1 (Int.toNat x2) (0, 0, 0, 0, 0, 0, false, false, 0, 0, [], ByteArray.empty, 0, 0, false, 0, 0, 0, 0, 0)).2.2.2.2.2.2.2.2.2.2.2.2.2.1 (List.getD x1 (Int.toNat x2) (0, 0, 0, 0, 0, 0, false, false, 0, 0, [], ByteArray.empty, 0, 0, false, 0, 0, 0, 0, 0)).2.2.2.2.2.2.2.2.2.2.2.2.2.2.1 (List.getD x1 (Int.toNat x2) (0, 0, 0, 0, 0, 0, false, false, 0, 0, [], ByteArray.empty, 0, 0, false, 0, 0, 0, 0, 0)).2.2.2.2.2.2.2.2.2.2.2.2.2.2.2.1 (List.getD x1 (Int.toNat x2) (0, 0, 0, 0, 0, 0, false, false, 0, 0, [], ByteArray.empty, 0, 0, false, 0, 0, 0, 0, 0)).2.2.2.2.2.2.2.2.2.2.2.2.2.2.2.2.1 (List.getD x1 (Int.toNat x2) (0, 0, 0, 0, 0, 0, false, false, 0, 0, [], ByteArray.empty, 0, 0, false, 0, 0, 0, 0, 0)).2.2.2.2.2.2.2.2.2.2.2.2.2.2.2.2.2.1 (List.getD x1 (Int.toNat x2) (0, 0, 0, 0, 0, 0, false, false, 0, 0, [], ByteArray.empty, 0, 0, false, 0, 0, 0, 0, 0)).2.2.2.2.2.2.2.2.2.2.2.2.2.2.2.2.2.2.1 (List.getD x1 (Int.toNat x2) (0, 0, 0, 0, 0, 0, false, false, 0, 0, [], ByteArray.empty, 0, 0, false, 0, 0, 0, 0, 0)).2.2.2.2.2.2.2.2.2.2.2.2.2.2.2.2.2.2.2) fun y1 =>
 bif (!y1) then
 (some false)
 else (F19_c0 n x0 x1 (iadd .i64 x2 (1))))
 else (none))
 else (none))
 else (some true)
def F19 (n : Nat) (a0 a1 : List (Int × Int × Int × Int × Int × Int × Bool × Bool × Int × Int × (List (Int)) × ByteArray × Int × Int × Bool × Int × Int × Int × Int × Int)) : Option (Bool) :=
  bif (ine (ofN (List.length a0)) (ofN (List.length a1))) then
 (some false)
 else (F19_c0 n a0 a1 (0))

/-! ### garland/garlandref10.Same -/
def F12 (_n : Nat) (a0 a1 : Int) (a2 : List (Int × Int × Int × Int × Int × Int × Bool × Bool × Int × Int × (List (Int)) × ByteArray × Int × Int × Bool × Int × Int × Int × Int × Int)) (a3 a4 : Int) (a5 : List (Int × Int × Int × Int × Int × Int × Bool × Bool × Int × Int × (List (Int)) × ByteArray × Int × Int × Bool × Int × Int × Int × Int × Int)) : Option (Bool) :=
  bif (ieq a0 a3) then
 (bif (ieq a1 a4) then
 (Option.bind (F19 FUEL a2 a5) fun y1 =>
 some y1)
 else (some false))
 else (some false)

/-! ### garland/garlandlaw10.CallsOnce -/
def F3_c0 : Nat → Int → List (Int × Int × Int × Int × Int × Int × Int × Bool × Bool × Int × Int × (List (Int)) × ByteArray × Int × Int × Bool × Int × Int) → Int → Int → Int → Int → Int → Int → List (Int × Int × Int × Int × Int × Int × Bool × Bool × Int × Int × (List (Int)) × ByteArray × Int × Int × Bool × Int × Int × Int × Int × Int) → Option (Bool)
  | 0, _, _, _, _, _, _, _, _, _ => none
  | n + 1, x0, x1, x2, x3, x4, x5, x6, x7, x8 => bif (ilt x5 (ofN (List.length x1))) then
 (bif (inb x5 (List.length x1)) then
 (Option.bind (F9 FUEL (List.getD x1 (Int.toNat x5) (0, 0, 0, 0, 0, 0, 0, false, false, 0, 0, [], ByteArray.empty, 0, 0, false, 0, 0)).2.2.1 (List.getD x1 (Int.toNat x5) (0, 0, 0, 0, 0, 0, 0, false, false, 0, 0, [], ByteArray.empty, 0, 0, false, 0, 0)).2.2.2.1 (List.getD x1 (Int.toNat x5) (0, 0, 0, 0, 0, 0, 0, false, false, 0, 0, [], ByteArray.empty, 0, 0, false, 0, 0)).2.2.2.2.1 (List.getD x1 (Int.toNat x5) (0, 0, 0, 0, 0, 0, 0, false, false, 0, 0, [], ByteArray.empty, 0, 0, false, 0, 0)).2.2.2.2.2.1 (List.getD x1 (Int.toNat x5) (0, 0, 0, 0, 0, 0, 0, false, false, 0, 0, [], ByteArray.empty, 0, 0, false, 0, 0)).2.2.2.2.2.2.1 (List.getD x1 (Int.toNat x5) (0, 0, 0, 0, 0, 0, 0, false, false, 0, 0, [], ByteArray.empty, 0, 0, false, 0, 0)).2.2.2.2.2.2.2.1 (List.getD x1 (Int.toNat x5) (0, 0, 0, 0, 0, 0, 0, false, false, 0, 0, [], ByteArray.empty, 0, 0, false, 0, 0)).2.2.2.2.2.2.2.2.1 (List.getD x1 (Int.toNat x5) (0, 0, 0, 0, 0, 0, 0, false, false, 0, 0, [], ByteArray.empty, 0, 0, false, 0, 0)).2.2.2.2.2.2.2.2.2.1 (List.getD x1 (Int.toNat x5) (0, 0, 0, 0, 0, 0, 0, false, false, 0, 0, [], ByteArray.empty, 0, 0, false, 0, 0)).2.2.2.2.2.2.2.2.2.2.1 (List.getD x1 (Int.toNat x5) (0, 0, 0, 0, 0, 0, 0, false, false, 0, 0, [], ByteArray.empty, 0, 0, false, 0, 0)).2.2.2.2.2.2.2.2.2.2.2.1 (List.getD x1 (Int.toNat x5) (0, 0, 0, 0, 0, 0, 0, false, false, 0, 0, [], ByteArray.empty, 0, 0, false, 0, 0)).2.2.2.2.2.2.2.2.2.2.2.2.1 (List.getD x1 (Int.toNat x5) (0, 0, 0, 0, 0, 0, 0, false, false, 0, 0, [], ByteArray.empty, 0, 0, false, 0, 0)).2.2.2.2.2.2.2.2.2.2.2.2.2.1 (List.getD x1 (Int.toNat x5) (0, 0, 0, 0, 0, 0, 0, false, false, 0, 0, [], ByteArray.empty, 0, 0, false, 0, 0)).2.2.2.2.2.2.2.2.2.2.2.2.2.2.1 (List.getD x1 (Int.toNat x5) (0, 0, 0, 0, 0, 0, 0, false, false, 0, 0, [], ByteArray.empty, 0, 0, false, 0, 0)).2.2.2.2.2.2.2.2.2.2.2.2.2.2.2.1 (List.getD x1 (Int.toNat x5) (0, 0, 0, 0, 0, 0, 0, false, false, 0, 0, [], ByteArray.empty, 0, 0, false, 0, 0)).2.2.2.2.2.2.2.2.2.2.2.2.2.2.2.2.1) fun y6 =>
 bif y6 then
 (Option.bind (F8 FUEL) fun y7 =>
 some y7)
 else (bif (ieq (List.getD x1 (Int.toNat x5) (0, 0, 0, 0, 0, 0, 0, false, false, 0, 0, [], ByteArray.empty, 0, 0, false, 0, 0)).1 (0)) then
 (Option.bind (F10 FUEL x6 x7 x8 (List.getD x1 (Int.toNat x5) (0, 0, 0, 0, 0, 0, 0, false, false, 0, 0, [], ByteArray.empty, 0, 0, false, 0, 0)).2.2.1 (List.getD x1 (Int.toNat x5) (0, 0, 0, 0, 0, 0, 0, false, false, 0, 0, [], ByteArray.empty, 0, 0, false, 0, 0)).2.2.2.1 (List.getD x1 (Int.toNat x5) (0, 0, 0, 0, 0, 0, 0, false, false, 0, 0, [], ByteArray.empty, 0, 0, false, 0, 0)).2.2.2.2.1 (List.getD x1 (Int.toNat x5) (0, 0, 0, 0, 0, 0, 0, false, false, 0, 0, [], ByteArray.empty, 0, 0, false, 0, 0)).2.2.2.2.2.1 (List.getD x1 (Int.toNat x5) (0, 0, 0, 0, 0, 0, 0, false, false, 0, 0, [], ByteArray.empty, 0, 0, false, 0, 0)).2.2.2.2.2.2.1 (List.getD x1 (Int.toNat x5) (0, 0, 0, 0, 0, 0, 0, false, false, 0, 0, [], ByteArray.empty, 0, 0, false, 0, 0)).2.2.2.2.2.2.2.1 (List.getD x1 (Int.toNat x5) (0, 0, 0, 0, 0, 0, 0, false, false, 0, 0, [], ByteArray.empty, 0, 0, false, 0, 0)).2.2.2.2.2.2.2.2.1 (List.getD x1 (Int.toNat x5) (0, 0, 0, 0, 0, 0, 0, false, false, 0, 0, [], ByteArray.empty, 0, 0, false, 0, 0)).2.2.2.2.2.2.2.2.2.1 (List.getD x1 (Int.toNat x5) (0, 0, 0, 0, 0, 0, 0, false, false, 0, 0, [], ByteArray.empty, 0, 0, false, 0, 0)).2.2.2.2.2.2.2.2.2.2.1 (List.getD x1 (Int.toNat x5) (0, 0, 0, 0, 0, 0, 0, false, false, 0, 0, [], ByteArray.empty, 0, 0, false, 0, 0)).2.2.2.2.2.2.2.2.2.2.2.1 (List.getD x1 (Int.toNat x5) (0, 0, 0, 0, 0, 0, 0, false, false, 0, 0, [], ByteArray.empty, 0, 0, false, 0, 0)).2.2.2.2.2.2.2.2.2.2.2.2.1 (List.getD x1 (Int.toNat x5) (0, 0, 0, 0, 0, 0, 0, false, false, 0, 0, [], ByteArray.empty, 0, 0, false, 0, 0)).2.2.2.2.2.2.2.2.2.2.2.2.2.1 (List.getD x1 (Int.toNat x5) (0, 0, 0, 0, 0, 0, 0, false, false, 0, 0, [], ByteArray.empty, 0, 0, false, 0, 0)).2.2.2.2.2.2.2.2.2.2.2.2.2.2.1 (List.getD x1 (Int.toNat x5) (0, 0, 0, 0, 0, 0, 0, false, false, 0, 0, [], ByteArray.empty, 0, 0, false, 0, 0)).2.2.2.2.2.2.2.2.2.2.2.2.2.2.2.1 (List.getD x1 (Int.toNat x5) (0, 0, 0, 0, 0, 0, 0, false, false, 0, 0, [], ByteArray.empty, 0, 0, false, 0, 0)).2.2.2.2.2.2.2.2.2.2.2.2.2.2.2.2.1 (List.getD x1 (Int.toNat x5) (0, 0, 0, 0, 0, 0, 0, false, false, 0, 0, [], ByteArray.empty, 0, 0, false, 0, 0)).2.2.2.2.2.2.2.2.2.2.2.2.2.2.2.2.2 x5 x2) fun y8 =>
 bif (ieq y8.q17 (0)) then
 (bif (ine y8.q3 (iadd .i64 (imul .i64 x0 (1048576)) (iadd .i64 x3 (1)))) then
 (some false)
 else (bif (ine y8.q4 x0) then
 (some false)
 else (bif (ine y8.q5 (List.getD x1 (Int.toNat x5) (0, 0, 0, 0, 0, 0, 0, false, false, 0, 0, [], ByteArray.empty, 0, 0, false, 0, 0)).2.2.2.2.2.1) then
 (some false)
 else (Option.bind (F11 FUEL y8.q2 y8.q3 y8.q4 y8.q5 y8.q6 y8.q7 y8.q8 y8.q9 y8.q10 y8.q11 y8.q12 y8.q13 y8.q14 y8.q15 y8.q16) fun y9 =>
 bif (!y9) then
 (some false)
 else (bif (ine (ofN (List.length y8.q18)) (iadd .i64 (ofN (List.length x8)) (1))) then
 (some false)
 else (Option.bind (F17 FUEL y8.q0 y8.q1 y8.q18) fun y10 =>
 bif (!y10) then
 (some false)
 else (bif (ine y8.q1 (iadd .i64 x3 (1))) then
 (some false)
 else (bif (ine (iadd .i64 x3 (1)) (iadd .i64 x4 (ofN (List.length y8.q18)))) then
 (some false)
 else (bif (igt (ofN (List.length y8.q18)) (16)) then
 (some false)
 else (F3_c0 n x0 x1 x2 (iadd .i64 x3 (1)) x4 (iadd .i64 x5 (1)) y8.q0 y8.q1 y8.q18))))))))))
 else (Option.bind (F12 FUEL y8.q0 y8.q1 y8.q18 x6 x7 x8) fun y11 =>
 bif (!y11) then
 (some false)
 else (bif (ieq y8.q17 (100)) then
 (bif (ilt (ofN (List.length x8)) (16)) then
 (some false)
 else (bif (ine y8.q3 (0)) then
 (some false)
 else (Option.bind (F17 FUEL y8.q0 y8.q1 y8.q18) fun y12 =>
 bif (!y12) then
 (some false)
 else (bif (ine y8.q1 x3) then
 (some false)
 else (bif (ine x3 (iadd .i64 x4 (ofN (List.length y8.q18)))) then
 (some false)
 else (bif (igt (ofN (List.length y8.q18)) (16)) then
 (some false)
 else (F3_c0 n x0 x1 x2 x3 x4 (iadd .i64 x5 (1)) y8.q0 y8.q1 y8.q18)))))))
 else (bif (ine y8.q3 (0)) then
 (some false)
 else (Option.bind (F17 FUEL y8.q0 y8.q1 y8.q18) fun y13 =>
 bif (!y13) then
 (some false)
 else (bif (ine y8.q1 x3) then
 (some false)
 else (bif (ine x3 (iadd .i64 x4 (ofN (List.length y8.q18)))) then
 (some false)
 else (bif (igt (ofN (List.length y8.q18)) (16)) then
 (some false)
 else (F3_c0 n x0 x1 x2 x3 x4 (iadd .i64 x5 (1)) y8.q0 y8.q1 y8.q18)))))))))
 else (bif (ieq (List.getD x1 (Int.toNat x5) (0, 0, 0, 0, 0, 0, 0, false, false, 0, 0, [], ByteArray.empty, 0, 0, false, 0, 0)).1 (1)) then
 (bif (ilt (List.getD x1 (Int.toNat x5) (0, 0, 0, 0, 0, 0, 0, false, false, 0, 0, [], ByteArray.empty, 0, 0, false, 0, 0)).2.1 (0)) then
 (F3_c0 n x0 x1 x2 x3 x4 (iadd .i64 x5 (1)) x6 x7 x8)
 else (bif (ige (List.getD x1 (Int.toNat x5) (0, 0, 0, 0, 0, 0, 0, false, false, 0, 0, [], ByteArray.empty, 0, 0, false, 0, 0)).2.1 (ofN (List.length x8))) then
 (F3_c0 n x0 x1 x2 x3 x4 (iadd .i64 x5 (1)) x6 x7 x8)
 else (bif (inb (List.getD x1 (Int.toNat x5) (0, 0, 0, 0, 0, 0, 0, false, false, 0, 0, [], ByteArray.empty, 0, 0, false, 0, 0)).2.1 (List.length x8)) then
 (bif (nlt (Int.toNat (List.getD x1 (Int.toNat x5) (0, 0, 0, 0, 0, 0, 0, false, false, 0, 0, [], ByteArray.empty, 0, 0, false, 0, 0)).2.1) (List.length x8)) then
 (Option.bind (F13 FUEL (List.getD x8 (Int.toNat (List.getD x1 (Int.toNat x5) (0, 0, 0, 0, 0, 0, 0, false, false, 0, 0, [], ByteArray.empty, 0, 0, false, 0, 0)).2.1) (0, 0, 0, 0, 0, 0, false, false, 0, 0, [], ByteArray.empty, 0, 0, false, 0, 0, 0, 0, 0)).2.1 (List.getD x8 (Int.toNat (List.getD x1 (Int.toNat x5) (0, 0, 0, 0, 0, 0, 0, false, false, 0, 0, [], ByteArray.empty, 0, 0, false, 0, 0)).2.1) (0, 0, 0, 0, 0, 0, false, false, 0, 0, [], ByteArray.empty, 0, 0, false, 0, 0, 0, 0, 0)).2.2.1 (List.getD x8 (Int.toNat (List.getD x1 (Int.toNat x5) (0, 0, 0, 0, 0, 0, 0, false, false, 0, 0, [], ByteArray.empty, 0, 0, false, 0, 0)).2.1) (0, 0, 0, 0, 0, 0, false, false, 0, 0, [], ByteArray.empty, 0, 0, false, 0, 0, 0, 0, 0)).2.2.2.1 (List.getD x8 (Int.toNat (List.getD x1 (Int.toNat x5) (0, 0, 0, 0, 0, 0, 0, false, false, 0, 0, [], ByteArray.empty, 0, 0, false, 0, 0)).2.1) (0, 0, 0, 0, 0, 0, false, false, 0, 0, [], ByteArray.empty, 0, 0, false, 0, 0, 0, 0, 0)).2.2.2.2.1 (List.getD x8 (Int.toNat (List.getD x1 (Int.toNat x5) (0, 0, 0, 0, 0, 0, 0, false, false, 0, 0, [], ByteArray.empty, 0, 0, false, 0, 0)).2.1) (0, 0, 0, 0, 0, 0, false, false, 0, 0, [], ByteArray.empty, 0, 0, false, 0, 0, 0, 0, 0)).2.2.2.2.2.1 (List.getD x8 (Int.toNat (List.getD x1 (Int.toNat x5) (0, 0, 0, 0, 0, 0, 0, false, false, 0, 0, [], ByteArray.empty, 0, 0, false, 0, 0)).2.1) (0, 0, 0, 0, 0, 0, false, false, 0, 0, [], ByteArray.empty, 0, 0, false, 0, 0, 0, 0, 0)).2.2.2.2.2.2.1 (List.getD x8 (Int.toNat (List.getD x1 (Int.toNat x5) (0, 0, 0, 0, 0, 0, 0, false, false, 0, 0, [], ByteArray.empty, 0, 0, false, 0, 0)).2.1) (0, 0, 0, 0, 0, 0, false, false, 0, 0, [], ByteArray.empty, 0, 0, false, 0, 0, 0, 0, 0)).2.2.2.2.2.2.2.1 (List.getD x8 (Int.toNat (List.getD x1 (Int.toNat x5) (0, 0, 0, 0, 0, 0, 0, false, false, 0, 0, [], ByteArray.empty, 0, 0, false, 0, 0)).2.1) (0, 0, 0, 0, 0, 0, false, false, 0, 0, [], ByteArray.empty, 0, 0, false, 0, 0, 0, 0, 0)).2.2.2.2.2.2.2.2.1 (List.getD x8 (Int.toNat (List.getD x1 (Int.toNat x5) (0, 0, 0, 0, 0, 0, 0, false, false, 0, 0, [], ByteArray.empty, 0, 0, false, 0, 0)).2.1) (0, 0, 0, 0, 0, 0, false, false, 0, 0, [], ByteArray.empty, 0, 0, false, 0, 0, 0, 0, 0)).2.2.2.2.2.2.2.2.2.1 (List.getD x8 (Int.toNat (List.getD x1 (Int.toNat x5) (0, 0, 0, 0, 0, 0, 0, false, false, 0, 0, [], ByteArray.empty, 0, 0, false, 0, 0)).2.1) (0, 0, 0, 0, 0, 0, false, false, 0, 0, [], ByteArray.empty, 0, 0, false, 0, 0, 0, 0, 0)).2.2.2.2.2.2.2.2.2.2.1 (List.getD x8 (Int.toNat (List.getD x1 (Int.toNat x5) (0, 0, 0, 0, 0, 0, 0, false, false, 0, 0, [], ByteArray.empty, 0, 0, false, 0, 0)).2.1) (0, 0, 0, 0, 0, 0, false, false, 0, 0, [], ByteArray.empty, 0, 0, false, 0, 0, 0, 0, 0)).2.2.2.2.2.2.2.2.2.2.2.1 (List.getD x8 (Int.toNat (List.getD x1 (Int.toNat x5) (0, 0, 0, 0, 0, 0, 0, false, false, 0, 0, [], ByteArray.empty, 0, 0, false, 0, 0)).2.1) (0, 0, 0, 0, 0, 0, false, false, 0, 0, [], ByteArray.empty, 0, 0, false, 0, 0, 0, 0, 0)).2.2.2.2.2.2.2.2.2.2.2.2.1 (List.getD x8 (Int.toNat (List.getD x1 (Int.toNat x5) (0, 0, 0, 0, 0, 0, 0, false, false, 0, 0, [], ByteArray.empty, 0, 0, false, 0, 0)).2.1) (0, 0, 0, 0, 0, 0, false, false, 0, 0, [], ByteArray.empty, 0, 0, false, 0, 0, 0, 0, 0)).2.2.2.2.2.2.2.2.2.2.2.2.2.1 (List.getD x8 (Int.toNat (List.getD x1 (Int.toNat x5) (0, 0, 0, 0, 0, 0, 0, false, false, 0, 0, [], ByteArray.empty, 0, 0, false, 0, 0)).2.1) (0, 0, 0, 0, 0, 0, false, false, 0, 0, [], ByteArray.empty, 0, 0, false, 0, 0, 0, 0, 0)).2.2.2.2.2.2.2.2.2.2.2.2.2.2.1 (List.getD x8 (Int.toNat (List.getD x1 (Int.toNat x5) (0, 0, 0, 0, 0, 0, 0, false, false, 0, 0, [], ByteArray.empty, 0, 0, false, 0, 0)).2.1) (0, 0, 0, 0, 0, 0, false, false, 0, 0, [], ByteArray.empty, 0, 0, false, 0, 0, 0, 0, 0)).2.2.2.2.2.2.2.2.2.2.2.2.2.2.2.1) fun y14 =>
 bif (ieq y14.q0 (12)) then
 (Option.bind (F14 FUEL x6 x7 x8 y14.q0 y14.q1 y14.q2 y14.q3 y14.q4 y14.q5 y14.q6 y14.q7 y14.q8 [] y14.q9 y14.q10 y14.q11 y14.q12 (201)) fun y15 =>
 bif (!y15.q22) then
 (some false)
 else (bif (inb (List.getD x1 (Int.toNat x5) (0, 0, 0, 0, 0, 0, 0, false, false, 0, 0, [], ByteArray.empty, 0, 0, false, 0, 0)).2.1 (List.length x8)) then
 (bif (nlt (Int.toNat (List.getD x1 (Int.toNat x5) (0, 0, 0, 0, 0, 0, 0, false, false, 0, 0, [], ByteArray.empty, 0, 0, false, 0, 0)).2.1) (List.length x8)) then
 (Option.bind (F15 FUEL y15.q2 y15.q3 y15.q4 y15.q5 y15.q6 y15.q7 y15.q8 y15.q9 y15.q10 y15.q11 y15.q12 y15.q13 y15.q14 y15.q15 y15.q16 y15.q17 y15.q18 y15.q19 y15.q20 y15.q21 (List.getD x8 (Int.toNat (List.getD x1 (Int.toNat x5) (0, 0, 0, 0, 0, 0, 0, false, false, 0, 0, [], ByteArray.empty, 0, 0, false, 0, 0)).2.1) (0, 0, 0, 0, 0, 0, false, false, 0, 0, [], ByteArray.empty, 0, 0, false, 0, 0, 0, 0, 0)).1 (List.getD x8 (Int.toNat (List.getD x1 (Int.toNat x5) (0, 0, 0, 0, 0, 0, 0, false, false, 0, 0, [], ByteArray.empty, 0, 0, false, 0, 0)).2.1) (0, 0, 0, 0, 0, 0, false, false, 0, 0, [], ByteArray.empty, 0, 0, false, 0, 0, 0, 0, 0)).2.1 (List.getD x8 (Int.toNat (List.getD x1 (Int.toNat x5) (0, 0, 0, 0, 0, 0, 0, false, false, 0, 0, [], ByteArray.empty, 0, 0, false, 0, 0)).2.1) (0, 0, 0, 0, 0, 0, false, false, 0, 0, [], ByteArray.empty, 0, 0, false, 0, 0, 0, 0, 0)).2.2.1 (List.getD x8 (Int.toNat (List.getD x1 (Int.toNat x5) (0, 0, 0, 0, 0, 0, 0, false, false, 0, 0, [], ByteArray.empty, 0, 0, false, 0, 0)).2.1) (0, 0, 0, 0, 0, 0, false, false, 0, 0, [], ByteArray.empty, 0, 0, false, 0, 0, 0, 0, 0)).2.2.2.1 (List.getD x8 (Int.toNat (List.getD x1 (Int.toNat x5) (0, 0, 0, 0, 0, 0, 0, false, false, 0, 0, [], ByteArray.empty, 0, 0, false, 0, 0)).2.1) (0, 0, 0, 0, 0, 0, false, false, 0, 0, [], ByteArray.empty, 0, 0, false, 0, 0, 0, 0, 0)).2.2.2.2.1 (List.getD x8 (Int.toNat (List.getD x1 (Int.toNat x5) (0, 0, 0, 0, 0, 0, 0, false, false, 0, 0, [], ByteArray.empty, 0, 0, false, 0, 0)).2.1) (0, 0, 0, 0, 0, 0, false, false, 0, 0, [], ByteArray.empty, 0, 0, false, 0, 0, 0, 0, 0)).2.2.2.2.2.1 (List.getD x8 (Int.toNat (List.getD x1 (Int.toNat x5) (0, 0, 0, 0, 0, 0, 0, false, false, 0, 0, [], ByteArray.empty, 0, 0, false, 0, 0)).2.1) (0, 0, 0, 0, 0, 0, false, false, 0, 0, [], ByteArray.empty, 0, 0, false, 0, 0, 0, 0, 0)).2.2.2.2.2.2.1 (List.getD x8 (Int.toNat (List.getD x1 (Int.toNat x5) (0, 0, 0, 0, 0, 0, 0, false, false, 0, 0, [], ByteArray.empty, 0, 0, false, 0, 0)).2.1) (0, 0, 0, 0, 0, 0, false, false, 0, 0, [], ByteArray.empty, 0, 0, false, 0, 0, 0, 0, 0)).2.2.2.2.2.2.2.1 (List.getD x8 (Int.toNat (List.getD x1 (Int.toNat x5) (0, 0, 0, 0, 0, 0, 0, false, false, 0, 0, [], ByteArray.empty, 0, 0, false, 0, 0)).2.1) (0, 0, 0, 0, 0, 0, false, false, 0, 0, [], ByteArray.empty, 0, 0, false, 0, 0, 0, 0, 0)).2.2.2.2.2.2.2.2.1 (List.getD x8 (Int.toNat (List.getD x1 (Int.toNat x5) (0, 0, 0, 0, 0, 0, 0, false, false, 0, 0, [], ByteArray.empty, 0, 0, false, 0, 0)).2.1) (0, 0, 0, 0, 0, 0, false, false, 0, 0, [], ByteArray.empty, 0, 0, false, 0, 0, 0, 0, 0)).2.2.2.2.2.2.2.2.2.1 (List.getD x8 (Int.toNat (List.getD x1 (Int.toNat x5) (0, 0, 0, 0, 0, 0, 0, false, false, 0, 0, [], ByteArray.empty, 0, 0, false, 0, 0)).2.1) (0, 0, 0, 0, 0, 0, false, false, 0, 0, [], ByteArray.empty, 0, 0, false, 0, 0, 0, 0, 0)).2.2.2.2.2.2.2.2.2.2.1 (List.getD x8 (Int.toNat (List.getD x1 (Int.toNat x5) (0, 0, 0, 0, 0, 0, 0, false, false, 0, 0, [], ByteArray.empty, 0, 0, false, 0, 0)).2.1) (0, 0, 0, 0, 0, 0, false, false, 0, 0, [], ByteArray.empty, 0, 0, false, 0, 0, 0, 0, 0)).2.2.2.2.2.2.2.2.2.2.2.1 (List.getD x8 (Int.toNat (List.getD x1 (Int.toNat x5) (0, 0, 0, 0, 0, 0, 0, false, false, 0, 0, [], ByteArray.empty, 0, 0, false, 0, 0)).2.1) (0, 0, 0, 0, 0, 0, false, false, 0, 0, [], ByteArray.empty, 0, 0, false, 0, 0, 0, 0, 0)).2.2.2.2.2.2.2.2.2.2.2.2.1 (List.getD x8 (Int.toNat (List.getD x1 (Int.toNat x5) (0, 0, 0, 0, 0, 0, 0, false, false, 0, 0, [], ByteArray.empty, 0, 0, false, 0, 0)).2.1) (0, 0, 0, 0, 0, 0, false, false, 0, 0, [], ByteArray.empty, 0, 0, false, 0, 0, 0, 0, 0)).2.2.2.2.2.2.2.2.2.2.2.2.2.1 (List.getD x8 (Int.toNat (List.getD x1 (Int.toNat x5) (0, 0, 0, 0, 0, 0, 0, false, false, 0, 0, [], ByteArray.empty, 0, 0, false, 0, 0)).2.1) (0, 0, 0, 0, 0, 0, false, false, 0, 0, [], ByteArray.empty, 0, 0, false, 0, 0, 0, 0, 0)).2.2.2.2.2.2.2.2.2.2.2.2.2.2.1 (List.getD x8 (Int.toNat (List.getD x1 (Int.toNat x5) (0, 0, 0, 0, 0, 0, 0, false, false, 0, 0, [], ByteArray.empty, 0, 0, false, 0, 0)).2.1) (0, 0, 0, 0, 0, 0, false, false, 0, 0, [], ByteArray.empty, 0, 0, false, 0, 0, 0, 0, 0)).2.2.2.2.2.2.2.2.2.2.2.2.2.2.2.1 (List.getD x8 (Int.toNat (List.getD x1 (Int.toNat x5) (0, 0, 0, 0, 0, 0, 0, false, false, 0, 0, [], ByteArray.empty, 0, 0, false, 0, 0)).2.1) (0, 0, 0, 0, 0, 0, false, false, 0, 0, [], ByteArray.empty, 0, 0, false, 0, 0, 0, 0, 0)).2.2.2.2.2.2.2.2.2.2.2.2.2.2.2.2.1 (List.getD x8 (Int.toNat (List.getD x1 (Int.toNat x5) (0, 0, 0, 0, 0, 0, 0, false, false, 0, 0, [], ByteArray.empty, 0, 0, false, 0, 0)).2.1) (0, 0, 0, 0, 0, 0, false, false, 0, 0, [], ByteArray.empty, 0, 0, false, 0, 0, 0, 0, 0)).2.2.2.2.2.2.2.2.2.2.2.2.2.2.2.2.2.1 (List.getD x8 (Int.toNat (List.getD x1 (Int.toNat x5) (0, 0, 0, 0, 0, 0, 0, false, false, 0, 0, [], ByteArray.empty, 0, 0, false, 0, 0)).2.1) (0, 0, 0, 0, 0, 0, false, false, 0, 0, [], ByteArray.empty, 0, 0, false, 0, 0, 0, 0, 0)).2.2.2.2.2.2.2.2.2.2.2.2.2.2.2.2.2.2.1 (List.getD x8 (Int.toNat (List.getD x1 (Int.toNat x5) (0, 0, 0, 0, 0, 0, 0, false, false, 0, 0, [], ByteArray.empty, 0, 0, false, 0, 0)).2.1) (0, 0, 0, 0, 0, 0, false, false, 0, 0, [], ByteArray.empty, 0, 0, false, 0, 0, 0, 0, 0)).2.2.2.2.2.2.2.2.2.2.2.2.2.2.2.2.2.2.2) fun y16 =>
 bif (!y16) then
 (some false)
 else (bif (ine (ofN (List.length y15.q23)) (isub .i64 (ofN (List.length x8)) (1))) then
 (some false)
 else (Option.bind (F14 FUEL y15.q0 y15.q1 y15.q23 y14.q0 y14.q1 y14.q2 y14.q3 y14.q4 y14.q5 y14.q6 y14.q7 y14.q8 [] y14.q9 y14.q10 y14.q11 y14.q12 (201)) fun y17 =>
 bif y17.q22 then
 (some false)
 else (Option.bind (F17 FUEL y15.q0 y15.q1 y15.q23) fun y18 =>
 bif (!y18) then
 (some false)
 else (bif (ine y15.q1 x3) then
 (some false)
 else (bif (ine x3 (iadd .i64 (iadd .i64 x4 (1)) (ofN (List.length y15.q23)))) then
 (some false)
 else (bif (igt (ofN (List.length y15.q23)) (16)) then
 (some false)
 else (F3_c0 n x0 x1 x2 x3 (iadd .i64 x4 (1)) (iadd .i64 x5 (1)) y15.q0 y15.q1 y15.q23))))))))
 else (none))
 else (none)))
 else (Option.bind (F14 FUEL x6 x7 x8 y14.q0 y14.q1 y14.q2 y14.q3 y14.q4 y14.q5 y14.q6 y14.q7 y14.q8 [] y14.q9 y14.q10 y14.q11 y14.q12 y14.q13) fun y19 =>
 bif (!y19.q22) then
 (some false)
 else (bif (inb (List.getD x1 (Int.toNat x5) (0, 0, 0, 0, 0, 0, 0, false, false, 0, 0, [], ByteArray.empty, 0, 0, false, 0, 0)).2.1 (List.length x8)) then
 (bif (nlt (Int.toNat (List.getD x1 (Int.toNat x5) (0, 0, 0, 0, 0, 0, 0, false, false, 0, 0, [], ByteArray.empty, 0, 0, false, 0, 0)).2.1) (List.length x8)) then
 (Option.bind (F15 FUEL y19.q2 y19.q3 y19.q4 y19.q5 y19.q6 y19.q7 y19.q8 y19.q9 y19.q10 y19.q11 y19.q12 y19.q13 y19.q14 y19.q15 y19.q16 y19.q17 y19.q18 y19.q19 y19.q20 y19.q21 (List.getD x8 (Int.toNat (List.getD x1 (Int.toNat x5) (0, 0, 0, 0, 0, 0, 0, false, false, 0, 0, [], ByteArray.empty, 0, 0, false, 0, 0)).2.1) (0, 0, 0, 0, 0, 0, false, false, 0, 0, [], ByteArray.empty, 0, 0, false, 0, 0, 0, 0, 0)).1 (List.getD x8 (Int.toNat (List.getD x1 (Int.toNat x5) (0, 0, 0, 0, 0, 0, 0, false, false, 0, 0, [], ByteArray.empty, 0, 0, false, 0, 0)).2.1) (0, 0, 0, 0, 0, 0, false, false, 0, 0, [], ByteArray.empty, 0, 0, false, 0, 0, 0, 0, 0)).2.1 (List.getD x8 (Int.toNat (List.getD x1 (Int.toNat x5) (0, 0, 0, 0, 0, 0, 0, false, false, 0, 0, [], ByteArray.empty, 0, 0, false, 0, 0)).2.1) (0, 0, 0, 0, 0, 0, false, false, 0, 0, [], ByteArray.empty, 0, 0, false, 0, 0, 0, 0, 0)).2.2.1 (List.getD x8 (Int.toNat (List.getD x1 (Int.toNat x5) (0, 0, 0, 0, 0, 0, 0, false, false, 0, 0, [], ByteArray.empty, 0, 0, false, 0, 0)).2.1) (0, 0, 0, 0, 0, 0, false, false, 0, 0, [], ByteArray.empty, 0, 0, false, 0, 0, 0, 0, 0)).2.2.2.1 (List.getD x8 (Int.toNat (List.getD x1 (Int.toNat x5) (0, 0, 0, 0, 0, 0, 0, false, false, 0, 0, [], ByteArray.empty, 0, 0, false, 0, 0)).2.1) (0, 0, 0, 0, 0, 0, false, false, 0, 0, [], ByteArray.empty, 0, 0, false, 0, 0, 0, 0, 0)).2.2.2.2.1 (List.getD x8 (Int.toNat (List.getD x1 (Int.toNat x5) (0, 0, 0, 0, 0, 0, 0, false, false, 0, 0, [], ByteArray.empty, 0, 0, false, 0, 0)).2.1) (0, 0, 0, 0, 0, 0, false, false, 0, 0, [], ByteArray.empty, 0, 0, false, 0, 0, 0, 0, 0)).2.2.2.2.2.1 (List.getD x8 (Int.toNat (List.getD x1 (Int.toNat x5) (0, 0, 0, 0, 0, 0, 0, false, false, 0, 0, [], ByteArray.empty, 0, 0, false, 0, 0)).2.1) (0, 0, 0, 0, 0, 0, false, false, 0, 0, [], ByteArray.empty, 0, 0, false, 0, 0, 0, 0, 0)).2.2.2.2.2.2.1 (List.getD x8 (Int.toNat (List.getD x1 (Int.toNat x5) (0, 0, 0, 0, 0, 0, 0, false, false, 0, 0, [], ByteArray.empty, 0, 0, false, 0, 0)).2.1) (0, 0, 0, 0, 0, 0, false, false, 0, 0, [], ByteArray.empty, 0, 0, false, 0, 0, 0, 0, 0)).2.2.2.2.2.2.2.1 (List.getD x8 (Int.toNat (List.getD x1 (Int.toNat x5) (0, 0, 0, 0, 0, 0, 0, false, false, 0, 0, [], ByteArray.empty, 0, 0, false, 0, 0)).2.1) (0, 0, 0, 0, 0, 0, false, false, 0, 0, [], ByteArray.empty, 0, 0, false, 0, 0, 0, 0, 0)).2.2.2.2.2.2.2.2.1 (List.getD x8 (Int.toNat (List.getD x1 (Int.toNat x5) (0, 0, 0, 0, 0, 0, 0, false, false, 0, 0, [], ByteArray.empty, 0, 0, false, 0, 0)).2.1) (0, 0, 0, 0, 0, 0, false, false, 0, 0, [], ByteArray.empty, 0, 0, false, 0, 0, 0, 0, 0)).2.2.2.2.2.2.2.2.2.1 (List.getD x8 (Int.toNat (List.getD x1 (Int.toNat x5) (0, 0, 0, 0, 0, 0, 0, false, false, 0, 0, [], ByteArray.empty, 0, 0, false, 0, 0)).2.1) (0, 0, 0, 0, 0, 0, false, false, 0, 0, [], ByteArray.empty, 0, 0, false, 0, 0, 0, 0, 0)).2.2.2.2.2.2.2.2.2.2.1 (List.getD x8 (Int.toNat (List.getD x1 (Int.toNat x5) (0, 0, 0, 0, 0, 0, 0, false, false, 0, 0, [], ByteArray.empty, 0, 0, false, 0, 0)).2.1) (0, 0, 0, 0, 0, 0, false, false, 0, 0, [], ByteArray.empty, 0, 0, false, 0, 0, 0, 0, 0)).2.2.2.2.2.2.2.2.2.2.2.1 (List.getD x8 (Int.toNat (List.getD x1 (Int.toNat x5) (0, 0, 0, 0, 0, 0, 0, false, false, 0, 0, [], ByteArray.empty, 0, 0, false, 0, 0)).2.1) (0, 0, 0, 0, 0, 0, false, false, 0, 0, [], ByteArray.empty, 0, 0, false, 0, 0, 0, 0, 0)).2.2.2.2.2.2.2.2.2.2.2.2.1 (List.getD x8 (Int.toNat (List.getD x1 (Int.toNat x5) (0, 0, 0, 0, 0, 0, 0, false, false, 0, 0, [], ByteArray.empty, 0, 0, false, 0, 0)).2.1) (0, 0, 0, 0, 0, 0, false, false, 0, 0, [], ByteArray.empty, 0, 0, false, 0, 0, 0, 0, 0)).2.2.2.2.2.2.2.2.2.2.2.2.2.1 (List.getD x8 (Int.toNat (List.getD x1 (Int.toNat x5) (0, 0, 0, 0, 0, 0, 0, false, false, 0, 0, [], ByteArray.empty, 0, 0, false, 0, 0)).2.1) (0, 0, 0, 0, 0, 0, false, false, 0, 0, [], ByteArray.empty, 0, 0, false, 0, 0, 0, 0, 0)).2.2.2.2.2.2.2.2.2.2.2.2.2.2.1 (List.getD x8 (Int.toNat (List.getD x1 (Int.toNat x5) (0, 0, 0, 0, 0, 0, 0, false, false, 0, 0, [], ByteArray.empty, 0, 0, false, 0, 0)).2.1) (0, 0, 0, 0, 0, 0, false, false, 0, 0, [], ByteArray.empty, 0, 0, false, 0, 0, 0, 0, 0)).2.2.2.2.2.2.2.2.2.2.2.2.2.2.2.1 (List.getD x8 (Int.toNat (List.getD x1 (Int.toNat x5) (0, 0, 0, 0, 0, 0, 0, false, false, 0, 0, [], ByteArray.empty, 0, 0, false, 0, 0)).2.1) (0, 0, 0, 0, 0, 0, false, false, 0, 0, [], ByteArray.empty, 0, 0, false, 0, 0, 0, 0, 0)).2.2.2.2.2.2.2.2.2.2.2.2.2.2.2.2.1 (List.getD x8 (Int.toNat (List.getD x1 (Int.toNat x5) (0, 0, 0, 0, 0, 0, 0, false, false, 0, 0, [], ByteArray.empty, 0, 0, false, 0, 0)).2.1) (0, 0, 0, 0, 0, 0, false, false, 0, 0, [], ByteArray.empty, 0, 0, false, 0, 0, 0, 0, 0)).2.2.2.2.2.2.2.2.2.2.2.2.2.2.2.2.2.1 (List.getD x8 (Int.toNat (List.getD x1 (Int.toNat x5) (0, 0, 0, 0, 0, 0, 0, false, false, 0, 0, [], ByteArray.empty, 0, 0, false, 0, 0)).2.1) (0, 0, 0, 0, 0, 0, false, false, 0, 0, [], ByteArray.empty, 0, 0, false, 0, 0, 0, 0, 0)).2.2.2.2.2.2.2.2.2.2.2.2.2.2.2.2.2.2.1 (List.getD x8 (Int.toNat (List.getD x1 (Int.toNat x5) (0, 0, 0, 0, 0, 0, 0, false, false, 0, 0, [], ByteArray.empty, 0, 0, false, 0, 0)).2.1) (0, 0, 0, 0, 0, 0, false, false, 0, 0, [], ByteArray.empty, 0, 0, false, 0, 0, 0, 0, 0)).2.2.2.2.2.2.2.2.2.2.2.2.2.2.2.2.2.2.2) fun y20 =>
 bif (!y20) then
 (some false)
 else (bif (ine (ofN (List.length y19.q23)) (isub .i64 (ofN (List.length x8)) (1))) then
 (some false)
 else (Option.bind (F14 FUEL y19.q0 y19.q1 y19.q23 y14.q0 y14.q1 y14.q2 y14.q3 y14.q4 y14.q5 y14.q6 y14.q7 y14.q8 [] y14.q9 y14.q10 y14.q11 y14.q12 y14.q13) fun y21 =>
 bif y21.q22 then
 (some false)
 else (Option.bind (F17 FUEL y19.q0 y19.q1 y19.q23) fun y22 =>
 bif (!y22) then
 (some false)
 else (bif (ine y19.q1 x3) then
 (some false)
 else (bif (ine x3 (iadd .i64 (iadd .i64 x4 (1)) (ofN (List.length y19.q23)))) then
 (some false)
 else (bif (igt (ofN (List.length y19.q23)) (16)) then
 (some false)
 else (F3_c0 n x0 x1 x2 x3 (iadd .i64 x4 (1)) (iadd .i64 x5 (1)) y19.q0 y19.q1 y19.q23))))))))
 else (none))
 else (none))))
 else (none))
 else (none))))
 else (bif (ieq (List.getD x1 (Int.toNat x5) (0, 0, 0, 0, 0, 0, 0, false, false, 0, 0, [], ByteArray.empty, 0, 0, false, 0, 0)).1 (2)) then
 (Option.bind (F16 FUEL x6 x7 x8 (iadd .i64 (iadd .i64 x2 (1)) (bits .and .i64 (List.getD x1 (Int.toNat x5) (0, 0, 0, 0, 0, 0, 0, false, false, 0, 0, [], ByteArray.empty, 0, 0, false, 0, 0)).2.1 (3)))) fun y23 =>
 bif (ine (iadd .i64 (ofN (List.length y23.q2)) (ofN (List.length y23.q4))) (ofN (List.length x8))) then
 (some false)
 else (bif (igt (ofN (List.length y23.q3)) (ofN (List.length y23.q2))) then
 (some false)
 else (Option.bind (F17 FUEL y23.q0 y23.q1 y23.q2) fun y24 =>
 bif (!y24) then
 (some false)
 else (bif (ine y23.q1 x3) then
 (some false)
 else (bif (ine x3 (iadd .i64 (iadd .i64 x4 (ofN (List.length y23.q4))) (ofN (List.length y23.q2)))) then
 (some false)
 else (bif (igt (ofN (List.length y23.q2)) (16)) then
 (some false)
 else (F3_c0 n x0 x1 (iadd .i64 (iadd .i64 x2 (1)) (bits .and .i64 (List.getD x1 (Int.toNat x5) (0, 0, 0, 0, 0, 0, 0, false, false, 0, 0, [], ByteArray.empty, 0, 0, false, 0, 0)).2.1 (3))) x3 (iadd .i64 x4 (ofN (List.length y23.q4))) (iadd .i64 x5 (1)) y23.q0 y23.q1 y23.q2)))))))
 else (Option.bind (F14 FUEL x6 x7 x8 (List.getD x1 (Int.toNat x5) (0, 0, 0, 0, 0, 0, 0, false, false, 0, 0, [], ByteArray.empty, 0, 0, false, 0, 0)).2.2.1 (List.getD x1 (Int.toNat x5) (0, 0, 0, 0, 0, 0, 0, false, false, 0, 0, [], ByteArray.empty, 0, 0, false, 0, 0)).2.2.2.1 (List.getD x1 (Int.toNat x5) (0, 0, 0, 0, 0, 0, 0, false, false, 0, 0, [], ByteArray.empty, 0, 0, false, 0, 0)).2.2.2.2.1 (List.getD x1 (Int.toNat x5) (0, 0, 0, 0, 0, 0, 0, false, false, 0, 0, [], ByteArray.empty, 0, 0, false, 0, 0)).2.2.2.2.2.1 (List.getD x1 (Int.toNat x5) (0, 0, 0, 0, 0, 0, 0, false, false, 0, 0, [], ByteArray.empty, 0, 0, false, 0, 0)).2.2.2.2.2.2.1 (List.getD x1 (Int.toNat x5) (0, 0, 0, 0, 0, 0, 0, false, false, 0, 0, [], ByteArray.empty, 0, 0, false, 0, 0)).2.2.2.2.2.2.2.1 (List.getD x1 (Int.toNat x5) (0, 0, 0, 0, 0, 0, 0, false, false, 0, 0, [], ByteArray.empty, 0, 0, false, 0, 0)).2.2.2.2.2.2.2.2.1 (List.getD x1 (Int.toNat x5) (0, 0, 0, 0, 0, 0, 0, false, false, 0, 0, [], ByteArray.empty, 0, 0, false, 0, 0)).2.2.2.2.2.2.2.2.2.1 (List.getD x1 (Int.toNat x5) (0, 0, 0, 0, 0, 0, 0, false, false, 0, 0, [], ByteArray.empty, 0, 0, false, 0, 0)).2.2.2.2.2.2.2.2.2.2.1 (List.getD x1 (Int.toNat x5) (0, 0, 0, 0, 0, 0, 0, false, false, 0, 0, [], ByteArray.empty, 0, 0, false, 0, 0)).2.2.2.2.2.2.2.2.2.2.2.1 (List.getD x1 (Int.toNat x5) (0, 0, 0, 0, 0, 0, 0, false, false, 0, 0, [], ByteArray.empty, 0, 0, false, 0, 0)).2.2.2.2.2.2.2.2.2.2.2.2.1 (List.getD x1 (Int.toNat x5) (0, 0, 0, 0, 0, 0, 0, false, false, 0, 0, [], ByteArray.empty, 0, 0, false, 0, 0)).2.2.2.2.2.2.2.2.2.2.2.2.2.1 (List.getD x1 (Int.toNat x5) (0, 0, 0, 0, 0, 0, 0, false, false, 0, 0, [], ByteArray.empty, 0, 0, false, 0, 0)).2.2.2.2.2.2.2.2.2.2.2.2.2.2.1 (List.getD x1 (Int.toNat x5) (0, 0, 0, 0, 0, 0, 0, false, false, 0, 0, [], ByteArray.empty, 0, 0, false, 0, 0)).2.2.2.2.2.2.2.2.2.2.2.2.2.2.2.1 (List.getD x1 (Int.toNat x5) (0, 0, 0, 0, 0, 0, 0, false, false, 0, 0, [], ByteArray.empty, 0, 0, false, 0, 0)).2.2.2.2.2.2.2.2.2.2.2.2.2.2.2.2.1) fun y25 =>
 bif y25.q22 then
 (Option.bind (F17 FUEL y25.q0 y25.q1 y25.q23) fun y26 =>
 bif (!y26) then
 (some false)
 else (bif (ine y25.q1 x3) then
 (some false)
 else (bif (ine x3 (iadd .i64 (iadd .i64 x4 (1)) (ofN (List.length y25.q23)))) then
 (some false)
 else (bif (igt (ofN (List.length y25.q23)) (16)) then
 (some false)
 else (F3_c0 n x0 x1 x2 x3 (iadd .i64 x4 (1)) (iadd .i64 x5 (1)) y25.q0 y25.q1 y25.q23)))))
 else (Option.bind (F17 FUEL y25.q0 y25.q1 y25.q23) fun y27 =>
 bif (!y27) then
 (some false)
 else (bif (ine y25.q1 x3) then
 (some false)
 else (bif (ine x3 (iadd .i64 x4 (ofN (List.length y25.q23)))) then
 (some false)
 else (bif (igt (ofN (List.length y25.q23)) (16)) then
 (some false)
 else (F3_c0 n x0 x1 x2 x3 x4 (iadd .i64 x5 (1)) y25.q0 y25.q1 y25.q23))))))))))
 else (none))
 else (Option.bind (F8 FUEL) fun y28 =>
 some y28)
def F3 (n : Nat) (a0 : Int) (a1 : List (Int × Int × Int × Int × Int × Int × Int × Bool × Bool × Int × Int × (List (Int)) × ByteArray × Int × Int × Bool × Int × Int)) : Option (Bool) :=
  Option.bind (F7 FUEL a0) fun y1 =>
 bif (ine y1.2.2 (0)) then
 (bif (ige a0 (0)) then
 (bif (beqb (ieq y1.2.2 (0)) (ilt a0 (65536))) then
 (Option.bind (F8 FUEL) fun y2 =>
 some y2)
 else (some false))
 else (bif (beqb (ieq y1.2.2 (0)) false) then
 (Option.bind (F8 FUEL) fun y3 =>
 some y3)
 else (some false)))
 else (bif (igt (ofN (List.length a1)) (60)) then
 (bif (ige a0 (0)) then
 (bif (beqb (ieq y1.2.2 (0)) (ilt a0 (65536))) then
 (Option.bind (F8 FUEL) fun y4 =>
 some y4)
 else (some false))
 else (bif (beqb (ieq y1.2.2 (0)) false) then
 (Option.bind (F8 FUEL) fun y5 =>
 some y5)
 else (some false)))
 else (F3_c0 n a0 a1 (0) (0) (0) (0) y1.1 y1.2.1 []))

/-! ### garland/garlandref10.tick -/
def F45 (_n : Nat) (a0 : Int) : Option (Bool) :=
  bif (ige a0 (0)) then
 (some (ile a0 (1099511627776)))
 else (some false)

/-! ### garland/garlandref10.Right -/
def F18_c0 : Nat → Int → Int → Int → List (Int × Int × Int × Int × Int × Int × Bool × Bool × Int × Int × (List (Int)) × ByteArray × Int × Int × Bool × Int × Int × Int × Int × Int) → Option (Bool)
  | 0, _, _, _, _ => none
  | n + 1, x0, x1, x2, x3 => bif (ilt x0 (ofN (List.length x3))) then
 (bif (inb x0 (List.length x3)) then
 (Option.bind (F11 FUEL (List.getD x3 (Int.toNat x0) (0, 0, 0, 0, 0, 0, false, false, 0, 0, [], ByteArray.empty, 0, 0, false, 0, 0, 0, 0, 0)).2.1 (List.getD x3 (Int.toNat x0) (0, 0, 0, 0, 0, 0, false, false, 0, 0, [], ByteArray.empty, 0, 0, false, 0, 0, 0, 0, 0)).2.2.1 (List.getD x3 (Int.toNat x0) (0, 0, 0, 0, 0, 0, false, false, 0, 0, [], ByteArray.empty, 0, 0, false, 0, 0, 0, 0, 0)).2.2.2.1 (List.getD x3 (Int.toNat x0) (0, 0, 0, 0, 0, 0, false, false, 0, 0, [], ByteArray.empty, 0, 0, false, 0, 0, 0, 0, 0)).2.2.2.2.1 (List.getD x3 (Int.toNat x0) (0, 0, 0, 0, 0, 0, false, false, 0, 0, [], ByteArray.empty, 0, 0, false, 0, 0, 0, 0, 0)).2.2.2.2.2.1 (List.getD x3 (Int.toNat x0) (0, 0, 0, 0, 0, 0, false, false, 0, 0, [], ByteArray.empty, 0, 0, false, 0, 0, 0, 0, 0)).2.2.2.2.2.2.1 (List.getD x3 (Int.toNat x0) (0, 0, 0, 0, 0, 0, false, false, 0, 0, [], ByteArray.empty, 0, 0, false, 0, 0, 0, 0, 0)).2.2.2.2.2.2.2.1 (List.getD x3 (Int.toNat x0) (0, 0, 0, 0, 0, 0, false, false, 0, 0, [], ByteArray.empty, 0, 0, false, 0, 0, 0, 0, 0)).2.2.2.2.2.2.2.2.1 (List.getD x3 (Int.toNat x0) (0, 0, 0, 0, 0, 0, false, false, 0, 0, [], ByteArray.empty, 0, 0, false, 0, 0, 0, 0, 0)).2.2.2.2.2.2.2.2.2.1 (List.getD x3 (Int.toNat x0) (0, 0, 0, 0, 0, 0, false, false, 0, 0, [], ByteArray.empty, 0, 0, false, 0, 0, 0, 0, 0)).2.2.2.2.2.2.2.2.2.2.1 (List.getD x3 (Int.toNat x0) (0, 0, 0, 0, 0, 0, false, false, 0, 0, [], ByteArray.empty, 0, 0, false, 0, 0, 0, 0, 0)).2.2.2.2.2.2.2.2.2.2.2.1 (List.getD x3 (Int.toNat x0) (0, 0, 0, 0, 0, 0, false, false, 0, 0, [], ByteArray.empty, 0, 0, false, 0, 0, 0, 0, 0)).2.2.2.2.2.2.2.2.2.2.2.2.1 (List.getD x3 (Int.toNat x0) (0, 0, 0, 0, 0, 0, false, false, 0, 0, [], ByteArray.empty, 0, 0, false, 0, 0, 0, 0, 0)).2.2.2.2.2.2.2.2.2.2.2.2.2.1 (List.getD x3 (Int.toNat x0) (0, 0, 0, 0, 0, 0, false, false, 0, 0, [], ByteArray.empty, 0, 0, false, 0, 0, 0, 0, 0)).2.2.2.2.2.2.2.2.2.2.2.2.2.2.1 (List.getD x3 (Int.toNat x0) (0, 0, 0, 0, 0, 0, false, false, 0, 0, [], ByteArray.empty, 0, 0, false, 0, 0, 0, 0, 0)).2.2.2.2.2.2.2.2.2.2.2.2.2.2.2.1) fun y1 =>
 bif (!y1) then
 (some false)
 else (Option.bind (F37 FUEL (List.getD x3 (Int.toNat x0) (0, 0, 0, 0, 0, 0, false, false, 0, 0, [], ByteArray.empty, 0, 0, false, 0, 0, 0, 0, 0)).2.1 (List.getD x3 (Int.toNat x0) (0, 0, 0, 0, 0, 0, false, false, 0, 0, [], ByteArray.empty, 0, 0, false, 0, 0, 0, 0, 0)).2.2.1 (List.getD x3 (Int.toNat x0) (0, 0, 0, 0, 0, 0, false, false, 0, 0, [], ByteArray.empty, 0, 0, false, 0, 0, 0, 0, 0)).2.2.2.1 (List.getD x3 (Int.toNat x0) (0, 0, 0, 0, 0, 0, false, false, 0, 0, [], ByteArray.empty, 0, 0, false, 0, 0, 0, 0, 0)).2.2.2.2.1 (List.getD x3 (Int.toNat x0) (0, 0, 0, 0, 0, 0, false, false, 0, 0, [], ByteArray.empty, 0, 0, false, 0, 0, 0, 0, 0)).2.2.2.2.2.1 (List.getD x3 (Int.toNat x0) (0, 0, 0, 0, 0, 0, false, false, 0, 0, [], ByteArray.empty, 0, 0, false, 0, 0, 0, 0, 0)).2.2.2.2.2.2.1 (List.getD x3 (Int.toNat x0) (0, 0, 0, 0, 0, 0, false, false, 0, 0, [], ByteArray.empty, 0, 0, false, 0, 0, 0, 0, 0)).2.2.2.2.2.2.2.1 (List.getD x3 (Int.toNat x0) (0, 0, 0, 0, 0, 0, false, false, 0, 0, [], ByteArray.empty, 0, 0, false, 0, 0, 0, 0, 0)).2.2.2.2.2.2.2.2.1 (List.getD x3 (Int.toNat x0) (0, 0, 0, 0, 0, 0, false, false, 0, 0, [], ByteArray.empty, 0, 0, false, 0, 0, 0, 0, 0)).2.2.2.2.2.2.2.2.2.1 (List.getD x3 (Int.toNat x0) (0, 0, 0, 0, 0, 0, false, false, 0, 0, [], ByteArray.empty, 0, 0, false, 0, 0, 0, 0, 0)).2.2.2.2.2.2.2.2.2.2.1 (List.getD x3 (Int.toNat x0) (0, 0, 0, 0, 0, 0, false, false, 0, 0, [], ByteArray.empty, 0, 0, false, 0, 0, 0, 0, 0)).2.2.2.2.2.2.2.2.2.2.2.1 (List.getD x3 (Int.toNat x0) (0, 0, 0, 0, 0, 0, false, false, 0, 0, [], ByteArray.empty, 0, 0, false, 0, 0, 0, 0, 0)).2.2.2.2.2.2.2.2.2.2.2.2.1 (List.getD x3 (Int.toNat x0) (0, 0, 0, 0, 0, 0, false, false, 0, 0, [], ByteArray.empty, 0, 0, false, 0, 0, 0, 0, 0)).2.2.2.2.2.2.2.2.2.2.2.2.2.1 (List.getD x3 (Int.toNat x0) (0, 0, 0, 0, 0, 0, false, false, 0, 0, [], ByteArray.empty, 0, 0, false, 0, 0, 0, 0, 0)).2.2.2.2.2.2.2.2.2.2.2.2.2.2.1 (List.getD x3 (Int.toNat x0) (0, 0, 0, 0, 0, 0, false, false, 0, 0, [], ByteArray.empty, 0, 0, false, 0, 0, 0, 0, 0)).2.2.2.2.2.2.2.2.2.2.2.2.2.2.2.1) fun y2 =>
 bif (!y2) then
 (some false)
 else (bif (ine (List.getD x3 (Int.toNat x0) (0, 0, 0, 0, 0, 0, false, false, 0, 0, [], ByteArray.empty, 0, 0, false, 0, 0, 0, 0, 0)).2.2.2.1 x1) then
 (some false)
 else (bif (ine (List.getD x3 (Int.toNat x0) (0, 0, 0, 0, 0, 0, false, false, 0, 0, [], ByteArray.empty, 0, 0, false, 0, 0, 0, 0, 0)).1 (List.getD x3 (Int.toNat x0) (0, 0, 0, 0, 0, 0, false, false, 0, 0, [], ByteArray.empty, 0, 0, false, 0, 0, 0, 0, 0)).2.2.1) then
 (some false)
 else (bif (igt (List.getD x3 (Int.toNat x0) (0, 0, 0, 0, 0, 0, false, false, 0, 0, [], ByteArray.empty, 0, 0, false, 0, 0, 0, 0, 0)).1 (iadd .i64 (imul .i64 x1 (1048576)) x2)) then
 (some false)
 else (bif (igt x0 (0)) then
 (bif (inb (isub .i64 x0 (1)) (List.length x3)) then
 (bif (ile (List.getD x3 (Int.toNat x0) (0, 0, 0, 0, 0, 0, false, false, 0, 0, [], ByteArray.empty, 0, 0, false, 0, 0, 0, 0, 0)).1 (List.getD x3 (Int.toNat (isub .i64 x0 (1))) (0, 0, 0, 0, 0, 0, false, false, 0, 0, [], ByteArray.empty, 0, 0, false, 0, 0, 0, 0, 0)).1) then
 (some false)
 else (bif (ilt (List.getD x3 (Int.toNat x0) (0, 0, 0, 0, 0, 0, false, false, 0, 0, [], ByteArray.empty, 0, 0, false, 0, 0, 0, 0, 0)).2.2.2.2.2.2.2.2.2.2.2.2.2.2.2.2.2.2.2 (1)) then
 (some false)
 else (bif (igt (List.getD x3 (Int.toNat x0) (0, 0, 0, 0, 0, 0, false, false, 0, 0, [], ByteArray.empty, 0, 0, false, 0, 0, 0, 0, 0)).2.2.2.2.2.2.2.2.2.2.2.2.2.2.2.2.2.2.2 (3)) then
 (some false)
 else (Option.bind (F45 FUEL (List.getD x3 (Int.toNat x0) (0, 0, 0, 0, 0, 0, false, false, 0, 0, [], ByteArray.empty, 0, 0, false, 0, 0, 0, 0, 0)).2.2.2.2.2.2.2.2.2.2.2.2.2.2.2.2.2.2.1) fun y3 =>
 bif (!y3) then
 (some false)
 else (F18_c0 n (iadd .i64 x0 (1)) x1 x2 x3)))))
 else (none))
 else (bif (ilt (List.getD x3 (Int.toNat x0) (0, 0, 0, 0, 0, 0, false, false, 0, 0, [], ByteArray.empty, 0, 0, false, 0, 0, 0, 0, 0)).2.2.2.2.2.2.2.2.2.2.2.2.2.2.2.2.2.2.2 (1)) then
 (some false)
 else (bif (igt (List.getD x3 (Int.toNat x0) (0, 0, 0, 0, 0, 0, false, false, 0, 0, [], ByteArray.empty, 0, 0, false, 0, 0, 0, 0, 0)).2.2.2.2.2.2.2.2.2.2.2.2.2.2.2.2.2.2.2 (3)) then
 (some false)
 else (Option.bind (F45 FUEL (List.getD x3 (Int.toNat x0) (0, 0, 0, 0, 0, 0, false, false, 0, 0, [], ByteArray.empty, 0, 0, false, 0, 0, 0, 0, 0)).2.2.2.2.2.2.2.2.2.2.2.2.2.2.2.2.2.2.1) fun y4 =>
 bif (!y4) then
 (some false)
 else (F18_c0 n (iadd .i64 x0 (1)) x1 x2 x3))))))))))
 else (none))
 else (some true)
def F18 (n : Nat) (a0 a1 : Int) (a2 : List (Int × Int × Int × Int × Int × Int × Bool × Bool × Int × Int × (List (Int)) × ByteArray × Int × Int × Bool × Int × Int × Int × Int × Int)) : Option (Bool) :=
  bif (ilt a0 (0)) then
 (some false)
 else (bif (ige a0 (65536)) then
 (some false)
 else (bif (ilt a1 (0)) then
 (some false)
 else (bif (igt a1 (1048576)) then
 (some false)
 else (bif (igt (ofN (List.length a2)) (16)) then
 (some false)
 else (F18_c0 n (0) a0 a1 a2)))))

/-! ### garland/garlandlaw10.CallsClose -/
def F4_c0 : Nat → Int → Int → Int → Int → List (Int × Int × Int × Int × Int × Int × Bool × Bool × Int × Int × (List (Int)) × ByteArray × Int × Int × Bool × Int × Int × Int × Int × Int) → Int → Int → Int → Int → Int → Bool → Bool → Int → Int → List (Int) → ByteArray → Int → Int → Bool → Int → Option (Bool)
  | 0, _, _, _, _, _, _, _, _, _, _, _, _, _, _, _, _, _, _, _, _ => none
  | n + 1, x0, x1, x2, x3, x4, x5, x6, x7, x8, x9, x10, x11, x12, x13, x14, x15, x16, x17, x18, x19 => bif (ilt x1 (ofN (List.length x4))) then
 (bif (inb x1 (List.length x4)) then
 (Option.bind (F11 FUEL x5 x6 x7 x8 x9 x10 x11 x12 x13 x14 x15 x16 x17 x18 x19) fun y5 =>
 bif y5 then
 (bif (ieq (List.getD x4 (Int.toNat x1) (0, 0, 0, 0, 0, 0, false, false, 0, 0, [], ByteArray.empty, 0, 0, false, 0, 0, 0, 0, 0)).1 x6) then
 (bif (ieq x7 (List.getD x4 (Int.toNat x1) (0, 0, 0, 0, 0, 0, false, false, 0, 0, [], ByteArray.empty, 0, 0, false, 0, 0, 0, 0, 0)).2.2.2.2.1) then
 (bif (ieq x8 x2) then
 (bif (ieq x5 (iadd .u8 (List.getD x4 (Int.toNat x1) (0, 0, 0, 0, 0, 0, false, false, 0, 0, [], ByteArray.empty, 0, 0, false, 0, 0, 0, 0, 0)).2.1 (6))) then
 (F4_c0 n x1 (iadd .i64 x1 (1)) x2 x3 x4 x5 x6 x7 x8 x9 x10 x11 x12 x13 x14 x15 x16 x17 x18 x19)
 else (F4_c0 n x0 (iadd .i64 x1 (1)) x2 x3 x4 x5 x6 x7 x8 x9 x10 x11 x12 x13 x14 x15 x16 x17 x18 x19))
 else (F4_c0 n x0 (iadd .i64 x1 (1)) x2 x3 x4 x5 x6 x7 x8 x9 x10 x11 x12 x13 x14 x15 x16 x17 x18 x19))
 else (F4_c0 n x0 (iadd .i64 x1 (1)) x2 x3 x4 x5 x6 x7 x8 x9 x10 x11 x12 x13 x14 x15 x16 x17 x18 x19))
 else (F4_c0 n x0 (iadd .i64 x1 (1)) x2 x3 x4 x5 x6 x7 x8 x9 x10 x11 x12 x13 x14 x15 x16 x17 x18 x19))
 else (F4_c0 n x0 (iadd .i64 x1 (1)) x2 x3 x4 x5 x6 x7 x8 x9 x10 x11 x12 x13 x14 x15 x16 x17 x18 x19))
 else (none))
 else (Option.bind (F14 FUEL x2 x3 x4 x5 x6 x7 x8 x9 x10 x11 x12 x13 x14 x15 x16 x17 x18 x19) fun y6 =>
 bif (bneb y6.q22 (ige x0 (0))) then
 (some false)
 else (bif (ine y6.q0 x2) then
 (some false)
 else (bif (ine y6.q1 x3) then
 (some false)
 else (bif (!y6.q22) then
 (Option.bind (F12 FUEL y6.q0 y6.q1 y6.q23 x2 x3 x4) fun y7 =>
 bif y7 then
 (bif (ieq y6.q2 (0)) then
 (Option.bind (F8 FUEL) fun y8 =>
 some y8)
 else (some false))
 else (some false))
 else (bif ((inn x0) && (inbs 0 (Int.toNat x0) (List.length x4))) then
 (bif (room (0 + List.length (List.drop 0 (List.take (Int.toNat x0) x4))) 176) then
 (bif (((inn (iadd .i64 x0 (1))) && true) && (inbs (Int.toNat (iadd .i64 x0 (1))) (List.length x4) (List.length x4))) then
 (bif (room (List.length ([] ++ (List.drop 0 (List.take (Int.toNat x0) x4))) + List.length (List.drop (Int.toNat (iadd .i64 x0 (1))) (List.take (List.length x4) x4))) 176) then
 (bif (inb x0 (List.length x4)) then
 (Option.bind (F15 FUEL y6.q2 y6.q3 y6.q4 y6.q5 y6.q6 y6.q7 y6.q8 y6.q9 y6.q10 y6.q11 y6.q12 y6.q13 y6.q14 y6.q15 y6.q16 y6.q17 y6.q18 y6.q19 y6.q20 y6.q21 (List.getD x4 (Int.toNat x0) (0, 0, 0, 0, 0, 0, false, false, 0, 0, [], ByteArray.empty, 0, 0, false, 0, 0, 0, 0, 0)).1 (List.getD x4 (Int.toNat x0) (0, 0, 0, 0, 0, 0, false, false, 0, 0, [], ByteArray.empty, 0, 0, false, 0, 0, 0, 0, 0)).2.1 (List.getD x4 (Int.toNat x0) (0, 0, 0, 0, 0, 0, false, false, 0, 0, [], ByteArray.empty, 0, 0, false, 0, 0, 0, 0, 0)).2.2.1 (List.getD x4 (Int.toNat x0) (0, 0, 0, 0, 0, 0, false, false, 0, 0, [], ByteArray.empty, 0, 0, false, 0, 0, 0, 0, 0)).2.2.2.1 (List.getD x4 (Int.toNat x0) (0, 0, 0, 0, 0, 0, false, false, 0, 0, [], ByteArray.empty, 0, 0, false, 0, 0, 0, 0, 0)).2.2.2.2.1 (List.getD x4 (Int.toNat x0) (0, 0, 0, 0, 0, 0, false, false, 0, 0, [], ByteArray.empty, 0, 0, false, 0, 0, 0, 0, 0)).2.2.2.2.2.1 (List.getD x4 (Int.toNat x0) (0, 0, 0, 0, 0, 0, false, false, 0, 0, [], ByteArray.empty, 0, 0, false, 0, 0, 0, 0, 0)).2.2.2.2.2.2.1 (List.getD x4 (Int.toNat x0) (0, 0, 0, 0, 0, 0, false, false, 0, 0, [], ByteArray.empty, 0, 0, false, 0, 0, 0, 0, 0)).2.2.2.2.2.2.2.1 (List.getD x4 (Int.toNat x0) (0, 0, 0, 0, 0, 0, false, false, 0, 0, [], ByteArray.empty, 0, 0, false, 0, 0, 0, 0, 0)).2.2.2.2.2.2.2.2.1 (List.getD x4 (Int.toNat x0) (0, 0, 0, 0, 0, 0, false, false, 0, 0, [], ByteArray.empty, 0, 0, false, 0, 0, 0, 0, 0)).2.2.2.2.2.2.2.2.2.1 (List.getD x4 (Int.toNat x0) (0, 0, 0, 0, 0, 0, false, false, 0, 0, [], ByteArray.empty, 0, 0, false, 0, 0, 0, 0, 0)).2.2.2.2.2.2.2.2.2.2.1 (List.getD x4 (Int.toNat x0) (0, 0, 0, 0, 0, 0, false, false, 0, 0, [], ByteArray.empty, 0, 0, false, 0, 0, 0, 0, 0)).2.2.2.2.2.2.2.2.2.2.2.1 (List.getD x4 (Int.toNat x0) (0, 0, 0, 0, 0, 0, false, false, 0, 0, [], ByteArray.empty, 0, 0, false, 0, 0, 0, 0, 0)).2.2.2.2.2.2.2.2.2.2.2.2.1 (List.getD x4 (Int.toNat x0) (0, 0, 0, 0, 0, 0, false, false, 0, 0, [], ByteArray.empty, 0, 0, false, 0, 0, 0, 0, 0)).2.2.2.2.2.2.2.2.2.2.2.2.2.1 (List.getD x4 (Int.toNat x0) (0, 0, 0, 0, 0, 0, false, false, 0, 0, [], ByteArray.empty, 0, 0, false, 0, 0, 0, 0, 0)).2.2.2.2.2.2.2.2.2.2.2.2.2.2.1 (List.getD x4 (Int.toNat x0) (0, 0, 0, 0, 0, 0, false, false, 0, 0, [], ByteArray.empty, 0, 0, false, 0, 0, 0, 0, 0)).2.2.2.2.2.2.2.2.2.2.2.2.2.2.2.1 (List.getD x4 (Int.toNat x0) (0, 0, 0, 0, 0, 0, false, false, 0, 0, [], ByteArray.empty, 0, 0, false, 0, 0, 0, 0, 0)).2.2.2.2.2.2.2.2.2.2.2.2.2.2.2.2.1 (List.getD x4 (Int.toNat x0) (0, 0, 0, 0, 0, 0, false, false, 0, 0, [], ByteArray.empty, 0, 0, false, 0, 0, 0, 0, 0)).2.2.2.2.2.2.2.2.2.2.2.2.2.2.2.2.2.1 (List.getD x4 (Int.toNat x0) (0, 0, 0, 0, 0, 0, false, false, 0, 0, [], ByteArray.empty, 0, 0, false, 0, 0, 0, 0, 0)).2.2.2.2.2.2.2.2.2.2.2.2.2.2.2.2.2.2.1 (List.getD x4 (Int.toNat x0) (0, 0, 0, 0, 0, 0, false, false, 0, 0, [], ByteArray.empty, 0, 0, false, 0, 0, 0, 0, 0)).2.2.2.2.2.2.2.2.2.2.2.2.2.2.2.2.2.2.2) fun y9 =>
 bif y9 then
 (Option.bind (F19 FUEL y6.q23 (([] ++ (List.drop 0 (List.take (Int.toNat x0) x4))) ++ (List.drop (Int.toNat (iadd .i64 x0 (1))) (List.take (List.length x4) x4)))) fun y10 =>
 bif y10 then
 (Option.bind (F8 FUEL) fun y11 =>
 some y11)
 else (some false))
 else (some false))
 else (none))
 else (none))
 else (none))
 else (none))
 else (none))))))
def F4 (n : Nat) (a0 a1 : Int) (a2 : List (Int × Int × Int × Int × Int × Int × Bool × Bool × Int × Int × (List (Int)) × ByteArray × Int × Int × Bool × Int × Int × Int × Int × Int)) (a3 a4 a5 a6 a7 : Int) (a8 a9 : Bool) (a10 a11 : Int) (a12 : List (Int)) (a13 : ByteArray) (a14 a15 : Int) (a16 : Bool) (a17 : Int) : Option (Bool) :=
  Option.bind (F18 FUEL a0 a1 a2) fun y1 =>
 bif (!y1) then
 (Option.bind (F8 FUEL) fun y2 =>
 some y2)
 else (Option.bind (F9 FUEL a3 a4 a5 a6 a7 a8 a9 a10 a11 a12 a13 a14 a15 a16 a17) fun y3 =>
 bif y3 then
 (Option.bind (F8 FUEL) fun y4 =>
 some y4)
 else (F4_c0 n (-1) (0) a0 a1 a2 a3 a4 a5 a6 a7 a8 a9 a10 a11 a12 a13 a14 a15 a16 a17))

/-! ### garland/garlandref09.Over -/
def F20 (_n : Nat) (a0 a1 a2 : Int) : Option (Bool) :=
  bif (ige a1 (3)) then
 (some (ige (isub .i64 a2 a0) (4)))
 else (some false)

/-! ### garland/garlandref09.Wait -/
def F46 (_n : Nat) (a0 : Int) : Option (Int) :=
  bif (ilt a0 (1)) then
 (some (0))
 else (bif (ieq a0 (1)) then
 (some (1))
 else (bif (ieq a0 (2)) then
 (some (2))
 else (some (4))))

/-! ### garland/garlandref09.Due -/
def F21 (_n : Nat) (a0 a1 a2 : Int) : Option (Bool) :=
  bif (ieq a1 (1)) then
 (Option.bind (F46 FUEL a1) fun y1 =>
 some (ige (isub .i64 a2 a0) y1))
 else (bif (ieq a1 (2)) then
 (Option.bind (F46 FUEL a1) fun y2 =>
 some (ige (isub .i64 a2 a0) y2))
 else (some false))

/-! ### garland/garlandref10.Next -/
structure Si6b2i2si2bi5 where
  q0 : Int
  q1 : Int
  q2 : Int
  q3 : Int
  q4 : Int
  q5 : Int
  q6 : Bool
  q7 : Bool
  q8 : Int
  q9 : Int
  q10 : ByteArray
  q11 : Int
  q12 : Int
  q13 : Bool
  q14 : Int
  q15 : Int
  q16 : Int
  q17 : Int
  q18 : Int
def F23 (_n : Nat) (a0 a1 a2 a3 a4 a5 : Int) (a6 a7 : Bool) (a8 a9 : Int) (a10 : ByteArray) (a11 a12 : Int) (a13 : Bool) (a14 a15 a16 a17 a18 a19 : Int) : Option (Si6b2i2si2bi5) :=
  Option.bind (F21 FUEL a17 a18 a19) fun y1 =>
 bif y1 then
 (some ⟨a0, a1, a2, a3, a4, a5, a6, a7, a8, a9, a10, a11, a12, a13, a14, a15, a16, a19, (iadd .i64 a18 (1))⟩)
 else (some ⟨a0, a1, a2, a3, a4, a5, a6, a7, a8, a9, a10, a11, a12, a13, a14, a15, a16, a17, a18⟩)

/-! ### garland/garlandlaw10.CallsLate -/
def F5_c0 : Nat → Int → Int → Int → Int → Int → Int → Int → List (Int × Int × Int × Int × Int × Int × Bool × Bool × Int × Int × (List (Int)) × ByteArray × Int × Int × Bool × Int × Int × Int × Int × Int) → Int → Int → List (Int × Int × Int × Int × Int × Bool × Bool × Int × Int × (List (Int)) × ByteArray × Int × Int × Bool × Int) → List (Int × Int × Int × Int × Int × Int × Bool × Bool × Int × Int × (List (Int)) × ByteArray × Int × Int × Bool × Int × Int × Int × Int × Int) → List (Int × Int × Int × Int × Int × Int × Bool × Bool × Int × Int × (List (Int)) × ByteArray × Int × Int × Bool × Int × Int × Int × Int × Int) → Option (Bool)
  | 0, _, _, _, _, _, _, _, _, _, _, _, _, _ => none
  | n + 1, x0, x1, x2, x3, x4, x5, x6, x7, x8, x9, x10, x11, x12 => bif (ilt x4 (ofN (List.length x7))) then
 (bif (inb x4 (List.length x7)) then
 (Option.bind (F20 FUEL (List.getD x7 (Int.toNat x4) (0, 0, 0, 0, 0, 0, false, false, 0, 0, [], ByteArray.empty, 0, 0, false, 0, 0, 0, 0, 0)).2.2.2.2.2.2.2.2.2.2.2.2.2.2.2.2.2.2.1 (List.getD x7 (Int.toNat x4) (0, 0, 0, 0, 0, 0, false, false, 0, 0, [], ByteArray.empty, 0, 0, false, 0, 0, 0, 0, 0)).2.2.2.2.2.2.2.2.2.2.2.2.2.2.2.2.2.2.2 x0) fun y6 =>
 bif y6 then
 (bif (ige x2 (ofN (List.length x11))) then
 (some false)
 else (bif (inb x2 (List.length x11)) then
 (bif (nlt (Int.toNat x2) (List.length x11)) then
 (Option.bind (F15 FUEL (List.getD x11 (Int.toNat x2) (0, 0, 0, 0, 0, 0, false, false, 0, 0, [], ByteArray.empty, 0, 0, false, 0, 0, 0, 0, 0)).1 (List.getD x11 (Int.toNat x2) (0, 0, 0, 0, 0, 0, false, false, 0, 0, [], ByteArray.empty, 0, 0, false, 0, 0, 0, 0, 0)).2.1 (List.getD x11 (Int.toNat x2) (0, 0, 0, 0, 0, 0, false, false, 0, 0, [], ByteArray.empty, 0, 0, false, 0, 0, 0, 0, 0)).2.2.1 (List.getD x11 (Int.toNat x2) (0, 0, 0, 0, 0, 0, false, false, 0, 0, [], ByteArray.empty, 0, 0, false, 0, 0, 0, 0, 0)).2.2.2.1 (List.getD x11 (Int.toNat x2) (0, 0, 0, 0, 0, 0, false, false, 0, 0, [], ByteArray.empty, 0, 0, false, 0, 0, 0, 0, 0)).2.2.2.2.1 (List.getD x11 (Int.toNat x2) (0, 0, 0, 0, 0, 0, false, false, 0, 0, [], ByteArray.empty, 0, 0, false, 0, 0, 0, 0, 0)).2.2.2.2.2.1 (List.getD x11 (Int.toNat x2) (0, 0, 0, 0, 0, 0, false, false, 0, 0, [], ByteArray.empty, 0, 0, false, 0, 0, 0, 0, 0)).2.2.2.2.2.2.1 (List.getD x11 (Int.toNat x2) (0, 0, 0, 0, 0, 0, false, false, 0, 0, [], ByteArray.empty, 0, 0, false, 0, 0, 0, 0, 0)).2.2.2.2.2.2.2.1 (List.getD x11 (Int.toNat x2) (0, 0, 0, 0, 0, 0, false, false, 0, 0, [], ByteArray.empty, 0, 0, false, 0, 0, 0, 0, 0)).2.2.2.2.2.2.2.2.1 (List.getD x11 (Int.toNat x2) (0, 0, 0, 0, 0, 0, false, false, 0, 0, [], ByteArray.empty, 0, 0, false, 0, 0, 0, 0, 0)).2.2.2.2.2.2.2.2.2.1 (List.getD x11 (Int.toNat x2) (0, 0, 0, 0, 0, 0, false, false, 0, 0, [], ByteArray.empty, 0, 0, false, 0, 0, 0, 0, 0)).2.2.2.2.2.2.2.2.2.2.1 (List.getD x11 (Int.toNat x2) (0, 0, 0, 0, 0, 0, false, false, 0, 0, [], ByteArray.empty, 0, 0, false, 0, 0, 0, 0, 0)).2.2.2.2.2.2.2.2.2.2.2.1 (List.getD x11 (Int.toNat x2) (0, 0, 0, 0, 0, 0, false, false, 0, 0, [], ByteArray.empty, 0, 0, false, 0, 0, 0, 0, 0)).2.2.2.2.2.2.2.2.2.2.2.2.1 (List.getD x11 (Int.toNat x2) (0, 0, 0, 0, 0, 0, false, false, 0, 0, [], ByteArray.empty, 0, 0, false, 0, 0, 0, 0, 0)).2.2.2.2.2.2.2.2.2.2.2.2.2.1 (List.getD x11 (Int.toNat x2) (0, 0, 0, 0, 0, 0, false, false, 0, 0, [], ByteArray.empty, 0, 0, false, 0, 0, 0, 0, 0)).2.2.2.2.2.2.2.2.2.2.2.2.2.2.1 (List.getD x11 (Int.toNat x2) (0, 0, 0, 0, 0, 0, false, false, 0, 0, [], ByteArray.empty, 0, 0, false, 0, 0, 0, 0, 0)).2.2.2.2.2.2.2.2.2.2.2.2.2.2.2.1 (List.getD x11 (Int.toNat x2) (0, 0, 0, 0, 0, 0, false, false, 0, 0, [], ByteArray.empty, 0, 0, false, 0, 0, 0, 0, 0)).2.2.2.2.2.2.2.2.2.2.2.2.2.2.2.2.1 (List.getD x11 (Int.toNat x2) (0, 0, 0, 0, 0, 0, false, false, 0, 0, [], ByteArray.empty, 0, 0, false, 0, 0, 0, 0, 0)).2.2.2.2.2.2.2.2.2.2.2.2.2.2.2.2.2.1 (List.getD x11 (Int.toNat x2) (0, 0, 0, 0, 0, 0, false, false, 0, 0, [], ByteArray.empty, 0, 0, false, 0, 0, 0, 0, 0)).2.2.2.2.2.2.2.2.2.2.2.2.2.2.2.2.2.2.1 (List.getD x11 (Int.toNat x2) (0, 0, 0, 0, 0, 0, false, false, 0, 0, [], ByteArray.empty, 0, 0, false, 0, 0, 0, 0, 0)).2.2.2.2.2.2.2.2.2.2.2.2.2.2.2.2.2.2.2 (List.getD x7 (Int.toNat x4) (0, 0, 0, 0, 0, 0, false, false, 0, 0, [], ByteArray.empty, 0, 0, false, 0, 0, 0, 0, 0)).1 (List.getD x7 (Int.toNat x4) (0, 0, 0, 0, 0, 0, false, false, 0, 0, [], ByteArray.empty, 0, 0, false, 0, 0, 0, 0, 0)).2.1 (List.getD x7 (Int.toNat x4) (0, 0, 0, 0, 0, 0, false, false, 0, 0, [], ByteArray.empty, 0, 0, false, 0, 0, 0, 0, 0)).2.2.1 (List.getD x7 (Int.toNat x4) (0, 0, 0, 0, 0, 0, false, false, 0, 0, [], ByteArray.empty, 0, 0, false, 0, 0, 0, 0, 0)).2.2.2.1 (List.getD x7 (Int.toNat x4) (0, 0, 0, 0, 0, 0, false, false, 0, 0, [], ByteArray.empty, 0, 0, false, 0, 0, 0, 0, 0)).2.2.2.2.1 (List.getD x7 (Int.toNat x4) (0, 0, 0, 0, 0, 0, false, false, 0, 0, [], ByteArray.empty, 0, 0, false, 0, 0, 0, 0, 0)).2.2.2.2.2.1 (List.getD x7 (Int.toNat x4) (0, 0, 0, 0, 0, 0, false, false, 0, 0, [], ByteArray.empty, 0, 0, false, 0, 0, 0, 0, 0)).2.2.2.2.2.2.1 (List.getD x7 (Int.toNat x4) (0, 0, 0, 0, 0, 0, false, false, 0, 0, [], ByteArray.empty, 0, 0, false, 0, 0, 0, 0, 0)).2.2.2.2.2.2.2.1 (List.getD x7 (Int.toNat x4) (0, 0, 0, 0, 0, 0, false, false, 0, 0, [], ByteArray.empty, 0, 0, false, 0, 0, 0, 0, 0)).2.2.2.2.2.2.2.2.1 (List.getD x7 (Int.toNat x4) (0, 0, 0, 0, 0, 0, false, false, 0, 0, [], ByteArray.empty, 0, 0, false, 0, 0, 0, 0, 0)).2.2.2.2.2.2.2.2.2.1 (List.getD x7 (Int.toNat x4) (0, 0, 0, 0, 0, 0, false, false, 0, 0, [], ByteArray.empty, 0, 0, false, 0, 0, 0, 0, 0)).2.2.2.2.2.2.2.2.2.2.1 (List.getD x7 (Int.toNat x4) (0, 0, 0, 0, 0, 0, false, false, 0, 0, [], ByteArray.empty, 0, 0, false, 0, 0, 0, 0, 0)).2.2.2.2.2.2.2.2.2.2.2.1 (List.getD x7 (Int.toNat x4) (0, 0, 0, 0, 0, 0, false, false, 0, 0, [], ByteArray.empty, 0, 0, false, 0, 0, 0, 0, 0)).2.2.2.2.2.2.2.2.2.2.2.2.1 (List.getD x7 (Int.toNat x4) (0, 0, 0, 0, 0, 0, false, false, 0, 0, [], ByteArray.empty, 0, 0, false, 0, 0, 0, 0, 0)).2.2.2.2.2.2.2.2.2.2.2.2.2.1 (List.getD x7 (Int.toNat x4) (0, 0, 0, 0, 0, 0, false, false, 0, 0, [], ByteArray.empty, 0, 0, false, 0, 0, 0, 0, 0)).2.2.2.2.2.2.2.2.2.2.2.2.2.2.1 (List.getD x7 (Int.toNat x4) (0, 0, 0, 0, 0, 0, false, false, 0, 0, [], ByteArray.empty, 0, 0, false, 0, 0, 0, 0, 0)).2.2.2.2.2.2.2.2.2.2.2.2.2.2.2.1 (List.getD x7 (Int.toNat x4) (0, 0, 0, 0, 0, 0, false, false, 0, 0, [], ByteArray.empty, 0, 0, false, 0, 0, 0, 0, 0)).2.2.2.2.2.2.2.2.2.2.2.2.2.2.2.2.1 (List.getD x7 (Int.toNat x4) (0, 0, 0, 0, 0, 0, false, false, 0, 0, [], ByteArray.empty, 0, 0, false, 0, 0, 0, 0, 0)).2.2.2.2.2.2.2.2.2.2.2.2.2.2.2.2.2.1 (List.getD x7 (Int.toNat x4) (0, 0, 0, 0, 0, 0, false, false, 0, 0, [], ByteArray.empty, 0, 0, false, 0, 0, 0, 0, 0)).2.2.2.2.2.2.2.2.2.2.2.2.2.2.2.2.2.2.1 (List.getD x7 (Int.toNat x4) (0, 0, 0, 0, 0, 0, false, false, 0, 0, [], ByteArray.empty, 0, 0, false, 0, 0, 0, 0, 0)).2.2.2.2.2.2.2.2.2.2.2.2.2.2.2.2.2.2.2) fun y7 =>
 bif (!y7) then
 (some false)
 else (F5_c0 n x0 x1 (iadd .i64 x2 (1)) x3 (iadd .i64 x4 (1)) x5 x6 x7 x8 x9 x10 x11 x12))
 else (none))
 else (none)))
 else (Option.bind (F21 FUEL (List.getD x7 (Int.toNat x4) (0, 0, 0, 0, 0, 0, false, false, 0, 0, [], ByteArray.empty, 0, 0, false, 0, 0, 0, 0, 0)).2.2.2.2.2.2.2.2.2.2.2.2.2.2.2.2.2.2.1 (List.getD x7 (Int.toNat x4) (0, 0, 0, 0, 0, 0, false, false, 0, 0, [], ByteArray.empty, 0, 0, false, 0, 0, 0, 0, 0)).2.2.2.2.2.2.2.2.2.2.2.2.2.2.2.2.2.2.2 x0) fun y8 =>
 bif y8 then
 (bif (ige x1 (ofN (List.length x10))) then
 (some false)
 else (bif (inb x1 (List.length x10)) then
 (bif (nlt (Int.toNat x1) (List.length x10)) then
 (Option.bind (F22 FUEL (List.getD x10 (Int.toNat x1) (0, 0, 0, 0, 0, false, false, 0, 0, [], ByteArray.empty, 0, 0, false, 0)).1 (List.getD x10 (Int.toNat x1) (0, 0, 0, 0, 0, false, false, 0, 0, [], ByteArray.empty, 0, 0, false, 0)).2.1 (List.getD x10 (Int.toNat x1) (0, 0, 0, 0, 0, false, false, 0, 0, [], ByteArray.empty, 0, 0, false, 0)).2.2.1 (List.getD x10 (Int.toNat x1) (0, 0, 0, 0, 0, false, false, 0, 0, [], ByteArray.empty, 0, 0, false, 0)).2.2.2.1 (List.getD x10 (Int.toNat x1) (0, 0, 0, 0, 0, false, false, 0, 0, [], ByteArray.empty, 0, 0, false, 0)).2.2.2.2.1 (List.getD x10 (Int.toNat x1) (0, 0, 0, 0, 0, false, false, 0, 0, [], ByteArray.empty, 0, 0, false, 0)).2.2.2.2.2.1 (List.getD x10 (Int.toNat x1) (0, 0, 0, 0, 0, false, false, 0, 0, [], ByteArray.empty, 0, 0, false, 0)).2.2.2.2.2.2.1 (List.getD x10 (Int.toNat x1) (0, 0, 0, 0, 0, false, false, 0, 0, [], ByteArray.empty, 0, 0, false, 0)).2.2.2.2.2.2.2.1 (List.getD x10 (Int.toNat x1) (0, 0, 0, 0, 0, false, false, 0, 0, [], ByteArray.empty, 0, 0, false, 0)).2.2.2.2.2.2.2.2.1 (List.getD x10 (Int.toNat x1) (0, 0, 0, 0, 0, false, false, 0, 0, [], ByteArray.empty, 0, 0, false, 0)).2.2.2.2.2.2.2.2.2.1 (List.getD x10 (Int.toNat x1) (0, 0, 0, 0, 0, false, false, 0, 0, [], ByteArray.empty, 0, 0, false, 0)).2.2.2.2.2.2.2.2.2.2.1 (List.getD x10 (Int.toNat x1) (0, 0, 0, 0, 0, false, false, 0, 0, [], ByteArray.empty, 0, 0, false, 0)).2.2.2.2.2.2.2.2.2.2.2.1 (List.getD x10 (Int.toNat x1) (0, 0, 0, 0, 0, false, false, 0, 0, [], ByteArray.empty, 0, 0, false, 0)).2.2.2.2.2.2.2.2.2.2.2.2.1 (List.getD x10 (Int.toNat x1) (0, 0, 0, 0, 0, false, false, 0, 0, [], ByteArray.empty, 0, 0, false, 0)).2.2.2.2.2.2.2.2.2.2.2.2.2.1 (List.getD x10 (Int.toNat x1) (0, 0, 0, 0, 0, false, false, 0, 0, [], ByteArray.empty, 0, 0, false, 0)).2.2.2.2.2.2.2.2.2.2.2.2.2.2 (List.getD x7 (Int.toNat x4) (0, 0, 0, 0, 0, 0, false, false, 0, 0, [], ByteArray.empty, 0, 0, false, 0, 0, 0, 0, 0)).2.1 (List.getD x7 (Int.toNat x4) (0, 0, 0, 0, 0, 0, false, false, 0, 0, [], ByteArray.empty, 0, 0, false, 0, 0, 0, 0, 0)).2.2.1 (List.getD x7 (Int.toNat x4) (0, 0, 0, 0, 0, 0, false, false, 0, 0, [], ByteArray.empty, 0, 0, false, 0, 0, 0, 0, 0)).2.2.2.1 (List.getD x7 (Int.toNat x4) (0, 0, 0, 0, 0, 0, false, false, 0, 0, [], ByteArray.empty, 0, 0, false, 0, 0, 0, 0, 0)).2.2.2.2.1 (List.getD x7 (Int.toNat x4) (0, 0, 0, 0, 0, 0, false, false, 0, 0, [], ByteArray.empty, 0, 0, false, 0, 0, 0, 0, 0)).2.2.2.2.2.1 (List.getD x7 (Int.toNat x4) (0, 0, 0, 0, 0, 0, false, false, 0, 0, [], ByteArray.empty, 0, 0, false, 0, 0, 0, 0, 0)).2.2.2.2.2.2.1 (List.getD x7 (Int.toNat x4) (0, 0, 0, 0, 0, 0, false, false, 0, 0, [], ByteArray.empty, 0, 0, false, 0, 0, 0, 0, 0)).2.2.2.2.2.2.2.1 (List.getD x7 (Int.toNat x4) (0, 0, 0, 0, 0, 0, false, false, 0, 0, [], ByteArray.empty, 0, 0, false, 0, 0, 0, 0, 0)).2.2.2.2.2.2.2.2.1 (List.getD x7 (Int.toNat x4) (0, 0, 0, 0, 0, 0, false, false, 0, 0, [], ByteArray.empty, 0, 0, false, 0, 0, 0, 0, 0)).2.2.2.2.2.2.2.2.2.1 (List.getD x7 (Int.toNat x4) (0, 0, 0, 0, 0, 0, false, false, 0, 0, [], ByteArray.empty, 0, 0, false, 0, 0, 0, 0, 0)).2.2.2.2.2.2.2.2.2.2.1 (List.getD x7 (Int.toNat x4) (0, 0, 0, 0, 0, 0, false, false, 0, 0, [], ByteArray.empty, 0, 0, false, 0, 0, 0, 0, 0)).2.2.2.2.2.2.2.2.2.2.2.1 (List.getD x7 (Int.toNat x4) (0, 0, 0, 0, 0, 0, false, false, 0, 0, [], ByteArray.empty, 0, 0, false, 0, 0, 0, 0, 0)).2.2.2.2.2.2.2.2.2.2.2.2.1 (List.getD x7 (Int.toNat x4) (0, 0, 0, 0, 0, 0, false, false, 0, 0, [], ByteArray.empty, 0, 0, false, 0, 0, 0, 0, 0)).2.2.2.2.2.2.2.2.2.2.2.2.2.1 (List.getD x7 (Int.toNat x4) (0, 0, 0, 0, 0, 0, false, false, 0, 0, [], ByteArray.empty, 0, 0, false, 0, 0, 0, 0, 0)).2.2.2.2.2.2.2.2.2.2.2.2.2.2.1 (List.getD x7 (Int.toNat x4) (0, 0, 0, 0, 0, 0, false, false, 0, 0, [], ByteArray.empty, 0, 0, false, 0, 0, 0, 0, 0)).2.2.2.2.2.2.2.2.2.2.2.2.2.2.2.1) fun y9 =>
 bif (!y9) then
 (some false)
 else (bif (ige x3 (ofN (List.length x12))) then
 (some false)
 else (bif (inb x3 (List.length x12)) then
 (bif (nlt (Int.toNat x3) (List.length x12)) then
 (Option.bind (F23 FUEL (List.getD x7 (Int.toNat x4) (0, 0, 0, 0, 0, 0, false, false, 0, 0, [], ByteArray.empty, 0, 0, false, 0, 0, 0, 0, 0)).1 (List.getD x7 (Int.toNat x4) (0, 0, 0, 0, 0, 0, false, false, 0, 0, [], ByteArray.empty, 0, 0, false, 0, 0, 0, 0, 0)).2.1 (List.getD x7 (Int.toNat x4) (0, 0, 0, 0, 0, 0, false, false, 0, 0, [], ByteArray.empty, 0, 0, false, 0, 0, 0, 0, 0)).2.2.1 (List.getD x7 (Int.toNat x4) (0, 0, 0, 0, 0, 0, false, false, 0, 0, [], ByteArray.empty, 0, 0, false, 0, 0, 0, 0, 0)).2.2.2.1 (List.getD x7 (Int.toNat x4) (0, 0, 0, 0, 0, 0, false, false, 0, 0, [], ByteArray.empty, 0, 0, false, 0, 0, 0, 0, 0)).2.2.2.2.1 (List.getD x7 (Int.toNat x4) (0, 0, 0, 0, 0, 0, false, false, 0, 0, [], ByteArray.empty, 0, 0, false, 0, 0, 0, 0, 0)).2.2.2.2.2.1 (List.getD x7 (Int.toNat x4) (0, 0, 0, 0, 0, 0, false, false, 0, 0, [], ByteArray.empty, 0, 0, false, 0, 0, 0, 0, 0)).2.2.2.2.2.2.1 (List.getD x7 (Int.toNat x4) (0, 0, 0, 0, 0, 0, false, false, 0, 0, [], ByteArray.empty, 0, 0, false, 0, 0, 0, 0, 0)).2.2.2.2.2.2.2.1 (List.getD x7 (Int.toNat x4) (0, 0, 0, 0, 0, 0, false, false, 0, 0, [], ByteArray.empty, 0, 0, false, 0, 0, 0, 0, 0)).2.2.2.2.2.2.2.2.1 (List.getD x7 (Int.toNat x4) (0, 0, 0, 0, 0, 0, false, false, 0, 0, [], ByteArray.empty, 0, 0, false, 0, 0, 0, 0, 0)).2.2.2.2.2.2.2.2.2.1 (List.getD x7 (Int.toNat x4) (0, 0, 0, 0, 0, 0, false, false, 0, 0, [], ByteArray.empty, 0, 0, false, 0, 0, 0, 0, 0)).2.2.2.2.2.2.2.2.2.2.2.1 (List.getD x7 (Int.toNat x4) (0, 0, 0, 0, 0, 0, false, false, 0, 0, [], ByteArray.empty, 0, 0, false, 0, 0, 0, 0, 0)).2.2.2.2.2.2.2.2.2.2.2.2.1 (List.getD x7 (Int.toNat x4) (0, 0, 0, 0, 0, 0, false, false, 0, 0, [], ByteArray.empty, 0, 0, false, 0, 0, 0, 0, 0)).2.2.2.2.2.2.2.2.2.2.2.2.2.1 (List.getD x7 (Int.toNat x4) (0, 0, 0, 0, 0, 0, false, false, 0, 0, [], ByteArray.empty, 0, 0, false, 0, 0, 0, 0, 0)).2.2.2.2.2.2.2.2.2.2.2.2.2.2.1 (List.getD x7 (Int.toNat x4) (0, 0, 0, 0, 0, 0, false, false, 0, 0, [], ByteArray.empty, 0, 0, false, 0, 0, 0, 0, 0)).2.2.2.2.2.2.2.2.2.2.2.2.2.2.2.1 (List.getD x7 (Int.toNat x4) (0, 0, 0, 0, 0, 0, false, false, 0, 0, [], ByteArray.empty, 0, 0, false, 0, 0, 0, 0, 0)).2.2.2.2.2.2.2.2.2.2.2.2.2.2.2.2.1 (List.getD x7 (Int.toNat x4) (0, 0, 0, 0, 0, 0, false, false, 0, 0, [], ByteArray.empty, 0, 0, false, 0, 0, 0, 0, 0)).2.2.2.2.2.2.2.2.2.2.2.2.2.2.2.2.2.1 (List.getD x7 (Int.toNat x4) (0, 0, 0, 0, 0, 0, false, false, 0, 0, [], ByteArray.empty, 0, 0, false, 0, 0, 0, 0, 0)).2.2.2.2.2.2.2.2.2.2.2.2.2.2.2.2.2.2.1 (List.getD x7 (Int.toNat x4) (0, 0, 0, 0, 0, 0, false, false, 0, 0, [], ByteArray.empty, 0, 0, false, 0, 0, 0, 0, 0)).2.2.2.2.2.2.2.2.2.2.2.2.2.2.2.2.2.2.2 x0) fun y10 =>
 Option.bind (F15 FUEL (List.getD x12 (Int.toNat x3) (0, 0, 0, 0, 0, 0, false, false, 0, 0, [], ByteArray.empty, 0, 0, false, 0, 0, 0, 0, 0)).1 (List.getD x12 (Int.toNat x3) (0, 0, 0, 0, 0, 0, false, false, 0, 0, [], ByteArray.empty, 0, 0, false, 0, 0, 0, 0, 0)).2.1 (List.getD x12 (Int.toNat x3) (0, 0, 0, 0, 0, 0, false, false, 0, 0, [], ByteArray.empty, 0, 0, false, 0, 0, 0, 0, 0)).2.2.1 (List.getD x12 (Int.toNat x3) (0, 0, 0, 0, 0, 0, false, false, 0, 0, [], ByteArray.empty, 0, 0, false, 0, 0, 0, 0, 0)).2.2.2.1 (List.getD x12 (Int.toNat x3) (0, 0, 0, 0, 0, 0, false, false, 0, 0, [], ByteArray.empty, 0, 0, false, 0, 0, 0, 0, 0)).2.2.2.2.1 (List.getD x12 (Int.toNat x3) (0, 0, 0, 0, 0, 0, false, false, 0, 0, [], ByteArray.empty, 0, 0, false, 0, 0, 0, 0, 0)).2.2.2.2.2.1 (List.getD x12 (Int.toNat x3) (0, 0, 0, 0, 0, 0, false, false, 0, 0, [], ByteArray.empty, 0, 0, false, 0, 0, 0, 0, 0)).2.2.2.2.2.2.1 (List.getD x12 (Int.toNat x3) (0, 0, 0, 0, 0, 0, false, false, 0, 0, [], ByteArray.empty, 0, 0, false, 0, 0, 0, 0, 0)).2.2.2.2.2.2.2.1 (List.getD x12 (Int.toNat x3) (0, 0, 0, 0, 0, 0, false, false, 0, 0, [], ByteArray.empty, 0, 0, false, 0, 0, 0, 0, 0)).2.2.2.2.2.2.2.2.1 (List.getD x12 (Int.toNat x3) (0, 0, 0, 0, 0, 0, false, false, 0, 0, [], ByteArray.empty, 0, 0, false, 0, 0, 0, 0, 0)).2.2.2.2.2.2.2.2.2.1 (List.getD x12 (Int.toNat x3) (0, 0, 0, 0, 0, 0, false, false, 0, 0, [], ByteArray.empty, 0, 0, false, 0, 0, 0, 0, 0)).2.2.2.2.2.2.2.2.2.2.1 (List.getD x12 (Int.toNat x3) (0, 0, 0, 0, 0, 0, false, false, 0, 0, [], ByteArray.empty, 0, 0, false, 0, 0, 0, 0, 0)).2.2.2.2.2.2.2.2.2.2.2.1 (List.getD x12 (Int.toNat x3) (0, 0, 0, 0, 0, 0, false, false, 0, 0, [], ByteArray.empty, 0, 0, false, 0, 0, 0, 0, 0)).2.2.2.2.2.2.2.2.2.2.2.2.1 (List.getD x12 (Int.toNat x3) (0, 0, 0, 0, 0, 0, false, false, 0, 0, [], ByteArray.empty, 0, 0, false, 0, 0, 0, 0, 0)).2.2.2.2.2.2.2.2.2.2.2.2.2.1 (List.getD x12 (Int.toNat x3) (0, 0, 0, 0, 0, 0, false, false, 0, 0, [], ByteArray.empty, 0, 0, false, 0, 0, 0, 0, 0)).2.2.2.2.2.2.2.2.2.2.2.2.2.2.1 (List.getD x12 (Int.toNat x3) (0, 0, 0, 0, 0, 0, false, false, 0, 0, [], ByteArray.empty, 0, 0, false, 0, 0, 0, 0, 0)).2.2.2.2.2.2.2.2.2.2.2.2.2.2.2.1 (List.getD x12 (Int.toNat x3) (0, 0, 0, 0, 0, 0, false, false, 0, 0, [], ByteArray.empty, 0, 0, false, 0, 0, 0, 0, 0)).2.2.2.2.2.2.2.2.2.2.2.2.2.2.2.2.1 (List.getD x12 (Int.toNat x3) (0, 0, 0, 0, 0, 0, false, false, 0, 0, [], ByteArray.empty, 0, 0, false, 0, 0, 0, 0, 0)).2.2.2.2.2.2.2.2.2.2.2.2.2.2.2.2.2.1 (List.getD x12 (Int.toNat x3) (0, 0, 0, 0, 0, 0, false, false, 0, 0, [], ByteArray.empty, 0, 0, false, 0, 0, 0, 0, 0)).2.2.2.2.2.2.2.2.2.2.2.2.2.2.2.2.2.2.1 (List.getD x12 (Int.toNat x3) (0, 0, 0, 0, 0, 0, false, false, 0, 0, [], ByteArray.empty, 0, 0, false, 0, 0, 0, 0, 0)).2.2.2.2.2.2.2.2.2.2.2.2.2.2.2.2.2.2.2 y10.q0 y10.q1 y10.q2 y10.q3 y10.q4 y10.q5 y10.q6 y10.q7 y10.q8 y10.q9 (List.getD x7 (Int.toNat x4) (0, 0, 0, 0, 0, 0, false, false, 0, 0, [], ByteArray.empty, 0, 0, false, 0, 0, 0, 0, 0)).2.2.2.2.2.2.2.2.2.2.1 y10.q10 y10.q11 y10.q12 y10.q13 y10.q14 y10.q15 y10.q16 y10.q17 y10.q18) fun y11 =>
 bif (!y11) then
 (some false)
 else (F5_c0 n x0 (iadd .i64 x1 (1)) x2 (iadd .i64 x3 (1)) (iadd .i64 x4 (1)) x5 x6 x7 x8 x9 x10 x11 x12))
 else (none))
 else (none))))
 else (none))
 else (none)))
 else (bif (ige x3 (ofN (List.length x12))) then
 (some false)
 else (bif (inb x3 (List.length x12)) then
 (bif (nlt (Int.toNat x3) (List.length x12)) then
 (Option.bind (F23 FUEL (List.getD x7 (Int.toNat x4) (0, 0, 0, 0, 0, 0, false, false, 0, 0, [], ByteArray.empty, 0, 0, false, 0, 0, 0, 0, 0)).1 (List.getD x7 (Int.toNat x4) (0, 0, 0, 0, 0, 0, false, false, 0, 0, [], ByteArray.empty, 0, 0, false, 0, 0, 0, 0, 0)).2.1 (List.getD x7 (Int.toNat x4) (0, 0, 0, 0, 0, 0, false, false, 0, 0, [], ByteArray.empty, 0, 0, false, 0, 0, 0, 0, 0)).2.2.1 (List.getD x7 (Int.toNat x4) (0, 0, 0, 0, 0, 0, false, false, 0, 0, [], ByteArray.empty, 0, 0, false, 0, 0, 0, 0, 0)).2.2.2.1 (List.getD x7 (Int.toNat x4) (0, 0, 0, 0, 0, 0, false, false, 0, 0, [], ByteArray.empty, 0, 0, false, 0, 0, 0, 0, 0)).2.2.2.2.1 (List.getD x7 (Int.toNat x4) (0, 0, 0, 0, 0, 0, false, false, 0, 0, [], ByteArray.empty, 0, 0, false, 0, 0, 0, 0, 0)).2.2.2.2.2.1 (List.getD x7 (Int.toNat x4) (0, 0, 0, 0, 0, 0, false, false, 0, 0, [], ByteArray.empty, 0, 0, false, 0, 0, 0, 0, 0)).2.2.2.2.2.2.1 (List.getD x7 (Int.toNat x4) (0, 0, 0, 0, 0, 0, false, false, 0, 0, [], ByteArray.empty, 0, 0, false, 0, 0, 0, 0, 0)).2.2.2.2.2.2.2.1 (List.getD x7 (Int.toNat x4) (0, 0, 0, 0, 0, 0, false, false, 0, 0, [], ByteArray.empty, 0, 0, false, 0, 0, 0, 0, 0)).2.2.2.2.2.2.2.2.1 (List.getD x7 (Int.toNat x4) (0, 0, 0, 0, 0, 0, false, false, 0, 0, [], ByteArray.empty, 0, 0, false, 0, 0, 0, 0, 0)).2.2.2.2.2.2.2.2.2.1 (List.getD x7 (Int.toNat x4) (0, 0, 0, 0, 0, 0, false, false, 0, 0, [], ByteArray.empty, 0, 0, false, 0, 0, 0, 0, 0)).2.2.2.2.2.2.2.2.2.2.2.1 (List.getD x7 (Int.toNat x4) (0, 0, 0, 0, 0, 0, false, false, 0, 0, [], ByteArray.empty, 0, 0, false, 0, 0, 0, 0, 0)).2.2.2.2.2.2.2.2.2.2.2.2.1 (List.getD x7 (Int.toNat x4) (0, 0, 0, 0, 0, 0, false, false, 0, 0, [], ByteArray.empty, 0, 0, false, 0, 0, 0, 0, 0)).2.2.2.2.2.2.2.2.2.2.2.2.2.1 (List.getD x7 (Int.toNat x4) (0, 0, 0, 0, 0, 0, false, false, 0, 0, [], ByteArray.empty, 0, 0, false, 0, 0, 0, 0, 0)).2.2.2.2.2.2.2.2.2.2.2.2.2.2.1 (List.getD x7 (Int.toNat x4) (0, 0, 0, 0, 0, 0, false, false, 0, 0, [], ByteArray.empty, 0, 0, false, 0, 0, 0, 0, 0)).2.2.2.2.2.2.2.2.2.2.2.2.2.2.2.1 (List.getD x7 (Int.toNat x4) (0, 0, 0, 0, 0, 0, false, false, 0, 0, [], ByteArray.empty, 0, 0, false, 0, 0, 0, 0, 0)).2.2.2.2.2.2.2.2.2.2.2.2.2.2.2.2.1 (List.getD x7 (Int.toNat x4) (0, 0, 0, 0, 0, 0, false, false, 0, 0, [], ByteArray.empty, 0, 0, false, 0, 0, 0, 0, 0)).2.2.2.2.2.2.2.2.2.2.2.2.2.2.2.2.2.1 (List.getD x7 (Int.toNat x4) (0, 0, 0, 0, 0, 0, false, false, 0, 0, [], ByteArray.empty, 0, 0, false, 0, 0, 0, 0, 0)).2.2.2.2.2.2.2.2.2.2.2.2.2.2.2.2.2.2.1 (List.getD x7 (Int.toNat x4) (0, 0, 0, 0, 0, 0, false, false, 0, 0, [], ByteArray.empty, 0, 0, false, 0, 0, 0, 0, 0)).2.2.2.2.2.2.2.2.2.2.2.2.2.2.2.2.2.2.2 x0) fun y12 =>
 Option.bind (F15 FUEL (List.getD x12 (Int.toNat x3) (0, 0, 0, 0, 0, 0, false, false, 0, 0, [], ByteArray.empty, 0, 0, false, 0, 0, 0, 0, 0)).1 (List.getD x12 (Int.toNat x3) (0, 0, 0, 0, 0, 0, false, false, 0, 0, [], ByteArray.empty, 0, 0, false, 0, 0, 0, 0, 0)).2.1 (List.getD x12 (Int.toNat x3) (0, 0, 0, 0, 0, 0, false, false, 0, 0, [], ByteArray.empty, 0, 0, false, 0, 0, 0, 0, 0)).2.2.1 (List.getD x12 (Int.toNat x3) (0, 0, 0, 0, 0, 0, false, false, 0, 0, [], ByteArray.empty, 0, 0, false, 0, 0, 0, 0, 0)).2.2.2.1 (List.getD x12 (Int.toNat x3) (0, 0, 0, 0, 0, 0, false, false, 0, 0, [], ByteArray.empty, 0, 0, false, 0, 0, 0, 0, 0)).2.2.2.2.1 (List.getD x12 (Int.toNat x3) (0, 0, 0, 0, 0, 0, false, false, 0, 0, [], ByteArray.empty, 0, 0, false, 0, 0, 0, 0, 0)).2.2.2.2.2.1 (List.getD x12 (Int.toNat x3) (0, 0, 0, 0, 0, 0, false, false, 0, 0, [], ByteArray.empty, 0, 0, false, 0, 0, 0, 0, 0)).2.2.2.2.2.2.1 (List.getD x12 (Int.toNat x3) (0, 0, 0, 0, 0, 0, false, false, 0, 0, [], ByteArray.empty, 0, 0, false, 0, 0, 0, 0, 0)).2.2.2.2.2.2.2.1 (List.getD x12 (Int.toNat x3) (0, 0, 0, 0, 0, 0, false, false, 0, 0, [], ByteArray.empty, 0, 0, false, 0, 0, 0, 0, 0)).2.2.2.2.2.2.2.2.1 (List.getD x12 (Int.toNat x3) (0, 0, 0, 0, 0, 0, false, false, 0, 0, [], ByteArray.empty, 0, 0, false, 0, 0, 0, 0, 0)).2.2.2.2.2.2.2.2.2.1 (List.getD x12 (Int.toNat x3) (0, 0, 0, 0, 0, 0, false, false, 0, 0, [], ByteArray.empty, 0, 0, false, 0, 0, 0, 0, 0)).2.2.2.2.2.2.2.2.2.2.1 (List.getD x12 (Int.toNat x3) (0, 0, 0, 0, 0, 0, false, false, 0, 0, [], ByteArray.empty, 0, 0, false, 0, 0, 0, 0, 0)).2.2.2.2.2.2.2.2.2.2.2.1 (List.getD x12 (Int.toNat x3) (0, 0, 0, 0, 0, 0, false, false, 0, 0, [], ByteArray.empty, 0, 0, false, 0, 0, 0, 0, 0)).2.2.2.2.2.2.2.2.2.2.2.2.1 (List.getD x12 (Int.toNat x3) (0, 0, 0, 0, 0, 0, false, false, 0, 0, [], ByteArray.empty, 0, 0, false, 0, 0, 0, 0, 0)).2.2.2.2.2.2.2.2.2.2.2.2.2.1 (List.getD x12 (Int.toNat x3) (0, 0, 0, 0, 0, 0, false, false, 0, 0, [], ByteArray.empty, 0, 0, false, 0, 0, 0, 0, 0)).2.2.2.2.2.2.2.2.2.2.2.2.2.2.1 (List.getD x12 (Int.toNat x3) (0, 0, 0, 0, 0, 0, false, false, 0, 0, [], ByteArray.empty, 0, 0, false, 0, 0, 0, 0, 0)).2.2.2.2.2.2.2.2.2.2.2.2.2.2.2.1 (List.getD x12 (Int.toNat x3) (0, 0, 0, 0, 0, 0, false, false, 0, 0, [], ByteArray.empty, 0, 0, false, 0, 0, 0, 0, 0)).2.2.2.2.2.2.2.2.2.2.2.2.2.2.2.2.1 (List.getD x12 (Int.toNat x3) (0, 0, 0, 0, 0, 0, false, false, 0, 0, [], ByteArray.empty, 0, 0, false, 0, 0, 0, 0, 0)).2.2.2.2.2.2.2.2.2.2.2.2.2.2.2.2.2.1 (List.getD x12 (Int.toNat x3) (0, 0, 0, 0, 0, 0, false, false, 0, 0, [], ByteArray.empty, 0, 0, false, 0, 0, 0, 0, 0)).2.2.2.2.2.2.2.2.2.2.2.2.2.2.2.2.2.2.1 (List.getD x12 (Int.toNat x3) (0, 0, 0, 0, 0, 0, false, false, 0, 0, [], ByteArray.empty, 0, 0, false, 0, 0, 0, 0, 0)).2.2.2.2.2.2.2.2.2.2.2.2.2.2.2.2.2.2.2 y12.q0 y12.q1 y12.q2 y12.q3 y12.q4 y12.q5 y12.q6 y12.q7 y12.q8 y12.q9 (List.getD x7 (Int.toNat x4) (0, 0, 0, 0, 0, 0, false, false, 0, 0, [], ByteArray.empty, 0, 0, false, 0, 0, 0, 0, 0)).2.2.2.2.2.2.2.2.2.2.1 y12.q10 y12.q11 y12.q12 y12.q13 y12.q14 y12.q15 y12.q16 y12.q17 y12.q18) fun y13 =>
 bif (!y13) then
 (some false)
 else (F5_c0 n x0 x1 x2 (iadd .i64 x3 (1)) (iadd .i64 x4 (1)) x5 x6 x7 x8 x9 x10 x11 x12))
 else (none))
 else (none)))))
 else (none))
 else (Option.bind (F16 FUEL x8 x9 x12 x0) fun y14 =>
 bif (ieq x1 (ofN (List.length x10))) then
 (bif (ieq x2 (ofN (List.length x11))) then
 (bif (ieq x3 (ofN (List.length x12))) then
 (Option.bind (F17 FUEL x8 x9 x12) fun y15 =>
 bif y15 then
 (Option.bind (F12 FUEL y14.q0 y14.q1 y14.q2 x8 x9 x12) fun y16 =>
 bif y16 then
 (bif (ieq (iadd .i64 (ofN (List.length y14.q3)) (ofN (List.length y14.q4))) (0)) then
 (Option.bind (F8 FUEL) fun y17 =>
 some y17)
 else (some false))
 else (some false))
 else (some false))
 else (some false))
 else (some false))
 else (some false))
def F5 (n : Nat) (a0 a1 : Int) (a2 : List (Int × Int × Int × Int × Int × Int × Bool × Bool × Int × Int × (List (Int)) × ByteArray × Int × Int × Bool × Int × Int × Int × Int × Int)) (a3 : Int) : Option (Bool) :=
  Option.bind (F18 FUEL a0 a1 a2) fun y1 =>
 bif (!y1) then
 (Option.bind (F8 FUEL) fun y2 =>
 some y2)
 else (bif (ilt a3 (0)) then
 (Option.bind (F8 FUEL) fun y3 =>
 some y3)
 else (bif (igt a3 (1099511627776)) then
 (Option.bind (F8 FUEL) fun y4 =>
 some y4)
 else (Option.bind (F16 FUEL a0 a1 a2 a3) fun y5 =>
 F5_c0 n a3 (0) (0) (0) (0) a0 a1 a2 y5.q0 y5.q1 y5.q3 y5.q4 y5.q2)))

/-! ### garland/garlandlaw10.CallsDrop -/
def F6_c0 : Nat → Int → Bool → Int → Int → Int → Int → Int → List (Int × Int × Int × Int × Int × Int × Bool × Bool × Int × Int × (List (Int)) × ByteArray × Int × Int × Bool × Int × Int × Int × Int × Int) → Int → Int → Int → Int → Int → Int → Bool → Bool → Int → Int → List (Int) → ByteArray → Int → Int → Bool → Int → Int → Int → Int → Int → Int → Int → List (Int × Int × Int × Int × Int × Int × Bool × Bool × Int × Int × (List (Int)) × ByteArray × Int × Int × Bool × Int × Int × Int × Int × Int) → Option (Bool)
  | 0, _, _, _, _, _, _, _, _, _, _, _, _, _, _, _, _, _, _, _, _, _, _, _, _, _, _, _, _, _, _, _ => none
  | n + 1, x0, x1, x2, x3, x4, x5, x6, x7, x8, x9, x10, x11, x12, x13, x14, x15, x16, x17, x18, x19, x20, x21, x22, x23, x24, x25, x26, x27, x28, x29, x30 => bif (ilt x4 (ofN (List.length x7))) then
 (bif (inb x4 (List.length x7)) then
 (bif (ieq (List.getD x7 (Int.toNat x4) (0, 0, 0, 0, 0, 0, false, false, 0, 0, [], ByteArray.empty, 0, 0, false, 0, 0, 0, 0, 0)).2.2.2.2.2.2.2.2.2.2.2.2.2.2.2.2.1 x0) then
 (bif (ilt x3 (0)) then
 (F6_c0 n x0 x1 x2 x4 (iadd .i64 x4 (1)) x5 x6 x7 x8 x9 x10 x11 x12 x13 x14 x15 x16 x17 x18 x19 x20 x21 x22 x23 x24 x25 x26 x27 x28 x29 x30)
 else (F6_c0 n x0 x1 x2 x3 (iadd .i64 x4 (1)) x5 x6 x7 x8 x9 x10 x11 x12 x13 x14 x15 x16 x17 x18 x19 x20 x21 x22 x23 x24 x25 x26 x27 x28 x29 x30))
 else (bif (ige x2 (ofN (List.length x30))) then
 (some false)
 else (bif (inb x2 (List.length x30)) then
 (bif (nlt (Int.toNat x2) (List.length x30)) then
 (bif (inb x4 (List.length x7)) then
 (Option.bind (F15 FUEL (List.getD x30 (Int.toNat x2) (0, 0, 0, 0, 0, 0, false, false, 0, 0, [], ByteArray.empty, 0, 0, false, 0, 0, 0, 0, 0)).1 (List.getD x30 (Int.toNat x2) (0, 0, 0, 0, 0, 0, false, false, 0, 0, [], ByteArray.empty, 0, 0, false, 0, 0, 0, 0, 0)).2.1 (List.getD x30 (Int.toNat x2) (0, 0, 0, 0, 0, 0, false, false, 0, 0, [], ByteArray.empty, 0, 0, false, 0, 0, 0, 0, 0)).2.2.1 (List.getD x30 (Int.toNat x2) (0, 0, 0, 0, 0, 0, false, false, 0, 0, [], ByteArray.empty, 0, 0, false, 0, 0, 0, 0, 0)).2.2.2.1 (List.getD x30 (Int.toNat x2) (0, 0, 0, 0, 0, 0, false, false, 0, 0, [], ByteArray.empty, 0, 0, false, 0, 0, 0, 0, 0)).2.2.2.2.1 (List.getD x30 (Int.toNat x2) (0, 0, 0, 0, 0, 0, false, false, 0, 0, [], ByteArray.empty, 0, 0, false, 0, 0, 0, 0, 0)).2.2.2.2.2.1 (List.getD x30 (Int.toNat x2) (0, 0, 0, 0, 0, 0, false, false, 0, 0, [], ByteArray.empty, 0, 0, false, 0, 0, 0, 0, 0)).2.2.2.2.2.2.1 (List.getD x30 (Int.toNat x2) (0, 0, 0, 0, 0, 0, false, false, 0, 0, [], ByteArray.empty, 0, 0, false, 0, 0, 0, 0, 0)).2.2.2.2.2.2.2.1 (List.getD x30 (Int.toNat x2) (0, 0, 0, 0, 0, 0, false, false, 0, 0, [], ByteArray.empty, 0, 0, false, 0, 0, 0, 0, 0)).2.2.2.2.2.2.2.2.1 (List.getD x30 (Int.toNat x2) (0, 0, 0, 0, 0, 0, false, false, 0, 0, [], ByteArray.empty, 0, 0, false, 0, 0, 0, 0, 0)).2.2.2.2.2.2.2.2.2.1 (List.getD x30 (Int.toNat x2) (0, 0, 0, 0, 0, 0, false, false, 0, 0, [], ByteArray.empty, 0, 0, false, 0, 0, 0, 0, 0)).2.2.2.2.2.2.2.2.2.2.1 (List.getD x30 (Int.toNat x2) (0, 0, 0, 0, 0, 0, false, false, 0, 0, [], ByteArray.empty, 0, 0, false, 0, 0, 0, 0, 0)).2.2.2.2.2.2.2.2.2.2.2.1 (List.getD x30 (Int.toNat x2) (0, 0, 0, 0, 0, 0, false, false, 0, 0, [], ByteArray.empty, 0, 0, false, 0, 0, 0, 0, 0)).2.2.2.2.2.2.2.2.2.2.2.2.1 (List.getD x30 (Int.toNat x2) (0, 0, 0, 0, 0, 0, false, false, 0, 0, [], ByteArray.empty, 0, 0, false, 0, 0, 0, 0, 0)).2.2.2.2.2.2.2.2.2.2.2.2.2.1 (List.getD x30 (Int.toNat x2) (0, 0, 0, 0, 0, 0, false, false, 0, 0, [], ByteArray.empty, 0, 0, false, 0, 0, 0, 0, 0)).2.2.2.2.2.2.2.2.2.2.2.2.2.2.1 (List.getD x30 (Int.toNat x2) (0, 0, 0, 0, 0, 0, false, false, 0, 0, [], ByteArray.empty, 0, 0, false, 0, 0, 0, 0, 0)).2.2.2.2.2.2.2.2.2.2.2.2.2.2.2.1 (List.getD x30 (Int.toNat x2) (0, 0, 0, 0, 0, 0, false, false, 0, 0, [], ByteArray.empty, 0, 0, false, 0, 0, 0, 0, 0)).2.2.2.2.2.2.2.2.2.2.2.2.2.2.2.2.1 (List.getD x30 (Int.toNat x2) (0, 0, 0, 0, 0, 0, false, false, 0, 0, [], ByteArray.empty, 0, 0, false, 0, 0, 0, 0, 0)).2.2.2.2.2.2.2.2.2.2.2.2.2.2.2.2.2.1 (List.getD x30 (Int.toNat x2) (0, 0, 0, 0, 0, 0, false, false, 0, 0, [], ByteArray.empty, 0, 0, false, 0, 0, 0, 0, 0)).2.2.2.2.2.2.2.2.2.2.2.2.2.2.2.2.2.2.1 (List.getD x30 (Int.toNat x2) (0, 0, 0, 0, 0, 0, false, false, 0, 0, [], ByteArray.empty, 0, 0, false, 0, 0, 0, 0, 0)).2.2.2.2.2.2.2.2.2.2.2.2.2.2.2.2.2.2.2 (List.getD x7 (Int.toNat x4) (0, 0, 0, 0, 0, 0, false, false, 0, 0, [], ByteArray.empty, 0, 0, false, 0, 0, 0, 0, 0)).1 (List.getD x7 (Int.toNat x4) (0, 0, 0, 0, 0, 0, false, false, 0, 0, [], ByteArray.empty, 0, 0, false, 0, 0, 0, 0, 0)).2.1 (List.getD x7 (Int.toNat x4) (0, 0, 0, 0, 0, 0, false, false, 0, 0, [], ByteArray.empty, 0, 0, false, 0, 0, 0, 0, 0)).2.2.1 (List.getD x7 (Int.toNat x4) (0, 0, 0, 0, 0, 0, false, false, 0, 0, [], ByteArray.empty, 0, 0, false, 0, 0, 0, 0, 0)).2.2.2.1 (List.getD x7 (Int.toNat x4) (0, 0, 0, 0, 0, 0, false, false, 0, 0, [], ByteArray.empty, 0, 0, false, 0, 0, 0, 0, 0)).2.2.2.2.1 (List.getD x7 (Int.toNat x4) (0, 0, 0, 0, 0, 0, false, false, 0, 0, [], ByteArray.empty, 0, 0, false, 0, 0, 0, 0, 0)).2.2.2.2.2.1 (List.getD x7 (Int.toNat x4) (0, 0, 0, 0, 0, 0, false, false, 0, 0, [], ByteArray.empty, 0, 0, false, 0, 0, 0, 0, 0)).2.2.2.2.2.2.1 (List.getD x7 (Int.toNat x4) (0, 0, 0, 0, 0, 0, false, false, 0, 0, [], ByteArray.empty, 0, 0, false, 0, 0, 0, 0, 0)).2.2.2.2.2.2.2.1 (List.getD x7 (Int.toNat x4) (0, 0, 0, 0, 0, 0, false, false, 0, 0, [], ByteArray.empty, 0, 0, false, 0, 0, 0, 0, 0)).2.2.2.2.2.2.2.2.1 (List.getD x7 (Int.toNat x4) (0, 0, 0, 0, 0, 0, false, false, 0, 0, [], ByteArray.empty, 0, 0, false, 0, 0, 0, 0, 0)).2.2.2.2.2.2.2.2.2.1 (List.getD x7 (Int.toNat x4) (0, 0, 0, 0, 0, 0, false, false, 0, 0, [], ByteArray.empty, 0, 0, false, 0, 0, 0, 0, 0)).2.2.2.2.2.2.2.2.2.2.1 (List.getD x7 (Int.toNat x4) (0, 0, 0, 0, 0, 0, false, false, 0, 0, [], ByteArray.empty, 0, 0, false, 0, 0, 0, 0, 0)).2.2.2.2.2.2.2.2.2.2.2.1 (List.getD x7 (Int.toNat x4) (0, 0, 0, 0, 0, 0, false, false, 0, 0, [], ByteArray.empty, 0, 0, false, 0, 0, 0, 0, 0)).2.2.2.2.2.2.2.2.2.2.2.2.1 (List.getD x7 (Int.toNat x4) (0, 0, 0, 0, 0, 0, false, false, 0, 0, [], ByteArray.empty, 0, 0, false, 0, 0, 0, 0, 0)).2.2.2.2.2.2.2.2.2.2.2.2.2.1 (List.getD x7 (Int.toNat x4) (0, 0, 0, 0, 0, 0, false, false, 0, 0, [], ByteArray.empty, 0, 0, false, 0, 0, 0, 0, 0)).2.2.2.2.2.2.2.2.2.2.2.2.2.2.1 (List.getD x7 (Int.toNat x4) (0, 0, 0, 0, 0, 0, false, false, 0, 0, [], ByteArray.empty, 0, 0, false, 0, 0, 0, 0, 0)).2.2.2.2.2.2.2.2.2.2.2.2.2.2.2.1 (List.getD x7 (Int.toNat x4) (0, 0, 0, 0, 0, 0, false, false, 0, 0, [], ByteArray.empty, 0, 0, false, 0, 0, 0, 0, 0)).2.2.2.2.2.2.2.2.2.2.2.2.2.2.2.2.1 (List.getD x7 (Int.toNat x4) (0, 0, 0, 0, 0, 0, false, false, 0, 0, [], ByteArray.empty, 0, 0, false, 0, 0, 0, 0, 0)).2.2.2.2.2.2.2.2.2.2.2.2.2.2.2.2.2.1 (List.getD x7 (Int.toNat x4) (0, 0, 0, 0, 0, 0, false, false, 0, 0, [], ByteArray.empty, 0, 0, false, 0, 0, 0, 0, 0)).2.2.2.2.2.2.2.2.2.2.2.2.2.2.2.2.2.2.1 (List.getD x7 (Int.toNat x4) (0, 0, 0, 0, 0, 0, false, false, 0, 0, [], ByteArray.empty, 0, 0, false, 0, 0, 0, 0, 0)).2.2.2.2.2.2.2.2.2.2.2.2.2.2.2.2.2.2.2) fun y5 =>
 bif (!y5) then
 (some false)
 else (F6_c0 n x0 x1 (iadd .i64 x2 (1)) x3 (iadd .i64 x4 (1)) x5 x6 x7 x8 x9 x10 x11 x12 x13 x14 x15 x16 x17 x18 x19 x20 x21 x22 x23 x24 x25 x26 x27 x28 x29 x30))
 else (none))
 else (none))
 else (none))))
 else (none))
 else (Option.bind (F24 FUEL x28 x29 x30 x0) fun y6 =>
 bif (ine x2 (ofN (List.length x30))) then
 (some false)
 else (bif y6.q20 then
 (some false)
 else (bif (bneb x1 (ige x3 (0))) then
 (some false)
 else (Option.bind (F17 FUEL x28 x29 x30) fun y7 =>
 bif (!y7) then
 (some false)
 else (bif (!x1) then
 (Option.bind (F8 FUEL) fun y8 =>
 some y8)
 else (bif (inb x3 (List.length x7)) then
 (Option.bind (F15 FUEL x8 x9 x10 x11 x12 x13 x14 x15 x16 x17 x18 x19 x20 x21 x22 x23 x24 x25 x26 x27 (List.getD x7 (Int.toNat x3) (0, 0, 0, 0, 0, 0, false, false, 0, 0, [], ByteArray.empty, 0, 0, false, 0, 0, 0, 0, 0)).1 (List.getD x7 (Int.toNat x3) (0, 0, 0, 0, 0, 0, false, false, 0, 0, [], ByteArray.empty, 0, 0, false, 0, 0, 0, 0, 0)).2.1 (List.getD x7 (Int.toNat x3) (0, 0, 0, 0, 0, 0, false, false, 0, 0, [], ByteArray.empty, 0, 0, false, 0, 0, 0, 0, 0)).2.2.1 (List.getD x7 (Int.toNat x3) (0, 0, 0, 0, 0, 0, false, false, 0, 0, [], ByteArray.empty, 0, 0, false, 0, 0, 0, 0, 0)).2.2.2.1 (List.getD x7 (Int.toNat x3) (0, 0, 0, 0, 0, 0, false, false, 0, 0, [], ByteArray.empty, 0, 0, false, 0, 0, 0, 0, 0)).2.2.2.2.1 (List.getD x7 (Int.toNat x3) (0, 0, 0, 0, 0, 0, false, false, 0, 0, [], ByteArray.empty, 0, 0, false, 0, 0, 0, 0, 0)).2.2.2.2.2.1 (List.getD x7 (Int.toNat x3) (0, 0, 0, 0, 0, 0, false, false, 0, 0, [], ByteArray.empty, 0, 0, false, 0, 0, 0, 0, 0)).2.2.2.2.2.2.1 (List.getD x7 (Int.toNat x3) (0, 0, 0, 0, 0, 0, false, false, 0, 0, [], ByteArray.empty, 0, 0, false, 0, 0, 0, 0, 0)).2.2.2.2.2.2.2.1 (List.getD x7 (Int.toNat x3) (0, 0, 0, 0, 0, 0, false, false, 0, 0, [], ByteArray.empty, 0, 0, false, 0, 0, 0, 0, 0)).2.2.2.2.2.2.2.2.1 (List.getD x7 (Int.toNat x3) (0, 0, 0, 0, 0, 0, false, false, 0, 0, [], ByteArray.empty, 0, 0, false, 0, 0, 0, 0, 0)).2.2.2.2.2.2.2.2.2.1 (List.getD x7 (Int.toNat x3) (0, 0, 0, 0, 0, 0, false, false, 0, 0, [], ByteArray.empty, 0, 0, false, 0, 0, 0, 0, 0)).2.2.2.2.2.2.2.2.2.2.1 (List.getD x7 (Int.toNat x3) (0, 0, 0, 0, 0, 0, false, false, 0, 0, [], ByteArray.empty, 0, 0, false, 0, 0, 0, 0, 0)).2.2.2.2.2.2.2.2.2.2.2.1 (List.getD x7 (Int.toNat x3) (0, 0, 0, 0, 0, 0, false, false, 0, 0, [], ByteArray.empty, 0, 0, false, 0, 0, 0, 0, 0)).2.2.2.2.2.2.2.2.2.2.2.2.1 (List.getD x7 (Int.toNat x3) (0, 0, 0, 0, 0, 0, false, false, 0, 0, [], ByteArray.empty, 0, 0, false, 0, 0, 0, 0, 0)).2.2.2.2.2.2.2.2.2.2.2.2.2.1 (List.getD x7 (Int.toNat x3) (0, 0, 0, 0, 0, 0, false, false, 0, 0, [], ByteArray.empty, 0, 0, false, 0, 0, 0, 0, 0)).2.2.2.2.2.2.2.2.2.2.2.2.2.2.1 (List.getD x7 (Int.toNat x3) (0, 0, 0, 0, 0, 0, false, false, 0, 0, [], ByteArray.empty, 0, 0, false, 0, 0, 0, 0, 0)).2.2.2.2.2.2.2.2.2.2.2.2.2.2.2.1 (List.getD x7 (Int.toNat x3) (0, 0, 0, 0, 0, 0, false, false, 0, 0, [], ByteArray.empty, 0, 0, false, 0, 0, 0, 0, 0)).2.2.2.2.2.2.2.2.2.2.2.2.2.2.2.2.1 (List.getD x7 (Int.toNat x3) (0, 0, 0, 0, 0, 0, false, false, 0, 0, [], ByteArray.empty, 0, 0, false, 0, 0, 0, 0, 0)).2.2.2.2.2.2.2.2.2.2.2.2.2.2.2.2.2.1 (List.getD x7 (Int.toNat x3) (0, 0, 0, 0, 0, 0, false, false, 0, 0, [], ByteArray.empty, 0, 0, false, 0, 0, 0, 0, 0)).2.2.2.2.2.2.2.2.2.2.2.2.2.2.2.2.2.2.1 (List.getD x7 (Int.toNat x3) (0, 0, 0, 0, 0, 0, false, false, 0, 0, [], ByteArray.empty, 0, 0, false, 0, 0, 0, 0, 0)).2.2.2.2.2.2.2.2.2.2.2.2.2.2.2.2.2.2.2) fun y9 =>
 bif y9 then
 (Option.bind (F8 FUEL) fun y10 =>
 some y10)
 else (some false))
 else (none)))))))
def F6 (n : Nat) (a0 a1 : Int) (a2 : List (Int × Int × Int × Int × Int × Int × Bool × Bool × Int × Int × (List (Int)) × ByteArray × Int × Int × Bool × Int × Int × Int × Int × Int)) (a3 : Int) : Option (Bool) :=
  Option.bind (F18 FUEL a0 a1 a2) fun y1 =>
 bif (!y1) then
 (Option.bind (F8 FUEL) fun y2 =>
 some y2)
 else (Option.bind (F24 FUEL a0 a1 a2 a3) fun y3 =>
 Option.bind (F25 FUEL a0 a1 a2 a3) fun y4 =>
 F6_c0 n a3 y3.q20 (0) (-1) (0) a0 a1 a2 y3.q0 y3.q1 y3.q2 y3.q3 y3.q4 y3.q5 y3.q6 y3.q7 y3.q8 y3.q9 y3.q10 y3.q11 y3.q12 y3.q13 y3.q14 y3.q15 y3.q16 y3.q17 y3.q18 y3.q19 y4.1 y4.2.1 y4.2.2)

end Go.Proofs.YtcbhmedknbiffaaDoor
