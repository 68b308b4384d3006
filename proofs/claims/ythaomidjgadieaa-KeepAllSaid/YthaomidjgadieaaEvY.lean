/-
  What the functions of this program compute, in plain words.
-/
import Derived.Test.YthaomidjgadieaaEvR
namespace Go.Proofs.Ythaomidjgadieaa
open Go Go.RowKit
set_option maxRecDepth 100000


/-! ### garland/garlandlaw06.great -/
def F13 (_n : Nat) (_a0 : Int) (_a1 : Int) (_a2 : Int) (_a3 : Int) (_a4 : Int) (_a5 : Bool) (_a6 : Bool) (_a7 : Int) (_a8 : Int) (a9 : List (Int)) (a10 : ByteArray) (_a11 : Int) (_a12 : Int) (_a13 : Bool) (_a14 : Int) : Option (Bool) :=
  bif (igt (ofN (List.length a9)) (30)) then
  (some true)
  else (some (igt (stlen a10) (100)))

/-! ### garland/msg.isPlace -/
def F49 (_n : Nat) (a0 : Int) : Option (Bool) :=
  bif (ige a0 (0)) then
  (some (ilt a0 (65536)))
  else (some false)

/-! ### garland/msg.Call -/
def F15_c0 : Nat → Option (Int × Int)
  | 0 => none
  | _ + 1 => some ((0), (2))
def F15 (n : Nat) (a0 : Int) (a1 : Int) : Option (Int × Int) :=
  Option.bind (F49 FUEL a0) fun y1 =>
  bif (!y1) then
  (F15_c0 n )
  else (bif (ilt a1 (1)) then
   (F15_c0 n )
   else (bif (igt a1 (1048576)) then
    (F15_c0 n )
    else (some ((iadd .i64 (imul .i64 a0 (1048576)) a1), (0)))))

/-! ### garland/msg.Asks -/
def F21 (_n : Nat) (a0 : Int) (_a1 : Int) (_a2 : Int) (_a3 : Int) (_a4 : Int) (_a5 : Bool) (_a6 : Bool) (_a7 : Int) (_a8 : Int) (_a9 : List (Int)) (_a10 : ByteArray) (_a11 : Int) (_a12 : Int) (_a13 : Bool) (_a14 : Int) : Option (Bool) :=
  bif (ige a0 (1)) then
  (some (ile a0 (6)))
  else (some false)

/-! ### garland/msg.Tell -/
structure Si5b2i2si2bi where
  q0 : Int
  q1 : Int
  q2 : Int
  q3 : Int
  q4 : Int
  q5 : Bool
  q6 : Bool
  q7 : Int
  q8 : Int
  q9 : ByteArray
  q10 : Int
  q11 : Int
  q12 : Bool
  q13 : Int
def F26 (_n : Nat) (a0 : Int) (a1 : Int) (a2 : Int) (a3 : Int) (a4 : Int) (a5 : Bool) (a6 : Bool) (a7 : Int) (a8 : Int) (a9 : List (Int)) (a10 : ByteArray) (a11 : Int) (a12 : Int) (a13 : Bool) (a14 : Int) : Option (Si5b2i2si2bi) :=
  Option.bind (F21 FUEL a0 a1 a2 a3 a4 a5 a6 a7 a8 a9 a10 a11 a12 a13 a14) fun y1 =>
  bif (!y1) then
  (some ⟨(0), (0), (0), (0), (0), false, false, (0), (0), ByteArray.empty, (0), (0), false, (0)⟩)
  else (some ⟨(iadd .u8 a0 (6)), a1, a3, a2, (0), false, false, (0), (0), ByteArray.empty, (0), (0), false, (0)⟩)

/-! ### garland/msg.isKey -/
def F51 (_n : Nat) (a0 : ByteArray) : Option (Bool) :=
  bif (ige (stlen a0) (1)) then
  (some (ile (stlen a0) (20)))
  else (some false)

/-! ### garland/msg.isValue -/
def F52 (_n : Nat) (a0 : Int) : Option (Bool) :=
  bif (ige a0 (0)) then
  (some (ile a0 (1048576)))
  else (some false)

/-! ### garland/msg.Pair -/
def F17 (_n : Nat) (a0 : ByteArray) (a1 : Int) (a2 : Int) (_a3 : Bool) : Option (Bool) :=
  Option.bind (F51 FUEL a0) fun y1 =>
  bif y1 then
  (Option.bind (F52 FUEL a1) fun y2 =>
   bif y2 then
   (Option.bind (F52 FUEL a2) fun y3 =>
    some y3)
   else (some false))
  else (some false)

/-! ### slices.Index[[]int,int] -/
def F77_c0 : Nat → List (Int) → Int → Int → Int → Option (Int)
  | 0, _, _, _, _ => none
  | n + 1, x0, x1, x2, x3 => bif (ilt x3 x2) then
    (bif (inb x3 (List.length x0)) then
     (bif (ieq x1 (List.getD x0 (Int.toNat x3) 0)) then
      (some x3)
      else (F77_c0 n x0 x1 x2 (iadd .i64 x3 (1))))
     else (none))
    else (some (-1))
def F77 (n : Nat) (a0 : List (Int)) (a1 : Int) : Option (Int) :=
  F77_c0 n a0 a1 (ofN (List.length a0)) (0)

/-! ### slices.Contains[[]int,int] -/
def F72 (_n : Nat) (a0 : List (Int)) (a1 : Int) : Option (Bool) :=
  Option.bind (F77 FUEL a0 a1) fun y1 =>
  some (ige y1 (0))

/-! ### garland/msg.apart -/
def F65_c0 : Nat → Int → List (Int) → List (Int) → Int → Int → Option (Bool)
  | 0, _, _, _, _, _ => none
  | n + 1, x0, x1, x2, x3, x4 => bif (ilt x4 x3) then
    (bif (inb x4 (List.length x2)) then
     (bif (ieq (List.getD x2 (Int.toNat x4) 0) x0) then
      (some false)
      else (bif ((inn x4) && (inbs 0 (Int.toNat x4) (List.length x1))) then
       (Option.bind (F72 FUEL (List.drop 0 (List.take (Int.toNat x4) x1)) (List.getD x2 (Int.toNat x4) 0)) fun y1 =>
        bif y1 then
        (some false)
        else (F65_c0 n x0 x1 x2 x3 (iadd .i64 x4 (1))))
       else (none)))
     else (none))
    else (some true)
def F65 (n : Nat) (a0 : Int) (a1 : List (Int)) : Option (Bool) :=
  F65_c0 n a0 a1 a1 (ofN (List.length a1)) (0)

/-! ### garland/msg.holds -/
def F53 (_n : Nat) (a0 : Int) (_a1 : Int) (a2 : Int) (_a3 : Int) (_a4 : Int) (_a5 : Bool) (_a6 : Bool) (_a7 : Int) (_a8 : Int) (a9 : List (Int)) (a10 : ByteArray) (a11 : Int) (a12 : Int) (a13 : Bool) (a14 : Int) : Option (Bool) :=
  bif (ieq a0 (5)) then
  (Option.bind (F17 FUEL a10 a11 a12 a13) fun y1 =>
   some y1)
  else (bif (ieq a0 (6)) then
   (Option.bind (F51 FUEL a10) fun y2 =>
    some y2)
   else (bif (ieq a0 (7)) then
    (bif (ile (ofN (List.length a9)) (3)) then
     (Option.bind (F65 FUEL a2 a9) fun y3 =>
      some y3)
     else (some false))
    else (bif (ieq a0 (11)) then
     (bif (ieq a14 (0)) then
      (some true)
      else (some (ieq a14 (200))))
     else (bif (ieq a0 (12)) then
      (bif (ieq a14 (0)) then
       (Option.bind (F17 FUEL a10 a11 a12 a13) fun y4 =>
        bif y4 then
        (some true)
        else (bif (ieq a14 (201)) then
         (some ((steq a10 ByteArray.empty) && ((ieq a11 (0)) && ((ieq a12 (0)) && ((beqb a13 false) && true)))))
         else (some false)))
       else (bif (ieq a14 (201)) then
        (some ((steq a10 ByteArray.empty) && ((ieq a11 (0)) && ((ieq a12 (0)) && ((beqb a13 false) && true)))))
        else (some false)))
      else (some true)))))

/-! ### garland/msg.Asker -/
def F23 (_n : Nat) (a0 : Int) (a1 : Int) (a2 : Int) (a3 : Int) (a4 : Int) (a5 : Bool) (a6 : Bool) (a7 : Int) (a8 : Int) (a9 : List (Int)) (a10 : ByteArray) (a11 : Int) (a12 : Int) (a13 : Bool) (a14 : Int) : Option (Int) :=
  Option.bind (F21 FUEL a0 a1 a2 a3 a4 a5 a6 a7 a8 a9 a10 a11 a12 a13 a14) fun y1 =>
  bif y1 then
  (some a2)
  else (some a3)

/-! ### garland/msg.isCall -/
def F55 (_n : Nat) (a0 : Int) (a1 : Int) : Option (Bool) :=
  bif (igt a1 (imul .i64 a0 (1048576))) then
  (some (ile a1 (imul .i64 (iadd .i64 a0 (1)) (1048576))))
  else (some false)

/-! ### garland/msg.beside -/
structure Sbi5b2i2si2bi where
  q0 : Bool
  q1 : Int
  q2 : Int
  q3 : Int
  q4 : Int
  q5 : Int
  q6 : Bool
  q7 : Bool
  q8 : Int
  q9 : Int
  q10 : ByteArray
  q11 : Int
  q12 : Int
  q13 : Bool
  q14 : Int
def F56 (_n : Nat) (a0 : Int) (_a1 : Int) (_a2 : Int) (_a3 : Int) (a4 : Int) (a5 : Bool) (a6 : Bool) (a7 : Int) (a8 : Int) (a9 : ByteArray) (a10 : Int) (a11 : Int) (a12 : Bool) (a13 : Int) : Option (Sbi5b2i2si2bi) :=
  bif (ieq a0 (4)) then
  (some ⟨true, (0), (0), (0), (0), (0), false, a6, a7, a8, a9, a10, a11, a12, a13⟩)
  else (bif (ieq a0 (5)) then
   (some ⟨true, (0), (0), (0), (0), a4, a5, a6, a7, a8, ByteArray.empty, (0), (0), false, a13⟩)
   else (bif (ieq a0 (6)) then
    (some ⟨true, (0), (0), (0), (0), a4, a5, a6, a7, a8, ByteArray.empty, a10, a11, a12, a13⟩)
    else (bif (ieq a0 (7)) then
     (some ⟨false, (0), (0), (0), (0), a4, a5, a6, a7, (0), a9, a10, a11, a12, a13⟩)
     else (bif (ieq a0 (10)) then
      (some ⟨true, (0), (0), (0), (0), a4, a5, false, (0), a8, a9, a10, a11, a12, a13⟩)
      else (bif (ieq a0 (11)) then
       (some ⟨true, (0), (0), (0), (0), a4, a5, a6, a7, a8, a9, a10, a11, a12, (0)⟩)
       else (bif (ieq a0 (12)) then
        (some ⟨true, (0), (0), (0), (0), a4, a5, a6, a7, a8, ByteArray.empty, (0), (0), false, (0)⟩)
        else (some ⟨true, (0), (0), (0), (0), a4, a5, a6, a7, a8, a9, a10, a11, a12, a13⟩)))))))

/-! ### slices.Equal[[]int,int] -/
def F59_c0 : Nat → List (Int) → List (Int) → Int → Int → Option (Bool)
  | 0, _, _, _, _ => none
  | n + 1, x0, x1, x2, x3 => bif (ilt x3 x2) then
    (bif (inb x3 (List.length x0)) then
     (bif (inb x3 (List.length x1)) then
      (bif (ine (List.getD x0 (Int.toNat x3) 0) (List.getD x1 (Int.toNat x3) 0)) then
       (some false)
       else (F59_c0 n x0 x1 x2 (iadd .i64 x3 (1))))
      else (none))
     else (none))
    else (some true)
def F59 (n : Nat) (a0 : List (Int)) (a1 : List (Int)) : Option (Bool) :=
  bif (ine (ofN (List.length a0)) (ofN (List.length a1))) then
  (some false)
  else (F59_c0 n a0 a1 (ofN (List.length a0)) (0))

/-! ### garland/msg.Same -/
def F28 (_n : Nat) (a0 : Int) (a1 : Int) (a2 : Int) (a3 : Int) (a4 : Int) (a5 : Bool) (a6 : Bool) (a7 : Int) (a8 : Int) (a9 : List (Int)) (a10 : ByteArray) (a11 : Int) (a12 : Int) (a13 : Bool) (a14 : Int) (a15 : Int) (a16 : Int) (a17 : Int) (a18 : Int) (a19 : Int) (a20 : Bool) (a21 : Bool) (a22 : Int) (a23 : Int) (a24 : List (Int)) (a25 : ByteArray) (a26 : Int) (a27 : Int) (a28 : Bool) (a29 : Int) : Option (Bool) :=
  bif (ieq a0 a15) then
  (bif (ieq a1 a16) then
   (bif (ieq a2 a17) then
    (bif (ieq a3 a18) then
     (bif (ieq a4 a19) then
      (bif (beqb a5 a20) then
       (bif (beqb a6 a21) then
        (bif (ieq a7 a22) then
         (bif (ieq a8 a23) then
          (Option.bind (F59 FUEL a9 a24) fun y1 =>
           bif y1 then
           (bif ((steq a10 a25) && ((ieq a11 a26) && ((ieq a12 a27) && ((beqb a13 a28) && true)))) then
            (some (ieq a14 a29))
            else (some false))
           else (some false))
          else (some false))
         else (some false))
        else (some false))
       else (some false))
      else (some false))
     else (some false))
    else (some false))
   else (some false))
  else (some false)

/-! ### garland/msg.Right -/
mutual
def F19_c0 : Nat → Option (Bool)
  | 0 => none
  | _ + 1 => some false
def F19_c1 : Nat → List (Int) → Int → Int → Int → Int → Int → Int → Int → Bool → Bool → Int → Int → List (Int) → ByteArray → Int → Int → Bool → Int → Option (Bool)
  | 0, _, _, _, _, _, _, _, _, _, _, _, _, _, _, _, _, _, _ => none
  | n + 1, x0, x1, x2, x3, x4, x5, x6, x7, x8, x9, x10, x11, x12, x13, x14, x15, x16, x17 => bif (ilt x2 x1) then
    (bif (inb x2 (List.length x0)) then
     (Option.bind (F49 FUEL (List.getD x0 (Int.toNat x2) 0)) fun y22 =>
      bif (!y22) then
      (F19_c0 n )
      else (F19_c1 n x0 x1 (iadd .i64 x2 (1)) x3 x4 x5 x6 x7 x8 x9 x10 x11 x12 x13 x14 x15 x16 x17))
     else (none))
    else (bif (ieq x5 x6) then
     (F19_c0 n )
     else (Option.bind (F23 FUEL x3 x4 x5 x6 x7 x8 x9 x10 x11 x12 x13 x14 x15 x16 x17) fun y23 =>
      Option.bind (F55 FUEL y23 x4) fun y24 =>
      bif (!y24) then
      (F19_c0 n )
      else (Option.bind (F56 FUEL x3 x4 x5 x6 x7 x8 x9 x10 x11 x13 x14 x15 x16 x17) fun y25 =>
       bif y25.q0 then
       (Option.bind (F28 FUEL y25.q1 y25.q2 y25.q3 y25.q4 y25.q5 y25.q6 y25.q7 y25.q8 y25.q9 x12 y25.q10 y25.q11 y25.q12 y25.q13 y25.q14 (0) (0) (0) (0) (0) false false (0) (0) [] ByteArray.empty (0) (0) false (0)) fun y26 =>
        some y26)
       else (Option.bind (F28 FUEL y25.q1 y25.q2 y25.q3 y25.q4 y25.q5 y25.q6 y25.q7 y25.q8 y25.q9 [] y25.q10 y25.q11 y25.q12 y25.q13 y25.q14 (0) (0) (0) (0) (0) false false (0) (0) [] ByteArray.empty (0) (0) false (0)) fun y27 =>
        some y27))))
end
def F19 (n : Nat) (a0 : Int) (a1 : Int) (a2 : Int) (a3 : Int) (a4 : Int) (a5 : Bool) (a6 : Bool) (a7 : Int) (a8 : Int) (a9 : List (Int)) (a10 : ByteArray) (a11 : Int) (a12 : Int) (a13 : Bool) (a14 : Int) : Option (Bool) :=
  bif (ilt a0 (1)) then
  (F19_c0 n )
  else (bif (ige a0 (13)) then
   (F19_c0 n )
   else (Option.bind (F53 FUEL a0 a1 a2 a3 a4 a5 a6 a7 a8 a9 a10 a11 a12 a13 a14) fun y1 =>
    bif (!y1) then
    (F19_c0 n )
    else (Option.bind (F49 FUEL a2) fun y2 =>
     bif (!y2) then
     (F19_c0 n )
     else (Option.bind (F49 FUEL a3) fun y3 =>
      bif (!y3) then
      (F19_c0 n )
      else (bif (ieq a0 (4)) then
       (Option.bind (F49 FUEL a4) fun y4 =>
        bif (!y4) then
        (F19_c0 n )
        else (bif (ieq a2 a3) then
         (F19_c0 n )
         else (Option.bind (F23 FUEL a0 a1 a2 a3 a4 a5 a6 a7 a8 a9 a10 a11 a12 a13 a14) fun y5 =>
          Option.bind (F55 FUEL y5 a1) fun y6 =>
          bif (!y6) then
          (F19_c0 n )
          else (Option.bind (F56 FUEL a0 a1 a2 a3 a4 a5 a6 a7 a8 a10 a11 a12 a13 a14) fun y7 =>
           bif y7.q0 then
           (Option.bind (F28 FUEL y7.q1 y7.q2 y7.q3 y7.q4 y7.q5 y7.q6 y7.q7 y7.q8 y7.q9 a9 y7.q10 y7.q11 y7.q12 y7.q13 y7.q14 (0) (0) (0) (0) (0) false false (0) (0) [] ByteArray.empty (0) (0) false (0)) fun y8 =>
            some y8)
           else (Option.bind (F28 FUEL y7.q1 y7.q2 y7.q3 y7.q4 y7.q5 y7.q6 y7.q7 y7.q8 y7.q9 [] y7.q10 y7.q11 y7.q12 y7.q13 y7.q14 (0) (0) (0) (0) (0) false false (0) (0) [] ByteArray.empty (0) (0) false (0)) fun y9 =>
            some y9)))))
       else (bif (ieq a0 (10)) then
        (Option.bind (F49 FUEL a7) fun y10 =>
         bif (!y10) then
         (F19_c0 n )
         else (bif (ieq a2 a3) then
          (F19_c0 n )
          else (Option.bind (F23 FUEL a0 a1 a2 a3 a4 a5 a6 a7 a8 a9 a10 a11 a12 a13 a14) fun y11 =>
           Option.bind (F55 FUEL y11 a1) fun y12 =>
           bif (!y12) then
           (F19_c0 n )
           else (Option.bind (F56 FUEL a0 a1 a2 a3 a4 a5 a6 a7 a8 a10 a11 a12 a13 a14) fun y13 =>
            bif y13.q0 then
            (Option.bind (F28 FUEL y13.q1 y13.q2 y13.q3 y13.q4 y13.q5 y13.q6 y13.q7 y13.q8 y13.q9 a9 y13.q10 y13.q11 y13.q12 y13.q13 y13.q14 (0) (0) (0) (0) (0) false false (0) (0) [] ByteArray.empty (0) (0) false (0)) fun y14 =>
             some y14)
            else (Option.bind (F28 FUEL y13.q1 y13.q2 y13.q3 y13.q4 y13.q5 y13.q6 y13.q7 y13.q8 y13.q9 [] y13.q10 y13.q11 y13.q12 y13.q13 y13.q14 (0) (0) (0) (0) (0) false false (0) (0) [] ByteArray.empty (0) (0) false (0)) fun y15 =>
             some y15)))))
        else (bif (ieq a0 (7)) then
         (bif (ine a8 (-1)) then
          (Option.bind (F49 FUEL a8) fun y16 =>
           bif (!y16) then
           (F19_c0 n )
           else (F19_c1 n a9 (ofN (List.length a9)) (0) a0 a1 a2 a3 a4 a5 a6 a7 a8 a9 a10 a11 a12 a13 a14))
          else (F19_c1 n a9 (ofN (List.length a9)) (0) a0 a1 a2 a3 a4 a5 a6 a7 a8 a9 a10 a11 a12 a13 a14))
         else (bif (ieq a2 a3) then
          (F19_c0 n )
          else (Option.bind (F23 FUEL a0 a1 a2 a3 a4 a5 a6 a7 a8 a9 a10 a11 a12 a13 a14) fun y17 =>
           Option.bind (F55 FUEL y17 a1) fun y18 =>
           bif (!y18) then
           (F19_c0 n )
           else (Option.bind (F56 FUEL a0 a1 a2 a3 a4 a5 a6 a7 a8 a10 a11 a12 a13 a14) fun y19 =>
            bif y19.q0 then
            (Option.bind (F28 FUEL y19.q1 y19.q2 y19.q3 y19.q4 y19.q5 y19.q6 y19.q7 y19.q8 y19.q9 a9 y19.q10 y19.q11 y19.q12 y19.q13 y19.q14 (0) (0) (0) (0) (0) false false (0) (0) [] ByteArray.empty (0) (0) false (0)) fun y20 =>
             some y20)
            else (Option.bind (F28 FUEL y19.q1 y19.q2 y19.q3 y19.q4 y19.q5 y19.q6 y19.q7 y19.q8 y19.q9 [] y19.q10 y19.q11 y19.q12 y19.q13 y19.q14 (0) (0) (0) (0) (0) false false (0) (0) [] ByteArray.empty (0) (0) false (0)) fun y21 =>
             some y21)))))))))))

/-! ### garland/msg.Own -/
structure Si5b2i2si2bil where
  q0 : Int
  q1 : Int
  q2 : Int
  q3 : Int
  q4 : Int
  q5 : Bool
  q6 : Bool
  q7 : Int
  q8 : Int
  q9 : ByteArray
  q10 : Int
  q11 : Int
  q12 : Bool
  q13 : Int
  q14 : List (Int)
def F29 (_n : Nat) (a0 : Int) (a1 : Int) (a2 : Int) (a3 : Int) (a4 : Int) (a5 : Bool) (a6 : Bool) (a7 : Int) (a8 : Int) (a9 : List (Int)) (a10 : ByteArray) (a11 : Int) (a12 : Int) (a13 : Bool) (a14 : Int) : Option (Si5b2i2si2bil) :=
  bif (room (List.length a9) 8) then
  (some ⟨a0, a1, a2, a3, a4, a5, a6, a7, a8, a10, a11, a12, a13, a14, a9⟩)
  else (none)

/-! ### garland/garlandlaw06.wakes -/
def F14 (_n : Nat) : Option (Bool) :=
  Option.bind (F15 FUEL (2) (3)) fun y1 =>
  Option.bind (F15 FUEL (2) (0)) fun y2 =>
  Option.bind (F26 FUEL (4) y1.1 (2) (9) (65535) true false (0) (0) [] ByteArray.empty (0) (0) false (0)) fun y3 =>
  bif (ieq y1.1 (2097155)) then
  (bif (ieq y1.2 (0)) then
   (bif (ieq y2.2 (2)) then
    (Option.bind (F19 FUEL (4) y1.1 (2) (9) (65535) true false (0) (0) [] ByteArray.empty (0) (0) false (0)) fun y4 =>
     bif y4 then
     (Option.bind (F21 FUEL (4) y1.1 (2) (9) (65535) true false (0) (0) [] ByteArray.empty (0) (0) false (0)) fun y5 =>
      bif y5 then
      (Option.bind (F21 FUEL y3.q0 y3.q1 y3.q2 y3.q3 y3.q4 y3.q5 y3.q6 y3.q7 y3.q8 [] y3.q9 y3.q10 y3.q11 y3.q12 y3.q13) fun y6 =>
       bif (!y6) then
       (Option.bind (F23 FUEL (4) y1.1 (2) (9) (65535) true false (0) (0) [] ByteArray.empty (0) (0) false (0)) fun y7 =>
        bif (ieq y7 (2)) then
        (Option.bind (F23 FUEL y3.q0 y3.q1 y3.q2 y3.q3 y3.q4 y3.q5 y3.q6 y3.q7 y3.q8 [] y3.q9 y3.q10 y3.q11 y3.q12 y3.q13) fun y8 =>
         bif (ieq y8 (2)) then
         (Option.bind (F28 FUEL y3.q0 y3.q1 y3.q2 y3.q3 y3.q4 y3.q5 y3.q6 y3.q7 y3.q8 [] y3.q9 y3.q10 y3.q11 y3.q12 y3.q13 (10) y1.1 (9) (2) (0) false false (0) (0) [] ByteArray.empty (0) (0) false (0)) fun y9 =>
          bif y9 then
          (Option.bind (F19 FUEL y3.q0 y3.q1 y3.q2 y3.q3 y3.q4 y3.q5 y3.q6 y3.q7 y3.q8 [] y3.q9 y3.q10 y3.q11 y3.q12 y3.q13) fun y10 =>
           bif y10 then
           (Option.bind (F19 FUEL (7) y1.1 (9) (2) (0) false false (0) (-1) [(4), (2)] ByteArray.empty (0) (0) false (0)) fun y11 =>
            bif y11 then
            (Option.bind (F19 FUEL (0) (0) (0) (0) (0) false false (0) (0) [] ByteArray.empty (0) (0) false (0)) fun y12 =>
             bif (!y12) then
             (Option.bind (F17 FUEL (ByteArray.mk #[97]) (0) (0) false) fun y13 =>
              bif y13 then
              (Option.bind (F17 FUEL ByteArray.empty (0) (0) false) fun y14 =>
               bif (!y14) then
               (Option.bind (F29 FUEL (7) y1.1 (9) (2) (0) false false (0) (-1) [(4), (2)] ByteArray.empty (0) (0) false (0)) fun y15 =>
                Option.bind (F28 FUEL y15.q0 y15.q1 y15.q2 y15.q3 y15.q4 y15.q5 y15.q6 y15.q7 y15.q8 y15.q14 y15.q9 y15.q10 y15.q11 y15.q12 y15.q13 (7) y1.1 (9) (2) (0) false false (0) (-1) [(4), (2)] ByteArray.empty (0) (0) false (0)) fun y16 =>
                some y16)
               else (some false))
              else (some false))
             else (some false))
            else (some false))
           else (some false))
          else (some false))
         else (some false))
        else (some false))
       else (some false))
      else (some false))
     else (some false))
    else (some false))
   else (some false))
  else (some false)

/-! ### garland/garlandref06.place -/
def F50 (_n : Nat) (a0 : Int) : Option (Bool) :=
  bif (ige a0 (0)) then
  (some (ilt a0 (65536)))
  else (some false)

/-! ### garland/garlandref06.Call -/
def F16 (_n : Nat) (a0 : Int) (a1 : Int) : Option (Int × Int) :=
  Option.bind (F50 FUEL a0) fun y1 =>
  bif (!y1) then
  (some ((0), (2)))
  else (bif (ilt a1 (1)) then
   (some ((0), (2)))
   else (bif (igt a1 (1048576)) then
    (some ((0), (2)))
    else (some ((iadd .i64 (imul .i64 a0 (1048576)) a1), (0)))))

/-! ### garland/garlandref06.Pair -/
def F18 (_n : Nat) (a0 : ByteArray) (a1 : Int) (a2 : Int) (_a3 : Bool) : Option (Bool) :=
  bif (ige (stlen a0) (1)) then
  (bif (ile (stlen a0) (20)) then
   (bif (ige a1 (0)) then
    (bif (ile a1 (1048576)) then
     (bif (ige a2 (0)) then
      (some (ile a2 (1048576)))
      else (some false))
     else (some false))
    else (some false))
   else (some false))
  else (some false)

/-! ### garland/garlandref06.Asks -/
def F22 (_n : Nat) (a0 : Int) (_a1 : Int) (_a2 : Int) (_a3 : Int) (_a4 : Int) (_a5 : Bool) (_a6 : Bool) (_a7 : Int) (_a8 : Int) (_a9 : List (Int)) (_a10 : ByteArray) (_a11 : Int) (_a12 : Int) (_a13 : Bool) (_a14 : Int) : Option (Bool) :=
  bif (ige a0 (1)) then
  (some (ile a0 (6)))
  else (some false)

/-! ### garland/garlandref06.Asker -/
def F24 (_n : Nat) (a0 : Int) (a1 : Int) (a2 : Int) (a3 : Int) (a4 : Int) (a5 : Bool) (a6 : Bool) (a7 : Int) (a8 : Int) (a9 : List (Int)) (a10 : ByteArray) (a11 : Int) (a12 : Int) (a13 : Bool) (a14 : Int) : Option (Int) :=
  Option.bind (F22 FUEL a0 a1 a2 a3 a4 a5 a6 a7 a8 a9 a10 a11 a12 a13 a14) fun y1 =>
  bif y1 then
  (some a2)
  else (some a3)

/-! ### garland/garlandref06.bare -/
def F57 (_n : Nat) (a0 : Int) (a1 : Int) (a2 : Int) (a3 : Int) (a4 : Int) (a5 : Bool) (a6 : Bool) (a7 : Int) (a8 : Int) (a9 : ByteArray) (a10 : Int) (a11 : Int) (a12 : Bool) (a13 : Int) : Option (Sbi5b2i2si2bi) :=
  bif (ieq a0 (4)) then
  (some ⟨true, a0, a1, a2, a3, (0), false, a6, a7, a8, a9, a10, a11, a12, a13⟩)
  else (bif (ieq a0 (5)) then
   (bif (ieq a0 (5)) then
    (some ⟨true, a0, a1, a2, a3, a4, a5, a6, a7, a8, ByteArray.empty, (0), (0), false, a13⟩)
    else (bif (ieq a0 (7)) then
     (some ⟨false, a0, a1, a2, a3, a4, a5, a6, a7, (0), a9, a10, a11, a12, a13⟩)
     else (bif (ieq a0 (10)) then
      (some ⟨true, a0, a1, a2, a3, a4, a5, false, (0), a8, a9, a10, a11, a12, a13⟩)
      else (bif (ieq a0 (11)) then
       (some ⟨true, a0, a1, a2, a3, a4, a5, a6, a7, a8, a9, a10, a11, a12, (0)⟩)
       else (bif (ieq a0 (12)) then
        (some ⟨true, a0, a1, a2, a3, a4, a5, a6, a7, a8, ByteArray.empty, (0), (0), false, (0)⟩)
        else (some ⟨true, a0, a1, a2, a3, a4, a5, a6, a7, a8, a9, a10, a11, a12, a13⟩))))))
   else (bif (ieq a0 (6)) then
    (some ⟨true, a0, a1, a2, a3, a4, a5, a6, a7, a8, ByteArray.empty, (0), (0), false, a13⟩)
    else (bif (ieq a0 (7)) then
     (some ⟨false, a0, a1, a2, a3, a4, a5, a6, a7, (0), a9, a10, a11, a12, a13⟩)
     else (bif (ieq a0 (10)) then
      (some ⟨true, a0, a1, a2, a3, a4, a5, false, (0), a8, a9, a10, a11, a12, a13⟩)
      else (bif (ieq a0 (11)) then
       (some ⟨true, a0, a1, a2, a3, a4, a5, a6, a7, a8, a9, a10, a11, a12, (0)⟩)
       else (bif (ieq a0 (12)) then
        (some ⟨true, a0, a1, a2, a3, a4, a5, a6, a7, a8, ByteArray.empty, (0), (0), false, (0)⟩)
        else (some ⟨true, a0, a1, a2, a3, a4, a5, a6, a7, a8, a9, a10, a11, a12, a13⟩)))))))

/-! ### garland/garlandref06.Same -/
def F25_c0 : Nat → Int → Int → Int → Int → Int → Int → Bool → Bool → Int → Int → List (Int) → ByteArray → Int → Int → Bool → Int → Int → Int → Int → Int → Int → Bool → Bool → Int → Int → List (Int) → ByteArray → Int → Int → Bool → Int → Option (Bool)
  | 0, _, _, _, _, _, _, _, _, _, _, _, _, _, _, _, _, _, _, _, _, _, _, _, _, _, _, _, _, _, _, _ => none
  | n + 1, x0, x1, x2, x3, x4, x5, x6, x7, x8, x9, x10, x11, x12, x13, x14, x15, x16, x17, x18, x19, x20, x21, x22, x23, x24, x25, x26, x27, x28, x29, x30 => bif (ilt x0 (ofN (List.length x10))) then
    (bif (inb x0 (List.length x10)) then
     (bif (inb x0 (List.length x25)) then
      (bif (ine (List.getD x10 (Int.toNat x0) 0) (List.getD x25 (Int.toNat x0) 0)) then
       (some false)
       else (F25_c0 n (iadd .i64 x0 (1)) x1 x2 x3 x4 x5 x6 x7 x8 x9 x10 x11 x12 x13 x14 x15 x16 x17 x18 x19 x20 x21 x22 x23 x24 x25 x26 x27 x28 x29 x30))
      else (none))
     else (none))
    else (bif (ieq x1 x16) then
     (bif (ieq x2 x17) then
      (bif (ieq x3 x18) then
       (bif (ieq x4 x19) then
        (bif (ieq x5 x20) then
         (bif (beqb x6 x21) then
          (bif (beqb x7 x22) then
           (bif (ieq x8 x23) then
            (bif (ieq x9 x24) then
             (bif ((steq x11 x26) && ((ieq x12 x27) && ((ieq x13 x28) && ((beqb x14 x29) && true)))) then
              (some (ieq x15 x30))
              else (some false))
             else (some false))
            else (some false))
           else (some false))
          else (some false))
         else (some false))
        else (some false))
       else (some false))
      else (some false))
     else (some false))
def F25 (n : Nat) (a0 : Int) (a1 : Int) (a2 : Int) (a3 : Int) (a4 : Int) (a5 : Bool) (a6 : Bool) (a7 : Int) (a8 : Int) (a9 : List (Int)) (a10 : ByteArray) (a11 : Int) (a12 : Int) (a13 : Bool) (a14 : Int) (a15 : Int) (a16 : Int) (a17 : Int) (a18 : Int) (a19 : Int) (a20 : Bool) (a21 : Bool) (a22 : Int) (a23 : Int) (a24 : List (Int)) (a25 : ByteArray) (a26 : Int) (a27 : Int) (a28 : Bool) (a29 : Int) : Option (Bool) :=
  bif (ine (ofN (List.length a9)) (ofN (List.length a24))) then
  (some false)
  else (F25_c0 n (0) a0 a1 a2 a3 a4 a5 a6 a7 a8 a9 a10 a11 a12 a13 a14 a15 a16 a17 a18 a19 a20 a21 a22 a23 a24 a25 a26 a27 a28 a29)

/-! ### garland/garlandref06.list -/
mutual
def F67_c0 : Nat → List (Int) → Int → Int → Option (Bool)
  | 0, _, _, _ => none
  | n + 1, x0, x1, x2 => bif (ilt x2 (ofN (List.length x0))) then
    (bif (inb x2 (List.length x0)) then
     (Option.bind (F50 FUEL (List.getD x0 (Int.toNat x2) 0)) fun y1 =>
      bif (!y1) then
      (some false)
      else (bif (inb x2 (List.length x0)) then
       (bif (ieq (List.getD x0 (Int.toNat x2) 0) x1) then
        (some false)
        else (F67_c1 n x0 x1 x2 (0)))
       else (none)))
     else (none))
    else (some (ile (ofN (List.length x0)) (3)))
def F67_c1 : Nat → List (Int) → Int → Int → Int → Option (Bool)
  | 0, _, _, _, _ => none
  | n + 1, x0, x1, x2, x3 => bif (ilt x3 x2) then
    (bif (inb x3 (List.length x0)) then
     (bif (inb x2 (List.length x0)) then
      (bif (ieq (List.getD x0 (Int.toNat x3) 0) (List.getD x0 (Int.toNat x2) 0)) then
       (some false)
       else (F67_c1 n x0 x1 x2 (iadd .i64 x3 (1))))
      else (none))
     else (none))
    else (F67_c0 n x0 x1 (iadd .i64 x2 (1)))
end
def F67 (n : Nat) (a0 : List (Int)) (a1 : Int) : Option (Bool) :=
  F67_c0 n a0 a1 (0)

/-! ### garland/garlandref06.has -/
def F58 (_n : Nat) (a0 : Int) (_a1 : Int) (a2 : Int) (_a3 : Int) (a4 : Int) (_a5 : Bool) (_a6 : Bool) (a7 : Int) (a8 : Int) (a9 : List (Int)) (a10 : ByteArray) (a11 : Int) (a12 : Int) (a13 : Bool) (a14 : Int) : Option (Bool) :=
  bif (ieq a0 (4)) then
  (Option.bind (F50 FUEL a4) fun y1 =>
   some y1)
  else (bif (ieq a0 (5)) then
   (Option.bind (F18 FUEL a10 a11 a12 a13) fun y2 =>
    some y2)
   else (bif (ieq a0 (6)) then
    (Option.bind (F18 FUEL a10 a11 a12 a13) fun y3 =>
     bif y3 then
     (some ((steq a10 a10) && ((ieq a11 (0)) && ((ieq a12 (0)) && ((beqb a13 false) && true)))))
     else (some false))
    else (bif (ieq a0 (7)) then
     (bif (ieq a8 (-1)) then
      (Option.bind (F67 FUEL a9 a2) fun y4 =>
       some y4)
      else (Option.bind (F50 FUEL a8) fun y5 =>
       bif y5 then
       (Option.bind (F67 FUEL a9 a2) fun y6 =>
        some y6)
       else (some false)))
     else (bif (ieq a0 (10)) then
      (Option.bind (F50 FUEL a7) fun y7 =>
       some y7)
      else (bif (ieq a0 (11)) then
       (bif (ieq a14 (0)) then
        (some true)
        else (some (ieq a14 (200))))
       else (bif (ieq a0 (12)) then
        (bif (ieq a14 (0)) then
         (Option.bind (F18 FUEL a10 a11 a12 a13) fun y8 =>
          bif y8 then
          (some true)
          else (bif (ieq a14 (201)) then
           (some ((steq a10 ByteArray.empty) && ((ieq a11 (0)) && ((ieq a12 (0)) && ((beqb a13 false) && true)))))
           else (some false)))
         else (bif (ieq a14 (201)) then
          (some ((steq a10 ByteArray.empty) && ((ieq a11 (0)) && ((ieq a12 (0)) && ((beqb a13 false) && true)))))
          else (some false)))
        else (some true)))))))

/-! ### garland/garlandref06.Right -/
def F20 (_n : Nat) (a0 : Int) (a1 : Int) (a2 : Int) (a3 : Int) (a4 : Int) (a5 : Bool) (a6 : Bool) (a7 : Int) (a8 : Int) (a9 : List (Int)) (a10 : ByteArray) (a11 : Int) (a12 : Int) (a13 : Bool) (a14 : Int) : Option (Bool) :=
  bif (ilt a0 (1)) then
  (some false)
  else (bif (ige a0 (13)) then
   (some false)
   else (Option.bind (F50 FUEL a2) fun y1 =>
    bif (!y1) then
    (some false)
    else (Option.bind (F50 FUEL a3) fun y2 =>
     bif (!y2) then
     (some false)
     else (bif (ieq a2 a3) then
      (some false)
      else (Option.bind (F24 FUEL a0 a1 a2 a3 a4 a5 a6 a7 a8 a9 a10 a11 a12 a13 a14) fun y3 =>
       bif (ilt a1 (iadd .i64 (imul .i64 y3 (1048576)) (1))) then
       (some false)
       else (bif (ige a1 (iadd .i64 (iadd .i64 (imul .i64 y3 (1048576)) (1)) (1048576))) then
        (some false)
        else (Option.bind (F57 FUEL a0 a1 a2 a3 a4 a5 a6 a7 a8 a10 a11 a12 a13 a14) fun y4 =>
         bif y4.q0 then
         (Option.bind (F25 FUEL y4.q1 y4.q2 y4.q3 y4.q4 y4.q5 y4.q6 y4.q7 y4.q8 y4.q9 a9 y4.q10 y4.q11 y4.q12 y4.q13 y4.q14 a0 a1 a2 a3 (0) false false (0) (0) [] ByteArray.empty (0) (0) false (0)) fun y5 =>
          bif y5 then
          (Option.bind (F58 FUEL a0 a1 a2 a3 a4 a5 a6 a7 a8 a9 a10 a11 a12 a13 a14) fun y6 =>
           some y6)
          else (some false))
         else (Option.bind (F25 FUEL y4.q1 y4.q2 y4.q3 y4.q4 y4.q5 y4.q6 y4.q7 y4.q8 y4.q9 [] y4.q10 y4.q11 y4.q12 y4.q13 y4.q14 a0 a1 a2 a3 (0) false false (0) (0) [] ByteArray.empty (0) (0) false (0)) fun y7 =>
          bif y7 then
          (Option.bind (F58 FUEL a0 a1 a2 a3 a4 a5 a6 a7 a8 a9 a10 a11 a12 a13 a14) fun y8 =>
           some y8)
          else (some false)))))))))

/-! ### garland/garlandref06.Tell -/
def F27 (_n : Nat) (a0 : Int) (a1 : Int) (a2 : Int) (a3 : Int) (a4 : Int) (a5 : Bool) (a6 : Bool) (a7 : Int) (a8 : Int) (a9 : List (Int)) (a10 : ByteArray) (a11 : Int) (a12 : Int) (a13 : Bool) (a14 : Int) : Option (Si5b2i2si2bi) :=
  Option.bind (F22 FUEL a0 a1 a2 a3 a4 a5 a6 a7 a8 a9 a10 a11 a12 a13 a14) fun y1 =>
  bif (!y1) then
  (some ⟨(0), (0), (0), (0), (0), false, false, (0), (0), ByteArray.empty, (0), (0), false, (0)⟩)
  else (some ⟨(iadd .u8 a0 (6)), a1, a3, a2, (0), false, false, (0), (0), ByteArray.empty, (0), (0), false, (0)⟩)

/-! ### garland/garlandlaw06.MsgTells -/
def F3 (_n : Nat) (a0 : Int) (a1 : Int) (a2 : Int) (a3 : Int) (a4 : Int) (a5 : Bool) (a6 : Bool) (a7 : Int) (a8 : Int) (a9 : List (Int)) (a10 : ByteArray) (a11 : Int) (a12 : Int) (a13 : Bool) (a14 : Int) (a15 : Int) (a16 : Int) (a17 : Int) (a18 : Int) (a19 : Int) (a20 : Bool) (a21 : Bool) (a22 : Int) (a23 : Int) (a24 : List (Int)) (a25 : ByteArray) (a26 : Int) (a27 : Int) (a28 : Bool) (a29 : Int) (a30 : ByteArray) (a31 : Int) (a32 : Int) (a33 : Bool) (a34 : Int) (a35 : Int) : Option (Bool) :=
  Option.bind (F13 FUEL a0 a1 a2 a3 a4 a5 a6 a7 a8 a9 a10 a11 a12 a13 a14) fun y1 =>
  bif y1 then
  (Option.bind (F14 FUEL) fun y2 =>
   some y2)
  else (Option.bind (F13 FUEL a15 a16 a17 a18 a19 a20 a21 a22 a23 a24 a25 a26 a27 a28 a29) fun y3 =>
   bif y3 then
   (Option.bind (F14 FUEL) fun y4 =>
    some y4)
   else (bif (igt (stlen a30) (100)) then
    (Option.bind (F14 FUEL) fun y5 =>
     some y5)
    else (Option.bind (F15 FUEL a34 a35) fun y6 =>
     Option.bind (F16 FUEL a34 a35) fun y7 =>
     bif (ieq y6.1 y7.1) then
     (bif (ieq y6.2 y7.2) then
      (Option.bind (F17 FUEL a30 a31 a32 a33) fun y8 =>
       Option.bind (F18 FUEL a30 a31 a32 a33) fun y9 =>
       bif (beqb y8 y9) then
       (Option.bind (F19 FUEL a0 a1 a2 a3 a4 a5 a6 a7 a8 a9 a10 a11 a12 a13 a14) fun y10 =>
        Option.bind (F20 FUEL a0 a1 a2 a3 a4 a5 a6 a7 a8 a9 a10 a11 a12 a13 a14) fun y11 =>
        bif (beqb y10 y11) then
        (Option.bind (F21 FUEL a0 a1 a2 a3 a4 a5 a6 a7 a8 a9 a10 a11 a12 a13 a14) fun y12 =>
         Option.bind (F22 FUEL a0 a1 a2 a3 a4 a5 a6 a7 a8 a9 a10 a11 a12 a13 a14) fun y13 =>
         bif (beqb y12 y13) then
         (Option.bind (F23 FUEL a0 a1 a2 a3 a4 a5 a6 a7 a8 a9 a10 a11 a12 a13 a14) fun y14 =>
          Option.bind (F24 FUEL a0 a1 a2 a3 a4 a5 a6 a7 a8 a9 a10 a11 a12 a13 a14) fun y15 =>
          bif (ieq y14 y15) then
          (Option.bind (F26 FUEL a0 a1 a2 a3 a4 a5 a6 a7 a8 a9 a10 a11 a12 a13 a14) fun y16 =>
           Option.bind (F27 FUEL a0 a1 a2 a3 a4 a5 a6 a7 a8 a9 a10 a11 a12 a13 a14) fun y17 =>
           Option.bind (F25 FUEL y16.q0 y16.q1 y16.q2 y16.q3 y16.q4 y16.q5 y16.q6 y16.q7 y16.q8 [] y16.q9 y16.q10 y16.q11 y16.q12 y16.q13 y17.q0 y17.q1 y17.q2 y17.q3 y17.q4 y17.q5 y17.q6 y17.q7 y17.q8 [] y17.q9 y17.q10 y17.q11 y17.q12 y17.q13) fun y18 =>
           bif y18 then
           (Option.bind (F28 FUEL a0 a1 a2 a3 a4 a5 a6 a7 a8 a9 a10 a11 a12 a13 a14 a15 a16 a17 a18 a19 a20 a21 a22 a23 a24 a25 a26 a27 a28 a29) fun y19 =>
            Option.bind (F25 FUEL a0 a1 a2 a3 a4 a5 a6 a7 a8 a9 a10 a11 a12 a13 a14 a15 a16 a17 a18 a19 a20 a21 a22 a23 a24 a25 a26 a27 a28 a29) fun y20 =>
            bif (beqb y19 y20) then
            (Option.bind (F29 FUEL a0 a1 a2 a3 a4 a5 a6 a7 a8 a9 a10 a11 a12 a13 a14) fun y21 =>
             Option.bind (F25 FUEL y21.q0 y21.q1 y21.q2 y21.q3 y21.q4 y21.q5 y21.q6 y21.q7 y21.q8 y21.q14 y21.q9 y21.q10 y21.q11 y21.q12 y21.q13 a0 a1 a2 a3 a4 a5 a6 a7 a8 a9 a10 a11 a12 a13 a14) fun y22 =>
             bif y22 then
             (Option.bind (F14 FUEL) fun y23 =>
              some y23)
             else (some false))
            else (some false))
           else (some false))
          else (some false))
         else (some false))
        else (some false))
       else (some false))
      else (some false))
     else (some false))))

/-! ### garland/garlandlaw06.MsgTold -/
def F4 (_n : Nat) (a0 : Int) (a1 : Int) (a2 : Int) (a3 : Int) (a4 : Int) (a5 : Bool) (a6 : Bool) (a7 : Int) (a8 : Int) (a9 : List (Int)) (a10 : ByteArray) (a11 : Int) (a12 : Int) (a13 : Bool) (a14 : Int) (a15 : ByteArray) (a16 : Int) (a17 : Int) (a18 : Bool) : Option (Bool) :=
  Option.bind (F13 FUEL a0 a1 a2 a3 a4 a5 a6 a7 a8 a9 a10 a11 a12 a13 a14) fun y1 =>
  bif y1 then
  (Option.bind (F14 FUEL) fun y2 =>
   some y2)
  else (bif (igt (stlen a15) (100)) then
   (Option.bind (F14 FUEL) fun y3 =>
    some y3)
   else (Option.bind (F20 FUEL a0 a1 a2 a3 a4 a5 a6 a7 a8 a9 a10 a11 a12 a13 a14) fun y4 =>
    bif (!y4) then
    (Option.bind (F14 FUEL) fun y5 =>
     some y5)
    else (Option.bind (F26 FUEL a0 a1 a2 a3 a4 a5 a6 a7 a8 a9 a10 a11 a12 a13 a14) fun y6 =>
     Option.bind (F21 FUEL a0 a1 a2 a3 a4 a5 a6 a7 a8 a9 a10 a11 a12 a13 a14) fun y7 =>
     bif (!y7) then
     (Option.bind (F25 FUEL y6.q0 y6.q1 y6.q2 y6.q3 y6.q4 y6.q5 y6.q6 y6.q7 y6.q8 [] y6.q9 y6.q10 y6.q11 y6.q12 y6.q13 (0) (0) (0) (0) (0) false false (0) (0) [] ByteArray.empty (0) (0) false (0)) fun y8 =>
      bif y8 then
      (Option.bind (F14 FUEL) fun y9 =>
       some y9)
      else (some false))
     else (Option.bind (F21 FUEL y6.q0 y6.q1 y6.q2 y6.q3 y6.q4 y6.q5 y6.q6 y6.q7 y6.q8 [] y6.q9 y6.q10 y6.q11 y6.q12 y6.q13) fun y10 =>
      bif y10 then
      (some false)
      else (Option.bind (F23 FUEL y6.q0 y6.q1 y6.q2 y6.q3 y6.q4 y6.q5 y6.q6 y6.q7 y6.q8 [] y6.q9 y6.q10 y6.q11 y6.q12 y6.q13) fun y11 =>
       Option.bind (F23 FUEL a0 a1 a2 a3 a4 a5 a6 a7 a8 a9 a10 a11 a12 a13 a14) fun y12 =>
       bif (ine y11 y12) then
       (some false)
       else (bif (ine y6.q1 a1) then
        (some false)
        else (bif (ine y6.q2 a3) then
         (some false)
         else (bif (ine y6.q3 a2) then
          (some false)
          else (bif (ine a0 (6)) then
           (Option.bind (F19 FUEL y6.q0 y6.q1 y6.q2 y6.q3 y6.q4 y6.q5 y6.q6 y6.q7 y6.q8 [] y6.q9 y6.q10 y6.q11 y6.q12 y6.q13) fun y13 =>
            bif y13 then
            (Option.bind (F14 FUEL) fun y14 =>
             some y14)
            else (some false))
           else (Option.bind (F19 FUEL y6.q0 y6.q1 y6.q2 y6.q3 y6.q4 y6.q5 y6.q6 y6.q7 y6.q8 [] y6.q9 y6.q10 y6.q11 y6.q12 (201)) fun y15 =>
            bif y15 then
            (Option.bind (F19 FUEL y6.q0 y6.q1 y6.q2 y6.q3 y6.q4 y6.q5 y6.q6 y6.q7 y6.q8 [] a15 a16 a17 a18 (0)) fun y16 =>
             Option.bind (F18 FUEL a15 a16 a17 a18) fun y17 =>
             bif (beqb y16 y17) then
             (Option.bind (F14 FUEL) fun y18 =>
              some y18)
             else (some false))
            else (some false)))))))))))

/-! ### garland/garlandlaw06.MsgCalls -/
def F6 (_n : Nat) (a0 : Int) (a1 : Int) (a2 : Int) (a3 : Int) : Option (Bool) :=
  Option.bind (F15 FUEL a0 a2) fun y1 =>
  Option.bind (F15 FUEL a1 a3) fun y2 =>
  bif (ine y1.2 (0)) then
  (bif (ige a0 (0)) then
   (bif (ilt a0 (65536)) then
    (bif (ige a2 (1)) then
     (bif (beqb (ieq y1.2 (0)) (ile a2 (1048576))) then
      (bif (ieq y1.2 (0)) then
       (Option.bind (F14 FUEL) fun y3 =>
        some y3)
       else (bif (ieq y1.2 (2)) then
        (bif (ieq y1.1 (0)) then
         (Option.bind (F14 FUEL) fun y4 =>
          some y4)
         else (some false))
        else (some false)))
      else (some false))
     else (bif (beqb (ieq y1.2 (0)) false) then
      (bif (ieq y1.2 (0)) then
       (Option.bind (F14 FUEL) fun y5 =>
        some y5)
       else (bif (ieq y1.2 (2)) then
        (bif (ieq y1.1 (0)) then
         (Option.bind (F14 FUEL) fun y6 =>
          some y6)
         else (some false))
        else (some false)))
      else (some false)))
    else (bif (beqb (ieq y1.2 (0)) false) then
     (bif (ieq y1.2 (0)) then
      (Option.bind (F14 FUEL) fun y7 =>
       some y7)
      else (bif (ieq y1.2 (2)) then
       (bif (ieq y1.1 (0)) then
        (Option.bind (F14 FUEL) fun y8 =>
         some y8)
        else (some false))
       else (some false)))
     else (some false)))
   else (bif (beqb (ieq y1.2 (0)) false) then
    (bif (ieq y1.2 (0)) then
     (Option.bind (F14 FUEL) fun y9 =>
      some y9)
     else (bif (ieq y1.2 (2)) then
      (bif (ieq y1.1 (0)) then
       (Option.bind (F14 FUEL) fun y10 =>
        some y10)
       else (some false))
      else (some false)))
    else (some false)))
  else (bif (ine y2.2 (0)) then
   (bif (ige a0 (0)) then
    (bif (ilt a0 (65536)) then
     (bif (ige a2 (1)) then
      (bif (beqb (ieq y1.2 (0)) (ile a2 (1048576))) then
       (bif (ieq y1.2 (0)) then
        (Option.bind (F14 FUEL) fun y11 =>
         some y11)
        else (bif (ieq y1.2 (2)) then
         (bif (ieq y1.1 (0)) then
          (Option.bind (F14 FUEL) fun y12 =>
           some y12)
          else (some false))
         else (some false)))
       else (some false))
      else (bif (beqb (ieq y1.2 (0)) false) then
       (bif (ieq y1.2 (0)) then
        (Option.bind (F14 FUEL) fun y13 =>
         some y13)
        else (bif (ieq y1.2 (2)) then
         (bif (ieq y1.1 (0)) then
          (Option.bind (F14 FUEL) fun y14 =>
           some y14)
          else (some false))
         else (some false)))
       else (some false)))
     else (bif (beqb (ieq y1.2 (0)) false) then
      (bif (ieq y1.2 (0)) then
       (Option.bind (F14 FUEL) fun y15 =>
        some y15)
       else (bif (ieq y1.2 (2)) then
        (bif (ieq y1.1 (0)) then
         (Option.bind (F14 FUEL) fun y16 =>
          some y16)
         else (some false))
        else (some false)))
      else (some false)))
    else (bif (beqb (ieq y1.2 (0)) false) then
     (bif (ieq y1.2 (0)) then
      (Option.bind (F14 FUEL) fun y17 =>
       some y17)
      else (bif (ieq y1.2 (2)) then
       (bif (ieq y1.1 (0)) then
        (Option.bind (F14 FUEL) fun y18 =>
         some y18)
        else (some false))
       else (some false)))
     else (some false)))
   else (bif (ieq a0 a1) then
    (bif (bneb (ieq y1.1 y2.1) (ieq a2 a3)) then
     (some false)
     else (bif (ieq a0 a1) then
      (Option.bind (F14 FUEL) fun y19 =>
       some y19)
      else (Option.bind (F19 FUEL (2) y1.1 a0 a1 (0) false false (0) (0) [] ByteArray.empty (0) (0) false (0)) fun y20 =>
       bif y20 then
       (Option.bind (F19 FUEL (8) y2.1 a0 a1 (0) false false (0) (0) [] ByteArray.empty (0) (0) false (0)) fun y21 =>
        bif y21 then
        (Option.bind (F19 FUEL (2) y2.1 a0 a1 (0) false false (0) (0) [] ByteArray.empty (0) (0) false (0)) fun y22 =>
         bif (!y22) then
         (Option.bind (F19 FUEL (8) y1.1 a0 a1 (0) false false (0) (0) [] ByteArray.empty (0) (0) false (0)) fun y23 =>
          bif (!y23) then
          (Option.bind (F14 FUEL) fun y24 =>
           some y24)
          else (some false))
         else (some false))
        else (some false))
       else (some false))))
    else (bif (bneb (ieq y1.1 y2.1) false) then
     (some false)
     else (bif (ieq a0 a1) then
      (Option.bind (F14 FUEL) fun y25 =>
       some y25)
      else (Option.bind (F19 FUEL (2) y1.1 a0 a1 (0) false false (0) (0) [] ByteArray.empty (0) (0) false (0)) fun y26 =>
       bif y26 then
       (Option.bind (F19 FUEL (8) y2.1 a0 a1 (0) false false (0) (0) [] ByteArray.empty (0) (0) false (0)) fun y27 =>
        bif y27 then
        (Option.bind (F19 FUEL (2) y2.1 a0 a1 (0) false false (0) (0) [] ByteArray.empty (0) (0) false (0)) fun y28 =>
         bif (!y28) then
         (Option.bind (F19 FUEL (8) y1.1 a0 a1 (0) false false (0) (0) [] ByteArray.empty (0) (0) false (0)) fun y29 =>
          bif (!y29) then
          (Option.bind (F14 FUEL) fun y30 =>
           some y30)
          else (some false))
         else (some false))
        else (some false))
       else (some false))))))

/-! ### garland/garlandlaw06.MsgLists -/
mutual
def F7_c0 : Nat → List (Int) → Int → Int → Int → Bool → Int → Option (Bool)
  | 0, _, _, _, _, _, _ => none
  | n + 1, x0, x1, x2, x3, x4, x5 => bif (ilt x5 (ofN (List.length x0))) then
    (bif x4 then
     (bif (inb x5 (List.length x0)) then
      (bif (ige (List.getD x0 (Int.toNat x5) 0) (0)) then
       (bif (inb x5 (List.length x0)) then
        (bif (ilt (List.getD x0 (Int.toNat x5) 0) (65536)) then
         (bif (inb x5 (List.length x0)) then
          (F7_c1 n x0 x1 x2 x3 (ine (List.getD x0 (Int.toNat x5) 0) x1) x5 (0))
          else (none))
         else (F7_c1 n x0 x1 x2 x3 false x5 (0)))
        else (none))
       else (F7_c1 n x0 x1 x2 x3 false x5 (0)))
      else (none))
     else (F7_c1 n x0 x1 x2 x3 false x5 (0)))
    else (Option.bind (F29 FUEL (7) (iadd .i64 (imul .i64 x3 (1048576)) (1)) x1 x3 (0) false false (0) x2 x0 ByteArray.empty (0) (0) false (0)) fun y4 =>
     Option.bind (F19 FUEL (7) (iadd .i64 (imul .i64 x3 (1048576)) (1)) x1 x3 (0) false false (0) x2 x0 ByteArray.empty (0) (0) false (0)) fun y5 =>
     bif (beqb y5 x4) then
     (bif (ieq (ofN (List.length y4.q14)) (ofN (List.length x0))) then
      (Option.bind (F28 FUEL y4.q0 y4.q1 y4.q2 y4.q3 y4.q4 y4.q5 y4.q6 y4.q7 y4.q8 y4.q14 y4.q9 y4.q10 y4.q11 y4.q12 y4.q13 (7) (iadd .i64 (imul .i64 x3 (1048576)) (1)) x1 x3 (0) false false (0) x2 x0 ByteArray.empty (0) (0) false (0)) fun y6 =>
       bif y6 then
       (Option.bind (F14 FUEL) fun y7 =>
        some y7)
       else (some false))
      else (some false))
     else (some false))
def F7_c1 : Nat → List (Int) → Int → Int → Int → Bool → Int → Int → Option (Bool)
  | 0, _, _, _, _, _, _, _ => none
  | n + 1, x0, x1, x2, x3, x4, x5, x6 => bif (ilt x6 x5) then
    (bif x4 then
     (bif (inb x5 (List.length x0)) then
      (bif (inb x6 (List.length x0)) then
       (F7_c1 n x0 x1 x2 x3 (ine (List.getD x0 (Int.toNat x5) 0) (List.getD x0 (Int.toNat x6) 0)) x5 (iadd .i64 x6 (1)))
       else (none))
      else (none))
     else (F7_c1 n x0 x1 x2 x3 false x5 (iadd .i64 x6 (1))))
    else (F7_c0 n x0 x1 x2 x3 x4 (iadd .i64 x5 (1)))
end
def F7 (n : Nat) (a0 : List (Int)) (a1 : Int) (a2 : Int) : Option (Bool) :=
  bif (igt (ofN (List.length a0)) (6)) then
  (Option.bind (F14 FUEL) fun y1 =>
   some y1)
  else (bif (ilt a1 (0)) then
   (Option.bind (F14 FUEL) fun y2 =>
    some y2)
   else (bif (igt a1 (65535)) then
    (Option.bind (F14 FUEL) fun y3 =>
     some y3)
    else (bif (inz (65536)) then
     (bif (ile (ofN (List.length a0)) (3)) then
      (bif (ige a2 (-1)) then
       (F7_c0 n a0 a1 a2 (irem (iadd .i64 a1 (1)) (65536)) (ilt a2 (65536)) (0))
       else (F7_c0 n a0 a1 a2 (irem (iadd .i64 a1 (1)) (65536)) false (0)))
      else (F7_c0 n a0 a1 a2 (irem (iadd .i64 a1 (1)) (65536)) false (0)))
     else (none))))

/-! ### garland/garlandref19.Great -/
def F30_c0 : Nat → List (ByteArray × Int × Int × Bool) → Int → Option (Bool)
  | 0, _, _ => none
  | n + 1, x0, x1 => bif (ilt x1 (ofN (List.length x0))) then
    (bif (ile x1 (40)) then
     (bif (inb x1 (List.length x0)) then
      (bif (igt (stlen (List.getD x0 (Int.toNat x1) (ByteArray.empty, 0, 0, false)).1) (100)) then
       (some true)
       else (F30_c0 n x0 (iadd .i64 x1 (1))))
      else (none))
     else (some (igt (ofN (List.length x0)) (40))))
    else (some (igt (ofN (List.length x0)) (40)))
def F30 (n : Nat) (a0 : List (ByteArray × Int × Int × Bool)) : Option (Bool) :=
  F30_c0 n a0 (0)

/-! ### garland/garlandlaw20.of -/
structure Ssi2b where
  q0 : ByteArray
  q1 : Int
  q2 : Int
  q3 : Bool
def F60 (_n : Nat) (a0 : ByteArray) (a1 : Int) (a2 : Int) : Option (Ssi2b) :=
  some ⟨a0, a2, a1, false⟩

/-! ### garland/keep.Own -/
def F43_c0 : Nat → List (ByteArray × Int × Int × Bool) → Int → Int → List (ByteArray × Int × Int × Bool) → Option ((List (ByteArray × Int × Int × Bool)))
  | 0, _, _, _, _ => none
  | n + 1, x0, x1, x2, x3 => bif (ilt x2 x1) then
    (bif (inb x2 (List.length x0)) then
     (bif (room (List.length x3 + List.length [((List.getD x0 (Int.toNat x2) (ByteArray.empty, 0, 0, false)).1, (List.getD x0 (Int.toNat x2) (ByteArray.empty, 0, 0, false)).2.1, (List.getD x0 (Int.toNat x2) (ByteArray.empty, 0, 0, false)).2.2.1, (List.getD x0 (Int.toNat x2) (ByteArray.empty, 0, 0, false)).2.2.2)]) 40) then
      (F43_c0 n x0 x1 (iadd .i64 x2 (1)) (x3 ++ [((List.getD x0 (Int.toNat x2) (ByteArray.empty, 0, 0, false)).1, (List.getD x0 (Int.toNat x2) (ByteArray.empty, 0, 0, false)).2.1, (List.getD x0 (Int.toNat x2) (ByteArray.empty, 0, 0, false)).2.2.1, (List.getD x0 (Int.toNat x2) (ByteArray.empty, 0, 0, false)).2.2.2)]))
      else (none))
     else (none))
    else (some x3)
def F43 (n : Nat) (a0 : List (ByteArray × Int × Int × Bool)) : Option ((List (ByteArray × Int × Int × Bool))) :=
  bif (ieq (ofN (List.length a0)) (0)) then
  (some [])
  else (bif (inn (0) && ile (0) (ofN (List.length a0)) && decide ((ofN (List.length a0)) * 40 ≤ 281474976710656) && decide ((ofN (List.length a0)) ≤ 9223372036854775807)) then
   (F43_c0 n a0 (ofN (List.length a0)) (0) (List.replicate (Int.toNat (0)) (ByteArray.empty, (0), (0), false)))
   else (none))

/-! ### garland/keep.Right -/
def F41_c0 : Nat → List (ByteArray × Int × Int × Bool) → Int → Int → List (ByteArray × Int × Int × Bool) → Bool → Option (Bool)
  | 0, _, _, _, _, _ => none
  | n + 1, x0, x1, x2, x3, x4 => bif (ilt x2 x1) then
    (bif (inb x2 (List.length x0)) then
     (Option.bind (F17 FUEL (List.getD x0 (Int.toNat x2) (ByteArray.empty, 0, 0, false)).1 (List.getD x0 (Int.toNat x2) (ByteArray.empty, 0, 0, false)).2.1 (List.getD x0 (Int.toNat x2) (ByteArray.empty, 0, 0, false)).2.2.1 (List.getD x0 (Int.toNat x2) (ByteArray.empty, 0, 0, false)).2.2.2) fun y1 =>
      bif (!y1) then
      (some false)
      else (bif (igt x2 (0)) then
       (bif (inb (isub .i64 x2 (1)) (List.length x3)) then
        (bif (stge (List.getD x3 (Int.toNat (isub .i64 x2 (1))) (ByteArray.empty, 0, 0, false)).1 (List.getD x0 (Int.toNat x2) (ByteArray.empty, 0, 0, false)).1) then
         (some false)
         else (F41_c0 n x0 x1 (iadd .i64 x2 (1)) x3 x4))
        else (none))
       else (F41_c0 n x0 x1 (iadd .i64 x2 (1)) x3 x4)))
     else (none))
    else (some true)
def F41 (n : Nat) (a0 : List (ByteArray × Int × Int × Bool)) : Option (Bool) :=
  bif (igt (ofN (List.length a0)) (24)) then
  (some false)
  else (F41_c0 n a0 (ofN (List.length a0)) (0) a0 false)

/-! ### cmp.isNaN[string] -/
def F73 (_n : Nat) (a0 : ByteArray) : Option (Bool) :=
  some (stne a0 a0)

/-! ### cmp.Compare[string] -/
def F69 (_n : Nat) (a0 : ByteArray) (a1 : ByteArray) : Option (Int) :=
  Option.bind (F73 FUEL a0) fun y1 =>
  Option.bind (F73 FUEL a1) fun y2 =>
  bif y1 then
  (bif y2 then
   (some (0))
   else (some (-1)))
  else (bif y2 then
   (some (1))
   else (bif (stlt a0 a1) then
    (some (-1))
    else (bif (stgt a0 a1) then
     (some (1))
     else (some (0)))))

/-! ### garland/keep.place -/
def F61_c0 : Nat → List (ByteArray × Int × Int × Bool) → Int → Int → ByteArray → Option (Int × Bool)
  | 0, _, _, _, _ => none
  | n + 1, x0, x1, x2, x3 => bif (ilt x1 x2) then
    (bif (inz (2)) then
     (bif (inb (iadd .i64 x1 (iquo .i64 (isub .i64 x2 x1) (2))) (List.length x0)) then
      (Option.bind (F69 FUEL (List.getD x0 (Int.toNat (iadd .i64 x1 (iquo .i64 (isub .i64 x2 x1) (2)))) (ByteArray.empty, 0, 0, false)).1 x3) fun y3 =>
       bif (ilt y3 (0)) then
       (F61_c0 n x0 (iadd .i64 (iadd .i64 x1 (iquo .i64 (isub .i64 x2 x1) (2))) (1)) x2 x3)
       else (F61_c0 n x0 x1 (iadd .i64 x1 (iquo .i64 (isub .i64 x2 x1) (2))) x3))
      else (none))
     else (none))
    else (bif (ilt x1 (ofN (List.length x0))) then
     (bif (inb x1 (List.length x0)) then
      (Option.bind (F69 FUEL (List.getD x0 (Int.toNat x1) (ByteArray.empty, 0, 0, false)).1 x3) fun y4 =>
       some (x1, (ieq y4 (0))))
      else (none))
     else (some (x1, false)))
def F61 (n : Nat) (a0 : List (ByteArray × Int × Int × Bool)) (a1 : ByteArray) : Option (Int × Bool) :=
  bif (ilt (0) (ofN (List.length a0))) then
  (bif (inz (2)) then
   (bif (inb (iadd .i64 (0) (iquo .i64 (isub .i64 (ofN (List.length a0)) (0)) (2))) (List.length a0)) then
    (Option.bind (F69 FUEL (List.getD a0 (Int.toNat (iadd .i64 (0) (iquo .i64 (isub .i64 (ofN (List.length a0)) (0)) (2)))) (ByteArray.empty, 0, 0, false)).1 a1) fun y1 =>
     bif (ilt y1 (0)) then
     (F61_c0 n a0 (iadd .i64 (iadd .i64 (0) (iquo .i64 (isub .i64 (ofN (List.length a0)) (0)) (2))) (1)) (ofN (List.length a0)) a1)
     else (F61_c0 n a0 (0) (iadd .i64 (0) (iquo .i64 (isub .i64 (ofN (List.length a0)) (0)) (2))) a1))
    else (none))
   else (none))
  else (bif (ilt (0) (ofN (List.length a0))) then
   (bif (inb (0) (List.length a0)) then
    (Option.bind (F69 FUEL (List.getD a0 (Int.toNat (0)) (ByteArray.empty, 0, 0, false)).1 a1) fun y2 =>
     some ((0), (ieq y2 (0))))
    else (none))
   else (some ((0), false)))

/-! ### garland/item.of -/
def F74 (_n : Nat) (_a0 : ByteArray) (a1 : Int) (a2 : Int) (a3 : Bool) : Option (Int × Int × Bool) :=
  some (a2, a1, a3)

/-! ### cmp.isNaN[int] -/
def F78 (_n : Nat) (a0 : Int) : Option (Bool) :=
  some (ine a0 a0)

/-! ### cmp.Compare[int] -/
def F76 (_n : Nat) (a0 : Int) (a1 : Int) : Option (Int) :=
  Option.bind (F78 FUEL a0) fun y1 =>
  Option.bind (F78 FUEL a1) fun y2 =>
  bif y1 then
  (bif y2 then
   (some (0))
   else (some (-1)))
  else (bif y2 then
   (some (1))
   else (bif (ilt a0 a1) then
    (some (-1))
    else (bif (igt a0 a1) then
     (some (1))
     else (some (0)))))

/-! ### cmp.Or[int] -/
def F75_c0 : Nat → Int → List (Int) → Int → Int → Option (Int)
  | 0, _, _, _, _ => none
  | n + 1, x0, x1, x2, x3 => bif (ilt x3 x2) then
    (bif (inb x3 (List.length x1)) then
     (bif (ine (List.getD x1 (Int.toNat x3) 0) x0) then
      (some (List.getD x1 (Int.toNat x3) 0))
      else (F75_c0 n x0 x1 x2 (iadd .i64 x3 (1))))
     else (none))
    else (some x0)
def F75 (n : Nat) (a0 : List (Int)) : Option (Int) :=
  F75_c0 n (0) a0 (ofN (List.length a0)) (0)

/-! ### garland/item.Cmp -/
def F70 (_n : Nat) (a0 : ByteArray) (a1 : Int) (a2 : Int) (a3 : Bool) (a4 : ByteArray) (a5 : Int) (a6 : Int) (a7 : Bool) : Option (Int) :=
  Option.bind (F74 FUEL a0 a1 a2 a3) fun y1 =>
  Option.bind (F74 FUEL a4 a5 a6 a7) fun y2 =>
  bif ((ieq y1.1 y2.1) && ((ieq y1.2.1 y2.2.1) && ((beqb y1.2.2 y2.2.2) && true))) then
  (some (0))
  else (Option.bind (F76 FUEL y1.1 y2.1) fun y3 =>
   Option.bind (F76 FUEL y1.2.1 y2.2.1) fun y4 =>
   Option.bind (F75 FUEL [y3, y4]) fun y5 =>
   bif (ieq y5 (0)) then
   (bif y1.2.2 then
    (some (1))
    else (bif (ieq y5 (0)) then
     (some (-1))
     else (some y5)))
   else (bif (ieq y5 (0)) then
    (some (-1))
    else (some y5)))

/-! ### garland/item.Newer -/
def F62 (_n : Nat) (a0 : ByteArray) (a1 : Int) (a2 : Int) (a3 : Bool) (a4 : ByteArray) (a5 : Int) (a6 : Int) (a7 : Bool) : Option (Bool) :=
  Option.bind (F70 FUEL a0 a1 a2 a3 a4 a5 a6 a7) fun y1 =>
  some (igt y1 (0))

/-! ### garland/keep.Put -/
def F32 (_n : Nat) (a0 : List (ByteArray × Int × Int × Bool)) (a1 : ByteArray) (a2 : Int) (a3 : Int) (a4 : Bool) : Option (Int × (List (ByteArray × Int × Int × Bool))) :=
  Option.bind (F41 FUEL a0) fun y1 =>
  bif (!y1) then
  (Option.bind (F43 FUEL a0) fun y2 =>
   some ((2), y2))
  else (Option.bind (F17 FUEL a1 a2 a3 a4) fun y3 =>
   bif (!y3) then
   (Option.bind (F43 FUEL a0) fun y4 =>
    some ((2), y4))
   else (Option.bind (F61 FUEL a0 a1) fun y5 =>
    bif y5.2 then
    (Option.bind (F43 FUEL a0) fun y6 =>
     bif (inb y5.1 (List.length y6)) then
     (bif (nlt (Int.toNat y5.1) (List.length y6)) then
      (Option.bind (F62 FUEL a1 a2 a3 a4 (List.getD y6 (Int.toNat y5.1) (ByteArray.empty, 0, 0, false)).1 (List.getD y6 (Int.toNat y5.1) (ByteArray.empty, 0, 0, false)).2.1 (List.getD y6 (Int.toNat y5.1) (ByteArray.empty, 0, 0, false)).2.2.1 (List.getD y6 (Int.toNat y5.1) (ByteArray.empty, 0, 0, false)).2.2.2) fun y7 =>
       bif y7 then
       (bif (inb y5.1 (List.length y6)) then
        (bif (nlt (Int.toNat y5.1) (List.length y6)) then
         (some ((0), (List.set y6 (Int.toNat y5.1) (a1, a2, a3, a4))))
         else (none))
        else (none))
       else (some ((0), y6)))
      else (none))
     else (none))
    else (bif (ige (ofN (List.length a0)) (24)) then
     (Option.bind (F43 FUEL a0) fun y8 =>
      some ((200), y8))
     else (bif (inn (0) && ile (0) (iadd .i64 (ofN (List.length a0)) (1)) && decide ((iadd .i64 (ofN (List.length a0)) (1)) * 40 ≤ 281474976710656) && decide ((iadd .i64 (ofN (List.length a0)) (1)) ≤ 9223372036854775807)) then
      (bif ((inn y5.1) && (inbs 0 (Int.toNat y5.1) (List.length a0))) then
       (bif (room (List.length (List.replicate (Int.toNat (0)) (ByteArray.empty, (0), (0), false)) + List.length (List.drop 0 (List.take (Int.toNat y5.1) a0))) 40) then
        (bif (room (List.length ((List.replicate (Int.toNat (0)) (ByteArray.empty, (0), (0), false)) ++ (List.drop 0 (List.take (Int.toNat y5.1) a0))) + List.length [(a1, a2, a3, a4)]) 40) then
         (bif (((inn y5.1) && true) && (inbs (Int.toNat y5.1) (List.length a0) (List.length a0))) then
          (bif (room (List.length (((List.replicate (Int.toNat (0)) (ByteArray.empty, (0), (0), false)) ++ (List.drop 0 (List.take (Int.toNat y5.1) a0))) ++ [(a1, a2, a3, a4)]) + List.length (List.drop (Int.toNat y5.1) (List.take (List.length a0) a0))) 40) then
           (some ((0), ((((List.replicate (Int.toNat (0)) (ByteArray.empty, (0), (0), false)) ++ (List.drop 0 (List.take (Int.toNat y5.1) a0))) ++ [(a1, a2, a3, a4)]) ++ (List.drop (Int.toNat y5.1) (List.take (List.length a0) a0)))))
           else (none))
          else (none))
         else (none))
        else (none))
       else (none))
      else (none)))))

/-! ### garland/keep.All -/
def F34_c0 : Nat → List (ByteArray × Int × Int × Bool) → Int → Int → Int → List (ByteArray × Int × Int × Bool) → Option (Int × (List (ByteArray × Int × Int × Bool)))
  | 0, _, _, _, _, _ => none
  | n + 1, x0, x1, x2, x3, x4 => bif (ilt x2 x1) then
    (bif (inb x2 (List.length x0)) then
     (Option.bind (F32 FUEL x4 (List.getD x0 (Int.toNat x2) (ByteArray.empty, 0, 0, false)).1 (List.getD x0 (Int.toNat x2) (ByteArray.empty, 0, 0, false)).2.1 (List.getD x0 (Int.toNat x2) (ByteArray.empty, 0, 0, false)).2.2.1 (List.getD x0 (Int.toNat x2) (ByteArray.empty, 0, 0, false)).2.2.2) fun y3 =>
      bif (ieq x3 (0)) then
      (F34_c0 n x0 x1 (iadd .i64 x2 (1)) y3.1 y3.2)
      else (F34_c0 n x0 x1 (iadd .i64 x2 (1)) x3 y3.2))
     else (none))
    else (some (x3, x4))
def F34 (n : Nat) (a0 : List (ByteArray × Int × Int × Bool)) (a1 : List (ByteArray × Int × Int × Bool)) : Option (Int × (List (ByteArray × Int × Int × Bool))) :=
  Option.bind (F43 FUEL a0) fun y1 =>
  bif (igt (ofN (List.length a1)) (0)) then
  (Option.bind (F41 FUEL a0) fun y2 =>
   bif (!y2) then
   (some ((2), y1))
   else (F34_c0 n a1 (ofN (List.length a1)) (0) (0) y1))
  else (F34_c0 n a1 (ofN (List.length a1)) (0) (0) y1)

/-! ### garland/keep.Get -/
structure Ssi2bi where
  q0 : ByteArray
  q1 : Int
  q2 : Int
  q3 : Bool
  q4 : Int
def F37 (_n : Nat) (a0 : List (ByteArray × Int × Int × Bool)) (a1 : ByteArray) : Option (Ssi2bi) :=
  Option.bind (F41 FUEL a0) fun y1 =>
  bif (!y1) then
  (some ⟨ByteArray.empty, (0), (0), false, (201)⟩)
  else (Option.bind (F61 FUEL a0 a1) fun y2 =>
   bif (!y2.2) then
   (some ⟨ByteArray.empty, (0), (0), false, (201)⟩)
   else (bif (inb y2.1 (List.length a0)) then
    (some ⟨(List.getD a0 (Int.toNat y2.1) (ByteArray.empty, 0, 0, false)).1, (List.getD a0 (Int.toNat y2.1) (ByteArray.empty, 0, 0, false)).2.1, (List.getD a0 (Int.toNat y2.1) (ByteArray.empty, 0, 0, false)).2.2.1, (List.getD a0 (Int.toNat y2.1) (ByteArray.empty, 0, 0, false)).2.2.2, (0)⟩)
    else (none)))

/-! ### garland/keep.Next -/
structure Ssi2b2 where
  q0 : ByteArray
  q1 : Int
  q2 : Int
  q3 : Bool
  q4 : Bool
def F39 (_n : Nat) (a0 : List (ByteArray × Int × Int × Bool)) (a1 : ByteArray) : Option (Ssi2b2) :=
  bif (ieq (ofN (List.length a0)) (0)) then
  (some ⟨ByteArray.empty, (0), (0), false, false⟩)
  else (Option.bind (F41 FUEL a0) fun y1 =>
   bif (!y1) then
   (some ⟨ByteArray.empty, (0), (0), false, false⟩)
   else (Option.bind (F61 FUEL a0 a1) fun y2 =>
    bif y2.2 then
    (bif (ige (iadd .i64 y2.1 (1)) (ofN (List.length a0))) then
     (bif (inb (0) (List.length a0)) then
      (some ⟨(List.getD a0 (Int.toNat (0)) (ByteArray.empty, 0, 0, false)).1, (List.getD a0 (Int.toNat (0)) (ByteArray.empty, 0, 0, false)).2.1, (List.getD a0 (Int.toNat (0)) (ByteArray.empty, 0, 0, false)).2.2.1, (List.getD a0 (Int.toNat (0)) (ByteArray.empty, 0, 0, false)).2.2.2, true⟩)
      else (none))
     else (bif (inb (iadd .i64 y2.1 (1)) (List.length a0)) then
      (some ⟨(List.getD a0 (Int.toNat (iadd .i64 y2.1 (1))) (ByteArray.empty, 0, 0, false)).1, (List.getD a0 (Int.toNat (iadd .i64 y2.1 (1))) (ByteArray.empty, 0, 0, false)).2.1, (List.getD a0 (Int.toNat (iadd .i64 y2.1 (1))) (ByteArray.empty, 0, 0, false)).2.2.1, (List.getD a0 (Int.toNat (iadd .i64 y2.1 (1))) (ByteArray.empty, 0, 0, false)).2.2.2, true⟩)
      else (none)))
    else (bif (ige y2.1 (ofN (List.length a0))) then
     (bif (inb (0) (List.length a0)) then
      (some ⟨(List.getD a0 (Int.toNat (0)) (ByteArray.empty, 0, 0, false)).1, (List.getD a0 (Int.toNat (0)) (ByteArray.empty, 0, 0, false)).2.1, (List.getD a0 (Int.toNat (0)) (ByteArray.empty, 0, 0, false)).2.2.1, (List.getD a0 (Int.toNat (0)) (ByteArray.empty, 0, 0, false)).2.2.2, true⟩)
      else (none))
     else (bif (inb y2.1 (List.length a0)) then
      (some ⟨(List.getD a0 (Int.toNat y2.1) (ByteArray.empty, 0, 0, false)).1, (List.getD a0 (Int.toNat y2.1) (ByteArray.empty, 0, 0, false)).2.1, (List.getD a0 (Int.toNat y2.1) (ByteArray.empty, 0, 0, false)).2.2.1, (List.getD a0 (Int.toNat y2.1) (ByteArray.empty, 0, 0, false)).2.2.2, true⟩)
      else (none)))))

/-! ### garland/garlandref19.Items -/
def F36_c0 : Nat → List (ByteArray × Int × Int × Bool) → List (ByteArray × Int × Int × Bool) → Int → Option (Bool)
  | 0, _, _, _ => none
  | n + 1, x0, x1, x2 => bif (ilt x2 (ofN (List.length x0))) then
    (bif (inb x2 (List.length x0)) then
     (bif (inb x2 (List.length x1)) then
      (bif (!((steq (List.getD x0 (Int.toNat x2) (ByteArray.empty, 0, 0, false)).1 (List.getD x1 (Int.toNat x2) (ByteArray.empty, 0, 0, false)).1) && ((ieq (List.getD x0 (Int.toNat x2) (ByteArray.empty, 0, 0, false)).2.1 (List.getD x1 (Int.toNat x2) (ByteArray.empty, 0, 0, false)).2.1) && ((ieq (List.getD x0 (Int.toNat x2) (ByteArray.empty, 0, 0, false)).2.2.1 (List.getD x1 (Int.toNat x2) (ByteArray.empty, 0, 0, false)).2.2.1) && ((beqb (List.getD x0 (Int.toNat x2) (ByteArray.empty, 0, 0, false)).2.2.2 (List.getD x1 (Int.toNat x2) (ByteArray.empty, 0, 0, false)).2.2.2) && true))))) then
       (some false)
       else (F36_c0 n x0 x1 (iadd .i64 x2 (1))))
      else (none))
     else (none))
    else (some true)
def F36 (n : Nat) (a0 : List (ByteArray × Int × Int × Bool)) (a1 : List (ByteArray × Int × Int × Bool)) : Option (Bool) :=
  bif (ine (ofN (List.length a0)) (ofN (List.length a1))) then
  (some false)
  else (F36_c0 n a0 a1 (0))

/-! ### garland/garlandlaw20.wakes -/
def F31 (_n : Nat) : Option (Bool) :=
  Option.bind (F60 FUEL (ByteArray.mk #[98]) (1) (5)) fun y1 =>
  Option.bind (F60 FUEL (ByteArray.mk #[97]) (1) (7)) fun y2 =>
  Option.bind (F60 FUEL (ByteArray.mk #[98]) (1) (4)) fun y3 =>
  Option.bind (F60 FUEL (ByteArray.mk #[98]) (2) (1)) fun y4 =>
  Option.bind (F34 FUEL [] [(y1.q0, y1.q1, y1.q2, y1.q3), (y2.q0, y2.q1, y2.q2, y2.q3), (y3.q0, y3.q1, y3.q2, y3.q3), (y4.q0, y4.q1, y4.q2, y4.q3)]) fun y5 =>
  Option.bind (F37 FUEL y5.2 (ByteArray.mk #[98])) fun y6 =>
  Option.bind (F37 FUEL y5.2 (ByteArray.mk #[99])) fun y7 =>
  Option.bind (F39 FUEL y5.2 (ByteArray.mk #[97])) fun y8 =>
  Option.bind (F39 FUEL y5.2 (ByteArray.mk #[98])) fun y9 =>
  Option.bind (F39 FUEL [] ByteArray.empty) fun y10 =>
  Option.bind (F32 FUEL y5.2 ByteArray.empty (0) (0) false) fun y11 =>
  bif (ieq y5.1 (0)) then
  (Option.bind (F60 FUEL (ByteArray.mk #[97]) (1) (7)) fun y12 =>
   Option.bind (F60 FUEL (ByteArray.mk #[98]) (2) (1)) fun y13 =>
   Option.bind (F36 FUEL y5.2 [(y12.q0, y12.q1, y12.q2, y12.q3), (y13.q0, y13.q1, y13.q2, y13.q3)]) fun y14 =>
   bif y14 then
   (Option.bind (F60 FUEL (ByteArray.mk #[98]) (2) (1)) fun y15 =>
    bif ((steq y6.q0 y15.q0) && ((ieq y6.q1 y15.q1) && ((ieq y6.q2 y15.q2) && ((beqb y6.q3 y15.q3) && true)))) then
    (bif (ieq y6.q4 (0)) then
     (bif (ieq y7.q4 (201)) then
      (bif (steq y8.q0 (ByteArray.mk #[98])) then
       (bif y8.q4 then
        (bif (steq y9.q0 (ByteArray.mk #[97])) then
         (bif y9.q4 then
          (bif (!y10.q4) then
           (bif (ieq y11.1 (2)) then
            (Option.bind (F41 FUEL y5.2) fun y16 =>
             bif y16 then
             (Option.bind (F41 FUEL [(ByteArray.empty, (0), (0), false)]) fun y17 =>
              bif (!y17) then
              (Option.bind (F43 FUEL y5.2) fun y18 =>
               some (ieq (ofN (List.length y18)) (2)))
              else (some false))
             else (some false))
            else (some false))
           else (some false))
          else (some false))
         else (some false))
        else (some false))
       else (some false))
      else (some false))
     else (some false))
    else (some false))
   else (some false))
  else (some false)

/-! ### garland/garlandref20.Own -/
def F47 (_n : Nat) (a0 : List (ByteArray × Int × Int × Bool)) : Option ((List (ByteArray × Int × Int × Bool))) :=
  bif (room (0 + List.length a0) 40) then
  (some ([] ++ a0))
  else (none)

/-! ### garland/garlandref20.Right -/
def F42_c0 : Nat → List (ByteArray × Int × Int × Bool) → Int → Option (Bool)
  | 0, _, _ => none
  | n + 1, x0, x1 => bif (ilt x1 (ofN (List.length x0))) then
    (bif (inb x1 (List.length x0)) then
     (Option.bind (F18 FUEL (List.getD x0 (Int.toNat x1) (ByteArray.empty, 0, 0, false)).1 (List.getD x0 (Int.toNat x1) (ByteArray.empty, 0, 0, false)).2.1 (List.getD x0 (Int.toNat x1) (ByteArray.empty, 0, 0, false)).2.2.1 (List.getD x0 (Int.toNat x1) (ByteArray.empty, 0, 0, false)).2.2.2) fun y1 =>
      bif (!y1) then
      (some false)
      else (bif (igt x1 (0)) then
       (bif (inb x1 (List.length x0)) then
        (bif (inb (isub .i64 x1 (1)) (List.length x0)) then
         (bif (stle (List.getD x0 (Int.toNat x1) (ByteArray.empty, 0, 0, false)).1 (List.getD x0 (Int.toNat (isub .i64 x1 (1))) (ByteArray.empty, 0, 0, false)).1) then
          (some false)
          else (F42_c0 n x0 (iadd .i64 x1 (1))))
         else (none))
        else (none))
       else (F42_c0 n x0 (iadd .i64 x1 (1)))))
     else (none))
    else (some (ile (ofN (List.length x0)) (24)))
def F42 (n : Nat) (a0 : List (ByteArray × Int × Int × Bool)) : Option (Bool) :=
  F42_c0 n a0 (0)

/-! ### garland/garlandref19.Cmp -/
def F64 (_n : Nat) (_a0 : ByteArray) (a1 : Int) (a2 : Int) (a3 : Bool) (_a4 : ByteArray) (a5 : Int) (a6 : Int) (a7 : Bool) : Option (Int) :=
  bif (igt a2 a6) then
  (some (1))
  else (bif (ilt a2 a6) then
   (some (-1))
   else (bif (igt a1 a5) then
    (some (1))
    else (bif (ilt a1 a5) then
     (some (-1))
     else (bif a3 then
      (bif (!a7) then
       (some (1))
       else (bif a7 then
        (bif (!a3) then
         (some (-1))
         else (some (0)))
        else (some (0))))
      else (bif a7 then
       (bif (!a3) then
        (some (-1))
        else (some (0)))
       else (some (0)))))))

/-! ### garland/garlandref19.Newer -/
def F48 (_n : Nat) (a0 : ByteArray) (a1 : Int) (a2 : Int) (a3 : Bool) (a4 : ByteArray) (a5 : Int) (a6 : Int) (a7 : Bool) : Option (Bool) :=
  Option.bind (F64 FUEL a0 a1 a2 a3 a4 a5 a6 a7) fun y1 =>
  some (igt y1 (0))

/-! ### garland/garlandref20.Put -/
def F33_c0 : Nat → Int → List (ByteArray × Int × Int × Bool) → ByteArray → Int → Int → Bool → Option (Int × (List (ByteArray × Int × Int × Bool)))
  | 0, _, _, _, _, _, _ => none
  | n + 1, x0, x1, x2, x3, x4, x5 => bif (ilt x0 (ofN (List.length x1))) then
    (bif (inb x0 (List.length x1)) then
     (bif (nlt (Int.toNat x0) (List.length x1)) then
      (bif (stlt (List.getD x1 (Int.toNat x0) (ByteArray.empty, 0, 0, false)).1 x2) then
       (F33_c0 n (iadd .i64 x0 (1)) x1 x2 x3 x4 x5)
       else (bif (ilt x0 (ofN (List.length x1))) then
        (bif (inb x0 (List.length x1)) then
         (bif (nlt (Int.toNat x0) (List.length x1)) then
          (bif (steq (List.getD x1 (Int.toNat x0) (ByteArray.empty, 0, 0, false)).1 x2) then
           (bif (inb x0 (List.length x1)) then
            (bif (nlt (Int.toNat x0) (List.length x1)) then
             (Option.bind (F48 FUEL x2 x3 x4 x5 (List.getD x1 (Int.toNat x0) (ByteArray.empty, 0, 0, false)).1 (List.getD x1 (Int.toNat x0) (ByteArray.empty, 0, 0, false)).2.1 (List.getD x1 (Int.toNat x0) (ByteArray.empty, 0, 0, false)).2.2.1 (List.getD x1 (Int.toNat x0) (ByteArray.empty, 0, 0, false)).2.2.2) fun y4 =>
              bif y4 then
              (bif (inb x0 (List.length x1)) then
               (bif (nlt (Int.toNat x0) (List.length x1)) then
                (some ((0), (List.set x1 (Int.toNat x0) (x2, x3, x4, x5))))
                else (none))
               else (none))
              else (some ((0), x1)))
             else (none))
            else (none))
           else (bif (ige (ofN (List.length x1)) (24)) then
            (some ((200), x1))
            else (bif ((inn x0) && (inbs 0 (Int.toNat x0) (List.length x1))) then
             (bif (room (0 + List.length (List.take ((Int.toNat x0) - 0) (List.drop 0 x1))) 40) then
              (bif (room (List.length ([] ++ (List.take ((Int.toNat x0) - 0) (List.drop 0 x1))) + List.length [(x2, x3, x4, x5)]) 40) then
               (bif (((inn x0) && true) && (inbs (Int.toNat x0) (List.length x1) (List.length x1))) then
                (bif (room (List.length (([] ++ (List.take ((Int.toNat x0) - 0) (List.drop 0 x1))) ++ [(x2, x3, x4, x5)]) + List.length (List.take ((List.length x1) - (Int.toNat x0)) (List.drop (Int.toNat x0) x1))) 40) then
                 (some ((0), ((([] ++ (List.take ((Int.toNat x0) - 0) (List.drop 0 x1))) ++ [(x2, x3, x4, x5)]) ++ (List.take ((List.length x1) - (Int.toNat x0)) (List.drop (Int.toNat x0) x1)))))
                 else (none))
                else (none))
               else (none))
              else (none))
             else (none))))
          else (none))
         else (none))
        else (bif (ige (ofN (List.length x1)) (24)) then
         (some ((200), x1))
         else (bif ((inn x0) && (inbs 0 (Int.toNat x0) (List.length x1))) then
          (bif (room (0 + List.length (List.take ((Int.toNat x0) - 0) (List.drop 0 x1))) 40) then
           (bif (room (List.length ([] ++ (List.take ((Int.toNat x0) - 0) (List.drop 0 x1))) + List.length [(x2, x3, x4, x5)]) 40) then
            (bif (((inn x0) && true) && (inbs (Int.toNat x0) (List.length x1) (List.length x1))) then
             (bif (room (List.length (([] ++ (List.take ((Int.toNat x0) - 0) (List.drop 0 x1))) ++ [(x2, x3, x4, x5)]) + List.length (List.take ((List.length x1) - (Int.toNat x0)) (List.drop (Int.toNat x0) x1))) 40) then
              (some ((0), ((([] ++ (List.take ((Int.toNat x0) - 0) (List.drop 0 x1))) ++ [(x2, x3, x4, x5)]) ++ (List.take ((List.length x1) - (Int.toNat x0)) (List.drop (Int.toNat x0) x1)))))
              else (none))
             else (none))
            else (none))
           else (none))
          else (none)))))
      else (none))
     else (none))
    else (bif (ilt x0 (ofN (List.length x1))) then
     (bif (inb x0 (List.length x1)) then
      (bif (nlt (Int.toNat x0) (List.length x1)) then
       (bif (steq (List.getD x1 (Int.toNat x0) (ByteArray.empty, 0, 0, false)).1 x2) then
        (bif (inb x0 (List.length x1)) then
         (bif (nlt (Int.toNat x0) (List.length x1)) then
          (Option.bind (F48 FUEL x2 x3 x4 x5 (List.getD x1 (Int.toNat x0) (ByteArray.empty, 0, 0, false)).1 (List.getD x1 (Int.toNat x0) (ByteArray.empty, 0, 0, false)).2.1 (List.getD x1 (Int.toNat x0) (ByteArray.empty, 0, 0, false)).2.2.1 (List.getD x1 (Int.toNat x0) (ByteArray.empty, 0, 0, false)).2.2.2) fun y5 =>
           bif y5 then
           (bif (inb x0 (List.length x1)) then
            (bif (nlt (Int.toNat x0) (List.length x1)) then
             (some ((0), (List.set x1 (Int.toNat x0) (x2, x3, x4, x5))))
             else (none))
            else (none))
           else (some ((0), x1)))
          else (none))
         else (none))
        else (bif (ige (ofN (List.length x1)) (24)) then
         (some ((200), x1))
         else (bif ((inn x0) && (inbs 0 (Int.toNat x0) (List.length x1))) then
          (bif (room (0 + List.length (List.take ((Int.toNat x0) - 0) (List.drop 0 x1))) 40) then
           (bif (room (List.length ([] ++ (List.take ((Int.toNat x0) - 0) (List.drop 0 x1))) + List.length [(x2, x3, x4, x5)]) 40) then
            (bif (((inn x0) && true) && (inbs (Int.toNat x0) (List.length x1) (List.length x1))) then
             (bif (room (List.length (([] ++ (List.take ((Int.toNat x0) - 0) (List.drop 0 x1))) ++ [(x2, x3, x4, x5)]) + List.length (List.take ((List.length x1) - (Int.toNat x0)) (List.drop (Int.toNat x0) x1))) 40) then
              (some ((0), ((([] ++ (List.take ((Int.toNat x0) - 0) (List.drop 0 x1))) ++ [(x2, x3, x4, x5)]) ++ (List.take ((List.length x1) - (Int.toNat x0)) (List.drop (Int.toNat x0) x1)))))
              else (none))
             else (none))
            else (none))
           else (none))
          else (none))))
       else (none))
      else (none))
     else (bif (ige (ofN (List.length x1)) (24)) then
      (some ((200), x1))
      else (bif ((inn x0) && (inbs 0 (Int.toNat x0) (List.length x1))) then
       (bif (room (0 + List.length (List.take ((Int.toNat x0) - 0) (List.drop 0 x1))) 40) then
        (bif (room (List.length ([] ++ (List.take ((Int.toNat x0) - 0) (List.drop 0 x1))) + List.length [(x2, x3, x4, x5)]) 40) then
         (bif (((inn x0) && true) && (inbs (Int.toNat x0) (List.length x1) (List.length x1))) then
          (bif (room (List.length (([] ++ (List.take ((Int.toNat x0) - 0) (List.drop 0 x1))) ++ [(x2, x3, x4, x5)]) + List.length (List.take ((List.length x1) - (Int.toNat x0)) (List.drop (Int.toNat x0) x1))) 40) then
           (some ((0), ((([] ++ (List.take ((Int.toNat x0) - 0) (List.drop 0 x1))) ++ [(x2, x3, x4, x5)]) ++ (List.take ((List.length x1) - (Int.toNat x0)) (List.drop (Int.toNat x0) x1)))))
           else (none))
          else (none))
         else (none))
        else (none))
       else (none))))
def F33 (n : Nat) (a0 : List (ByteArray × Int × Int × Bool)) (a1 : ByteArray) (a2 : Int) (a3 : Int) (a4 : Bool) : Option (Int × (List (ByteArray × Int × Int × Bool))) :=
  Option.bind (F47 FUEL a0) fun y1 =>
  Option.bind (F42 FUEL y1) fun y2 =>
  bif (!y2) then
  (some ((2), y1))
  else (Option.bind (F18 FUEL a1 a2 a3 a4) fun y3 =>
   bif (!y3) then
   (some ((2), y1))
   else (F33_c0 n (0) y1 a1 a2 a3 a4))

/-! ### garland/garlandref20.All -/
def F35_c0 : Nat → List (ByteArray × Int × Int × Bool) → Int → Int → List (ByteArray × Int × Int × Bool) → Option (Int × (List (ByteArray × Int × Int × Bool)))
  | 0, _, _, _, _ => none
  | n + 1, x0, x1, x2, x3 => bif (ilt x2 (ofN (List.length x0))) then
    (bif (inb x2 (List.length x0)) then
     (Option.bind (F33 FUEL x3 (List.getD x0 (Int.toNat x2) (ByteArray.empty, 0, 0, false)).1 (List.getD x0 (Int.toNat x2) (ByteArray.empty, 0, 0, false)).2.1 (List.getD x0 (Int.toNat x2) (ByteArray.empty, 0, 0, false)).2.2.1 (List.getD x0 (Int.toNat x2) (ByteArray.empty, 0, 0, false)).2.2.2) fun y2 =>
      bif (ieq x1 (0)) then
      (F35_c0 n x0 y2.1 (iadd .i64 x2 (1)) y2.2)
      else (F35_c0 n x0 x1 (iadd .i64 x2 (1)) y2.2))
     else (none))
    else (some (x1, x3))
def F35 (n : Nat) (a0 : List (ByteArray × Int × Int × Bool)) (a1 : List (ByteArray × Int × Int × Bool)) : Option (Int × (List (ByteArray × Int × Int × Bool))) :=
  Option.bind (F47 FUEL a0) fun y1 =>
  F35_c0 n a1 (0) (0) y1

/-! ### garland/garlandref20.Get -/
def F38_c0 : Nat → List (ByteArray × Int × Int × Bool) → ByteArray → Int → ByteArray → Int → Int → Bool → Option (Ssi2bi)
  | 0, _, _, _, _, _, _, _ => none
  | n + 1, x0, x1, x2, x3, x4, x5, x6 => bif (ilt x2 (ofN (List.length x0))) then
    (Option.bind (F42 FUEL x0) fun y1 =>
     bif y1 then
     (bif (inb x2 (List.length x0)) then
      (bif (steq (List.getD x0 (Int.toNat x2) (ByteArray.empty, 0, 0, false)).1 x1) then
       (bif (inb x2 (List.length x0)) then
        (some ⟨(List.getD x0 (Int.toNat x2) (ByteArray.empty, 0, 0, false)).1, (List.getD x0 (Int.toNat x2) (ByteArray.empty, 0, 0, false)).2.1, (List.getD x0 (Int.toNat x2) (ByteArray.empty, 0, 0, false)).2.2.1, (List.getD x0 (Int.toNat x2) (ByteArray.empty, 0, 0, false)).2.2.2, (0)⟩)
        else (none))
       else (F38_c0 n x0 x1 (iadd .i64 x2 (1)) x3 x4 x5 x6))
      else (none))
     else (some ⟨ByteArray.empty, (0), (0), false, (201)⟩))
    else (some ⟨ByteArray.empty, (0), (0), false, (201)⟩)
def F38 (n : Nat) (a0 : List (ByteArray × Int × Int × Bool)) (a1 : ByteArray) : Option (Ssi2bi) :=
  F38_c0 n a0 a1 (0) ByteArray.empty (0) (0) false

/-! ### garland/garlandref20.Next -/
def F40_c0 : Nat → List (ByteArray × Int × Int × Bool) → ByteArray → Int → ByteArray → Int → Int → Bool → Option (Ssi2b2)
  | 0, _, _, _, _, _, _, _ => none
  | n + 1, x0, x1, x2, x3, x4, x5, x6 => bif (ilt x2 (ofN (List.length x0))) then
    (bif (inb x2 (List.length x0)) then
     (bif (stgt (List.getD x0 (Int.toNat x2) (ByteArray.empty, 0, 0, false)).1 x1) then
      (bif (inb x2 (List.length x0)) then
       (some ⟨(List.getD x0 (Int.toNat x2) (ByteArray.empty, 0, 0, false)).1, (List.getD x0 (Int.toNat x2) (ByteArray.empty, 0, 0, false)).2.1, (List.getD x0 (Int.toNat x2) (ByteArray.empty, 0, 0, false)).2.2.1, (List.getD x0 (Int.toNat x2) (ByteArray.empty, 0, 0, false)).2.2.2, true⟩)
       else (none))
      else (F40_c0 n x0 x1 (iadd .i64 x2 (1)) x3 x4 x5 x6))
     else (none))
    else (bif (inb (0) (List.length x0)) then
     (some ⟨(List.getD x0 (Int.toNat (0)) (ByteArray.empty, 0, 0, false)).1, (List.getD x0 (Int.toNat (0)) (ByteArray.empty, 0, 0, false)).2.1, (List.getD x0 (Int.toNat (0)) (ByteArray.empty, 0, 0, false)).2.2.1, (List.getD x0 (Int.toNat (0)) (ByteArray.empty, 0, 0, false)).2.2.2, true⟩)
     else (none))
def F40 (n : Nat) (a0 : List (ByteArray × Int × Int × Bool)) (a1 : ByteArray) : Option (Ssi2b2) :=
  bif (ieq (ofN (List.length a0)) (0)) then
  (some ⟨ByteArray.empty, (0), (0), false, false⟩)
  else (Option.bind (F42 FUEL a0) fun y1 =>
   bif (!y1) then
   (some ⟨ByteArray.empty, (0), (0), false, false⟩)
   else (F40_c0 n a0 a1 (0) ByteArray.empty (0) (0) false))

/-! ### garland/garlandlaw20.KeepTells -/
def F8 (_n : Nat) (a0 : List (ByteArray × Int × Int × Bool)) (a1 : ByteArray) (a2 : Int) (a3 : Int) (a4 : Bool) (a5 : List (ByteArray × Int × Int × Bool)) (a6 : ByteArray) : Option (Bool) :=
  Option.bind (F30 FUEL a0) fun y1 =>
  bif y1 then
  (Option.bind (F31 FUEL) fun y2 =>
   some y2)
  else (Option.bind (F30 FUEL [(a1, a2, a3, a4)]) fun y3 =>
   bif y3 then
   (Option.bind (F31 FUEL) fun y4 =>
    some y4)
   else (Option.bind (F30 FUEL a5) fun y5 =>
    bif y5 then
    (Option.bind (F31 FUEL) fun y6 =>
     some y6)
    else (bif (igt (stlen a6) (100)) then
     (Option.bind (F31 FUEL) fun y7 =>
      some y7)
     else (Option.bind (F32 FUEL a0 a1 a2 a3 a4) fun y8 =>
      Option.bind (F33 FUEL a0 a1 a2 a3 a4) fun y9 =>
      Option.bind (F34 FUEL a0 a5) fun y10 =>
      Option.bind (F35 FUEL a0 a5) fun y11 =>
      Option.bind (F36 FUEL y8.2 y9.2) fun y12 =>
      bif (!y12) then
      (some false)
      else (bif (ine y8.1 y9.1) then
       (some false)
       else (Option.bind (F36 FUEL y10.2 y11.2) fun y13 =>
        bif (!y13) then
        (some false)
        else (bif (ine y10.1 y11.1) then
         (some false)
         else (Option.bind (F37 FUEL a0 a6) fun y14 =>
          Option.bind (F38 FUEL a0 a6) fun y15 =>
          Option.bind (F39 FUEL a0 a6) fun y16 =>
          Option.bind (F40 FUEL a0 a6) fun y17 =>
          bif ((steq y14.q0 y15.q0) && ((ieq y14.q1 y15.q1) && ((ieq y14.q2 y15.q2) && ((beqb y14.q3 y15.q3) && true)))) then
          (bif (ieq y14.q4 y15.q4) then
           (bif ((steq y16.q0 y17.q0) && ((ieq y16.q1 y17.q1) && ((ieq y16.q2 y17.q2) && ((beqb y16.q3 y17.q3) && true)))) then
            (bif (beqb y16.q4 y17.q4) then
             (Option.bind (F41 FUEL a0) fun y18 =>
              Option.bind (F42 FUEL a0) fun y19 =>
              bif (beqb y18 y19) then
              (Option.bind (F43 FUEL a0) fun y20 =>
               Option.bind (F36 FUEL y20 a0) fun y21 =>
               bif y21 then
               (Option.bind (F31 FUEL) fun y22 =>
                some y22)
               else (some false))
              else (some false))
             else (some false))
            else (some false))
           else (some false))
          else (some false)))))))))

/-! ### garland/garlandref19.Of -/
def F45_c0 : Nat → ByteArray → List (ByteArray × Int × Int × Bool) → Int → List (ByteArray × Int × Int × Bool) → Option ((List (ByteArray × Int × Int × Bool)))
  | 0, _, _, _, _ => none
  | n + 1, x0, x1, x2, x3 => bif (ilt x2 (ofN (List.length x1))) then
    (bif (inb x2 (List.length x1)) then
     (bif (steq (List.getD x1 (Int.toNat x2) (ByteArray.empty, 0, 0, false)).1 x0) then
      (bif (inb x2 (List.length x1)) then
       (bif (room (List.length x3 + List.length [((List.getD x1 (Int.toNat x2) (ByteArray.empty, 0, 0, false)).1, (List.getD x1 (Int.toNat x2) (ByteArray.empty, 0, 0, false)).2.1, (List.getD x1 (Int.toNat x2) (ByteArray.empty, 0, 0, false)).2.2.1, (List.getD x1 (Int.toNat x2) (ByteArray.empty, 0, 0, false)).2.2.2)]) 40) then
        (F45_c0 n x0 x1 (iadd .i64 x2 (1)) (x3 ++ [((List.getD x1 (Int.toNat x2) (ByteArray.empty, 0, 0, false)).1, (List.getD x1 (Int.toNat x2) (ByteArray.empty, 0, 0, false)).2.1, (List.getD x1 (Int.toNat x2) (ByteArray.empty, 0, 0, false)).2.2.1, (List.getD x1 (Int.toNat x2) (ByteArray.empty, 0, 0, false)).2.2.2)]))
        else (none))
       else (none))
      else (F45_c0 n x0 x1 (iadd .i64 x2 (1)) x3))
     else (none))
    else (some x3)
def F45 (n : Nat) (a0 : ByteArray) (a1 : List (ByteArray × Int × Int × Bool)) : Option ((List (ByteArray × Int × Int × Bool))) :=
  F45_c0 n a0 a1 (0) []

/-! ### garland/garlandref19.Newest -/
def F44_c0 : Nat → List (ByteArray × Int × Int × Bool) → Bool → Int → ByteArray → Int → Int → Bool → ByteArray → Int → Int → Bool → Option (Ssi2b2)
  | 0, _, _, _, _, _, _, _, _, _, _, _ => none
  | n + 1, x0, x1, x2, x3, x4, x5, x6, x7, x8, x9, x10 => bif (ilt x2 (ofN (List.length x0))) then
    (bif (inb x2 (List.length x0)) then
     (Option.bind (F18 FUEL (List.getD x0 (Int.toNat x2) (ByteArray.empty, 0, 0, false)).1 (List.getD x0 (Int.toNat x2) (ByteArray.empty, 0, 0, false)).2.1 (List.getD x0 (Int.toNat x2) (ByteArray.empty, 0, 0, false)).2.2.1 (List.getD x0 (Int.toNat x2) (ByteArray.empty, 0, 0, false)).2.2.2) fun y1 =>
      bif y1 then
      (bif (!x1) then
       (bif (inb x2 (List.length x0)) then
        (F44_c0 n x0 true (iadd .i64 x2 (1)) x3 x4 x5 x6 (List.getD x0 (Int.toNat x2) (ByteArray.empty, 0, 0, false)).1 (List.getD x0 (Int.toNat x2) (ByteArray.empty, 0, 0, false)).2.1 (List.getD x0 (Int.toNat x2) (ByteArray.empty, 0, 0, false)).2.2.1 (List.getD x0 (Int.toNat x2) (ByteArray.empty, 0, 0, false)).2.2.2)
        else (none))
       else (bif (inb x2 (List.length x0)) then
        (Option.bind (F48 FUEL (List.getD x0 (Int.toNat x2) (ByteArray.empty, 0, 0, false)).1 (List.getD x0 (Int.toNat x2) (ByteArray.empty, 0, 0, false)).2.1 (List.getD x0 (Int.toNat x2) (ByteArray.empty, 0, 0, false)).2.2.1 (List.getD x0 (Int.toNat x2) (ByteArray.empty, 0, 0, false)).2.2.2 x7 x8 x9 x10) fun y2 =>
         bif y2 then
         (bif (inb x2 (List.length x0)) then
          (F44_c0 n x0 true (iadd .i64 x2 (1)) x3 x4 x5 x6 (List.getD x0 (Int.toNat x2) (ByteArray.empty, 0, 0, false)).1 (List.getD x0 (Int.toNat x2) (ByteArray.empty, 0, 0, false)).2.1 (List.getD x0 (Int.toNat x2) (ByteArray.empty, 0, 0, false)).2.2.1 (List.getD x0 (Int.toNat x2) (ByteArray.empty, 0, 0, false)).2.2.2)
          else (none))
         else (F44_c0 n x0 x1 (iadd .i64 x2 (1)) x3 x4 x5 x6 x7 x8 x9 x10))
        else (none)))
      else (F44_c0 n x0 x1 (iadd .i64 x2 (1)) x3 x4 x5 x6 x7 x8 x9 x10))
     else (none))
    else (some ⟨x7, x8, x9, x10, x1⟩)
def F44 (n : Nat) (a0 : List (ByteArray × Int × Int × Bool)) : Option (Ssi2b2) :=
  F44_c0 n a0 false (0) ByteArray.empty (0) (0) false ByteArray.empty (0) (0) false

/-! ### garland/garlandref19.Keys -/
mutual
def F46_c0 : Nat → List (ByteArray × Int × Int × Bool) → Int → List (ByteArray) → Option ((List (ByteArray)))
  | 0, _, _, _ => none
  | n + 1, x0, x1, x2 => bif (ilt x1 (ofN (List.length x0))) then
    (F46_c1 n x0 x1 (0) x2)
    else (some x2)
def F46_c1 : Nat → List (ByteArray × Int × Int × Bool) → Int → Int → List (ByteArray) → Option ((List (ByteArray)))
  | 0, _, _, _, _ => none
  | n + 1, x0, x1, x2, x3 => bif (ilt x2 (ofN (List.length x3))) then
    (bif (inb x2 (List.length x3)) then
     (bif (nlt (Int.toNat x2) (List.length x3)) then
      (bif (inb x1 (List.length x0)) then
       (bif (stlt (List.getD x3 (Int.toNat x2) ByteArray.empty) (List.getD x0 (Int.toNat x1) (ByteArray.empty, 0, 0, false)).1) then
        (F46_c1 n x0 x1 (iadd .i64 x2 (1)) x3)
        else (bif (ieq x2 (ofN (List.length x3))) then
         (bif ((inn x2) && (inbs 0 (Int.toNat x2) (List.length x3))) then
          (bif (room (0 + List.length (List.take ((Int.toNat x2) - 0) (List.drop 0 x3))) 16) then
           (bif (inb x1 (List.length x0)) then
            (bif (room (List.length ([] ++ (List.take ((Int.toNat x2) - 0) (List.drop 0 x3))) + List.length [(List.getD x0 (Int.toNat x1) (ByteArray.empty, 0, 0, false)).1]) 16) then
             (bif (((inn x2) && true) && (inbs (Int.toNat x2) (List.length x3) (List.length x3))) then
              (bif (room (List.length (([] ++ (List.take ((Int.toNat x2) - 0) (List.drop 0 x3))) ++ [(List.getD x0 (Int.toNat x1) (ByteArray.empty, 0, 0, false)).1]) + List.length (List.take ((List.length x3) - (Int.toNat x2)) (List.drop (Int.toNat x2) x3))) 16) then
               (F46_c0 n x0 (iadd .i64 x1 (1)) ((([] ++ (List.take ((Int.toNat x2) - 0) (List.drop 0 x3))) ++ [(List.getD x0 (Int.toNat x1) (ByteArray.empty, 0, 0, false)).1]) ++ (List.take ((List.length x3) - (Int.toNat x2)) (List.drop (Int.toNat x2) x3))))
               else (none))
              else (none))
             else (none))
            else (none))
           else (none))
          else (none))
         else (bif (inb x2 (List.length x3)) then
          (bif (nlt (Int.toNat x2) (List.length x3)) then
           (bif (inb x1 (List.length x0)) then
            (bif (stne (List.getD x3 (Int.toNat x2) ByteArray.empty) (List.getD x0 (Int.toNat x1) (ByteArray.empty, 0, 0, false)).1) then
             (bif ((inn x2) && (inbs 0 (Int.toNat x2) (List.length x3))) then
              (bif (room (0 + List.length (List.take ((Int.toNat x2) - 0) (List.drop 0 x3))) 16) then
               (bif (inb x1 (List.length x0)) then
                (bif (room (List.length ([] ++ (List.take ((Int.toNat x2) - 0) (List.drop 0 x3))) + List.length [(List.getD x0 (Int.toNat x1) (ByteArray.empty, 0, 0, false)).1]) 16) then
                 (bif (((inn x2) && true) && (inbs (Int.toNat x2) (List.length x3) (List.length x3))) then
                  (bif (room (List.length (([] ++ (List.take ((Int.toNat x2) - 0) (List.drop 0 x3))) ++ [(List.getD x0 (Int.toNat x1) (ByteArray.empty, 0, 0, false)).1]) + List.length (List.take ((List.length x3) - (Int.toNat x2)) (List.drop (Int.toNat x2) x3))) 16) then
                   (F46_c0 n x0 (iadd .i64 x1 (1)) ((([] ++ (List.take ((Int.toNat x2) - 0) (List.drop 0 x3))) ++ [(List.getD x0 (Int.toNat x1) (ByteArray.empty, 0, 0, false)).1]) ++ (List.take ((List.length x3) - (Int.toNat x2)) (List.drop (Int.toNat x2) x3))))
                   else (none))
                  else (none))
                 else (none))
                else (none))
               else (none))
              else (none))
             else (F46_c0 n x0 (iadd .i64 x1 (1)) x3))
            else (none))
           else (none))
          else (none))))
       else (none))
      else (none))
     else (none))
    else (bif (ieq x2 (ofN (List.length x3))) then
     (bif ((inn x2) && (inbs 0 (Int.toNat x2) (List.length x3))) then
      (bif (room (0 + List.length (List.take ((Int.toNat x2) - 0) (List.drop 0 x3))) 16) then
       (bif (inb x1 (List.length x0)) then
        (bif (room (List.length ([] ++ (List.take ((Int.toNat x2) - 0) (List.drop 0 x3))) + List.length [(List.getD x0 (Int.toNat x1) (ByteArray.empty, 0, 0, false)).1]) 16) then
         (bif (((inn x2) && true) && (inbs (Int.toNat x2) (List.length x3) (List.length x3))) then
          (bif (room (List.length (([] ++ (List.take ((Int.toNat x2) - 0) (List.drop 0 x3))) ++ [(List.getD x0 (Int.toNat x1) (ByteArray.empty, 0, 0, false)).1]) + List.length (List.take ((List.length x3) - (Int.toNat x2)) (List.drop (Int.toNat x2) x3))) 16) then
           (F46_c0 n x0 (iadd .i64 x1 (1)) ((([] ++ (List.take ((Int.toNat x2) - 0) (List.drop 0 x3))) ++ [(List.getD x0 (Int.toNat x1) (ByteArray.empty, 0, 0, false)).1]) ++ (List.take ((List.length x3) - (Int.toNat x2)) (List.drop (Int.toNat x2) x3))))
           else (none))
          else (none))
         else (none))
        else (none))
       else (none))
      else (none))
     else (bif (inb x2 (List.length x3)) then
      (bif (nlt (Int.toNat x2) (List.length x3)) then
       (bif (inb x1 (List.length x0)) then
        (bif (stne (List.getD x3 (Int.toNat x2) ByteArray.empty) (List.getD x0 (Int.toNat x1) (ByteArray.empty, 0, 0, false)).1) then
         (bif ((inn x2) && (inbs 0 (Int.toNat x2) (List.length x3))) then
          (bif (room (0 + List.length (List.take ((Int.toNat x2) - 0) (List.drop 0 x3))) 16) then
           (bif (inb x1 (List.length x0)) then
            (bif (room (List.length ([] ++ (List.take ((Int.toNat x2) - 0) (List.drop 0 x3))) + List.length [(List.getD x0 (Int.toNat x1) (ByteArray.empty, 0, 0, false)).1]) 16) then
             (bif (((inn x2) && true) && (inbs (Int.toNat x2) (List.length x3) (List.length x3))) then
              (bif (room (List.length (([] ++ (List.take ((Int.toNat x2) - 0) (List.drop 0 x3))) ++ [(List.getD x0 (Int.toNat x1) (ByteArray.empty, 0, 0, false)).1]) + List.length (List.take ((List.length x3) - (Int.toNat x2)) (List.drop (Int.toNat x2) x3))) 16) then
               (F46_c0 n x0 (iadd .i64 x1 (1)) ((([] ++ (List.take ((Int.toNat x2) - 0) (List.drop 0 x3))) ++ [(List.getD x0 (Int.toNat x1) (ByteArray.empty, 0, 0, false)).1]) ++ (List.take ((List.length x3) - (Int.toNat x2)) (List.drop (Int.toNat x2) x3))))
               else (none))
              else (none))
             else (none))
            else (none))
           else (none))
          else (none))
         else (F46_c0 n x0 (iadd .i64 x1 (1)) x3))
        else (none))
       else (none))
      else (none)))
end
def F46 (n : Nat) (a0 : List (ByteArray × Int × Int × Bool)) : Option ((List (ByteArray))) :=
  F46_c0 n a0 (0) []

/-! ### garland/garlandlaw20.KeepNewest -/
mutual
def F9_c0 : Nat → List (ByteArray × Int × Int × Bool) → Bool → Int → List (ByteArray × Int × Int × Bool) → Option (Bool)
  | 0, _, _, _, _ => none
  | n + 1, x0, x1, x2, x3 => bif (ilt x2 (ofN (List.length x0))) then
    (bif (inb x2 (List.length x0)) then
     (bif (room (List.length [((List.getD x0 (Int.toNat x2) (ByteArray.empty, 0, 0, false)).1, (List.getD x0 (Int.toNat x2) (ByteArray.empty, 0, 0, false)).2.1, (List.getD x0 (Int.toNat x2) (ByteArray.empty, 0, 0, false)).2.2.1, (List.getD x0 (Int.toNat x2) (ByteArray.empty, 0, 0, false)).2.2.2)] + List.length x3) 40) then
      (bif x1 then
       (bif (inb x2 (List.length x0)) then
        (Option.bind (F18 FUEL (List.getD x0 (Int.toNat x2) (ByteArray.empty, 0, 0, false)).1 (List.getD x0 (Int.toNat x2) (ByteArray.empty, 0, 0, false)).2.1 (List.getD x0 (Int.toNat x2) (ByteArray.empty, 0, 0, false)).2.2.1 (List.getD x0 (Int.toNat x2) (ByteArray.empty, 0, 0, false)).2.2.2) fun y3 =>
         F9_c0 n x0 y3 (iadd .i64 x2 (1)) ([((List.getD x0 (Int.toNat x2) (ByteArray.empty, 0, 0, false)).1, (List.getD x0 (Int.toNat x2) (ByteArray.empty, 0, 0, false)).2.1, (List.getD x0 (Int.toNat x2) (ByteArray.empty, 0, 0, false)).2.2.1, (List.getD x0 (Int.toNat x2) (ByteArray.empty, 0, 0, false)).2.2.2)] ++ x3))
        else (none))
       else (F9_c0 n x0 false (iadd .i64 x2 (1)) ([((List.getD x0 (Int.toNat x2) (ByteArray.empty, 0, 0, false)).1, (List.getD x0 (Int.toNat x2) (ByteArray.empty, 0, 0, false)).2.1, (List.getD x0 (Int.toNat x2) (ByteArray.empty, 0, 0, false)).2.2.1, (List.getD x0 (Int.toNat x2) (ByteArray.empty, 0, 0, false)).2.2.2)] ++ x3)))
      else (none))
     else (none))
    else (Option.bind (F34 FUEL [] x0) fun y4 =>
     Option.bind (F34 FUEL [] x3) fun y5 =>
     Option.bind (F41 FUEL y4.2) fun y6 =>
     bif (!y6) then
     (some false)
     else (Option.bind (F41 FUEL y5.2) fun y7 =>
      bif (!y7) then
      (some false)
      else (bif (!x1) then
       (bif (ieq y4.1 (0)) then
        (some false)
        else (bif (ieq y5.1 (0)) then
         (some false)
         else (bif (ine y4.1 (0)) then
          (bif (ieq y4.1 (200)) then
           (bif (beqb x1 (ieq y5.1 (200))) then
            (Option.bind (F31 FUEL) fun y8 =>
             some y8)
            else (some false))
           else (bif (beqb x1 false) then
            (Option.bind (F31 FUEL) fun y9 =>
             some y9)
            else (some false)))
          else (bif (ine y5.1 (0)) then
           (bif (ieq y4.1 (200)) then
            (bif (beqb x1 (ieq y5.1 (200))) then
             (Option.bind (F31 FUEL) fun y10 =>
              some y10)
             else (some false))
            else (bif (beqb x1 false) then
             (Option.bind (F31 FUEL) fun y11 =>
              some y11)
             else (some false)))
           else (F9_c1 n x0 (0) y4.2 y5.2)))))
       else (bif (ine y4.1 (0)) then
        (bif (ieq y4.1 (200)) then
         (bif (beqb x1 (ieq y5.1 (200))) then
          (Option.bind (F31 FUEL) fun y12 =>
           some y12)
          else (some false))
         else (bif (beqb x1 false) then
          (Option.bind (F31 FUEL) fun y13 =>
           some y13)
          else (some false)))
        else (bif (ine y5.1 (0)) then
         (bif (ieq y4.1 (200)) then
          (bif (beqb x1 (ieq y5.1 (200))) then
           (Option.bind (F31 FUEL) fun y14 =>
            some y14)
           else (some false))
          else (bif (beqb x1 false) then
           (Option.bind (F31 FUEL) fun y15 =>
            some y15)
           else (some false)))
         else (F9_c1 n x0 (0) y4.2 y5.2))))))
def F9_c1 : Nat → List (ByteArray × Int × Int × Bool) → Int → List (ByteArray × Int × Int × Bool) → List (ByteArray × Int × Int × Bool) → Option (Bool)
  | 0, _, _, _, _ => none
  | n + 1, x0, x1, x2, x3 => bif (ilt x1 (ofN (List.length x0))) then
    (bif (inb x1 (List.length x0)) then
     (Option.bind (F37 FUEL x2 (List.getD x0 (Int.toNat x1) (ByteArray.empty, 0, 0, false)).1) fun y16 =>
      bif (inb x1 (List.length x0)) then
      (Option.bind (F45 FUEL (List.getD x0 (Int.toNat x1) (ByteArray.empty, 0, 0, false)).1 x0) fun y17 =>
       Option.bind (F44 FUEL y17) fun y18 =>
       bif (ine y16.q4 (0)) then
       (some false)
       else (bif (!((steq y16.q0 y18.q0) && ((ieq y16.q1 y18.q1) && ((ieq y16.q2 y18.q2) && ((beqb y16.q3 y18.q3) && true))))) then
        (some false)
        else (F9_c1 n x0 (iadd .i64 x1 (1)) x2 x3)))
      else (none))
     else (none))
    else (Option.bind (F36 FUEL x2 x3) fun y19 =>
     bif y19 then
     (Option.bind (F46 FUEL x0) fun y20 =>
      bif (ieq (ofN (List.length x2)) (ofN (List.length y20))) then
      (Option.bind (F31 FUEL) fun y21 =>
       some y21)
      else (some false))
     else (some false))
end
def F9 (n : Nat) (a0 : List (ByteArray × Int × Int × Bool)) : Option (Bool) :=
  Option.bind (F30 FUEL a0) fun y1 =>
  bif y1 then
  (Option.bind (F31 FUEL) fun y2 =>
   some y2)
  else (F9_c0 n a0 true (0) [])

/-! ### garland/garlandlaw20.KeepPut -/
def F10_c0 : Nat → List (ByteArray × Int × Int × Bool) → Int → ByteArray → Int → Int → Bool → List (ByteArray × Int × Int × Bool) → Option (Bool)
  | 0, _, _, _, _, _, _, _ => none
  | n + 1, x0, x1, x2, x3, x4, x5, x6 => bif (ilt x1 (ofN (List.length x0))) then
    (bif (inb x1 (List.length x0)) then
     (Option.bind (F37 FUEL x6 (List.getD x0 (Int.toNat x1) (ByteArray.empty, 0, 0, false)).1) fun y26 =>
      bif (inb x1 (List.length x0)) then
      (bif (stne (List.getD x0 (Int.toNat x1) (ByteArray.empty, 0, 0, false)).1 x2) then
       (bif (ine y26.q4 (0)) then
        (some false)
        else (bif (inb x1 (List.length x0)) then
         (bif (!((steq y26.q0 (List.getD x0 (Int.toNat x1) (ByteArray.empty, 0, 0, false)).1) && ((ieq y26.q1 (List.getD x0 (Int.toNat x1) (ByteArray.empty, 0, 0, false)).2.1) && ((ieq y26.q2 (List.getD x0 (Int.toNat x1) (ByteArray.empty, 0, 0, false)).2.2.1) && ((beqb y26.q3 (List.getD x0 (Int.toNat x1) (ByteArray.empty, 0, 0, false)).2.2.2) && true))))) then
          (some false)
          else (F10_c0 n x0 (iadd .i64 x1 (1)) x2 x3 x4 x5 x6))
         else (none)))
       else (F10_c0 n x0 (iadd .i64 x1 (1)) x2 x3 x4 x5 x6))
      else (none))
     else (none))
    else (Option.bind (F31 FUEL) fun y27 =>
     some y27)
def F10 (n : Nat) (a0 : List (ByteArray × Int × Int × Bool)) (a1 : ByteArray) (a2 : Int) (a3 : Int) (a4 : Bool) : Option (Bool) :=
  Option.bind (F30 FUEL a0) fun y1 =>
  bif y1 then
  (Option.bind (F31 FUEL) fun y2 =>
   some y2)
  else (Option.bind (F30 FUEL [(a1, a2, a3, a4)]) fun y3 =>
   bif y3 then
   (Option.bind (F31 FUEL) fun y4 =>
    some y4)
   else (Option.bind (F42 FUEL a0) fun y5 =>
    bif (!y5) then
    (Option.bind (F31 FUEL) fun y6 =>
     some y6)
    else (Option.bind (F47 FUEL a0) fun y7 =>
     Option.bind (F32 FUEL a0 a1 a2 a3 a4) fun y8 =>
     Option.bind (F37 FUEL a0 a1) fun y9 =>
     Option.bind (F36 FUEL a0 y7) fun y10 =>
     bif (!y10) then
     (some false)
     else (Option.bind (F41 FUEL y8.2) fun y11 =>
      bif (!y11) then
      (some false)
      else (bif (ine y8.1 (0)) then
       (Option.bind (F18 FUEL a1 a2 a3 a4) fun y12 =>
        bif y12 then
        (bif (ieq y9.q4 (201)) then
         (Option.bind (F36 FUEL y8.2 a0) fun y13 =>
          bif y13 then
          (bif (beqb (ieq y8.1 (200)) (ieq (ofN (List.length a0)) (24))) then
           (Option.bind (F18 FUEL a1 a2 a3 a4) fun y14 =>
            bif (beqb (ieq y8.1 (2)) (!y14)) then
            (Option.bind (F31 FUEL) fun y15 =>
             some y15)
            else (some false))
           else (some false))
          else (some false))
         else (Option.bind (F36 FUEL y8.2 a0) fun y16 =>
          bif y16 then
          (bif (beqb (ieq y8.1 (200)) false) then
           (Option.bind (F18 FUEL a1 a2 a3 a4) fun y17 =>
            bif (beqb (ieq y8.1 (2)) (!y17)) then
            (Option.bind (F31 FUEL) fun y18 =>
             some y18)
            else (some false))
           else (some false))
          else (some false)))
        else (Option.bind (F36 FUEL y8.2 a0) fun y19 =>
         bif y19 then
         (bif (beqb (ieq y8.1 (200)) false) then
          (Option.bind (F18 FUEL a1 a2 a3 a4) fun y20 =>
           bif (beqb (ieq y8.1 (2)) (!y20)) then
           (Option.bind (F31 FUEL) fun y21 =>
            some y21)
           else (some false))
          else (some false))
         else (some false)))
       else (bif (ieq y9.q4 (0)) then
        (Option.bind (F48 FUEL a1 a2 a3 a4 y9.q0 y9.q1 y9.q2 y9.q3) fun y22 =>
         bif (!y22) then
         (Option.bind (F37 FUEL y8.2 a1) fun y23 =>
          bif (ine y23.q4 (0)) then
          (some false)
          else (bif (!((steq y23.q0 y9.q0) && ((ieq y23.q1 y9.q1) && ((ieq y23.q2 y9.q2) && ((beqb y23.q3 y9.q3) && true))))) then
           (some false)
           else (bif (bneb (ieq y9.q4 (0)) (ieq (ofN (List.length y8.2)) (ofN (List.length a0)))) then
            (some false)
            else (bif (igt (ofN (List.length y8.2)) (iadd .i64 (ofN (List.length a0)) (1))) then
             (some false)
             else (F10_c0 n a0 (0) a1 a2 a3 a4 y8.2)))))
         else (Option.bind (F37 FUEL y8.2 a1) fun y24 =>
          bif (ine y24.q4 (0)) then
          (some false)
          else (bif (!((steq y24.q0 a1) && ((ieq y24.q1 a2) && ((ieq y24.q2 a3) && ((beqb y24.q3 a4) && true))))) then
           (some false)
           else (bif (bneb (ieq y9.q4 (0)) (ieq (ofN (List.length y8.2)) (ofN (List.length a0)))) then
            (some false)
            else (bif (igt (ofN (List.length y8.2)) (iadd .i64 (ofN (List.length a0)) (1))) then
             (some false)
             else (F10_c0 n a0 (0) a1 a2 a3 a4 y8.2))))))
        else (Option.bind (F37 FUEL y8.2 a1) fun y25 =>
         bif (ine y25.q4 (0)) then
         (some false)
         else (bif (!((steq y25.q0 a1) && ((ieq y25.q1 a2) && ((ieq y25.q2 a3) && ((beqb y25.q3 a4) && true))))) then
          (some false)
          else (bif (bneb (ieq y9.q4 (0)) (ieq (ofN (List.length y8.2)) (ofN (List.length a0)))) then
           (some false)
           else (bif (igt (ofN (List.length y8.2)) (iadd .i64 (ofN (List.length a0)) (1))) then
            (some false)
            else (F10_c0 n a0 (0) a1 a2 a3 a4 y8.2)))))))))))

/-! ### garland/garlandlaw20.KeepRound -/
mutual
def F11_c0 : Nat → List (ByteArray × Int × Int × Bool) → ByteArray → ByteArray → Int → Option (Bool)
  | 0, _, _, _, _ => none
  | n + 1, x0, x1, x2, x3 => bif (ilt x3 (ofN (List.length x0))) then
    (Option.bind (F39 FUEL x0 x2) fun y6 =>
     bif (!y6.q4) then
     (some false)
     else (bif (inb x3 (List.length x0)) then
      (bif (!((steq y6.q0 (List.getD x0 (Int.toNat x3) (ByteArray.empty, 0, 0, false)).1) && ((ieq y6.q1 (List.getD x0 (Int.toNat x3) (ByteArray.empty, 0, 0, false)).2.1) && ((ieq y6.q2 (List.getD x0 (Int.toNat x3) (ByteArray.empty, 0, 0, false)).2.2.1) && ((beqb y6.q3 (List.getD x0 (Int.toNat x3) (ByteArray.empty, 0, 0, false)).2.2.2) && true))))) then
       (some false)
       else (F11_c0 n x0 x1 y6.q0 (iadd .i64 x3 (1))))
      else (none)))
    else (Option.bind (F39 FUEL x0 x2) fun y7 =>
     Option.bind (F39 FUEL x0 x1) fun y8 =>
     bif (bneb y7.q4 (igt (ofN (List.length x0)) (0))) then
     (some false)
     else (bif (bneb y8.q4 y7.q4) then
      (some false)
      else (bif (!y7.q4) then
       (bif ((steq y7.q0 ByteArray.empty) && ((ieq y7.q1 (0)) && ((ieq y7.q2 (0)) && ((beqb y7.q3 false) && true)))) then
        (bif ((steq y8.q0 y7.q0) && ((ieq y8.q1 y7.q1) && ((ieq y8.q2 y7.q2) && ((beqb y8.q3 y7.q3) && true)))) then
         (Option.bind (F31 FUEL) fun y9 =>
          some y9)
         else (some false))
        else (some false))
       else (F11_c1 n x0 x1 (0) y7.q0 y7.q1 y7.q2 y7.q3 y8.q0 y8.q1 y8.q2 y8.q3))))
def F11_c1 : Nat → List (ByteArray × Int × Int × Bool) → ByteArray → Int → ByteArray → Int → Int → Bool → ByteArray → Int → Int → Bool → Option (Bool)
  | 0, _, _, _, _, _, _, _, _, _, _, _ => none
  | n + 1, x0, x1, x2, x3, x4, x5, x6, x7, x8, x9, x10 => bif (ilt x2 (ofN (List.length x0))) then
    (bif (inb x2 (List.length x0)) then
     (bif (stgt (List.getD x0 (Int.toNat x2) (ByteArray.empty, 0, 0, false)).1 x1) then
      (bif (stle x7 x1) then
       (some false)
       else (bif (inb x2 (List.length x0)) then
        (bif (stlt (List.getD x0 (Int.toNat x2) (ByteArray.empty, 0, 0, false)).1 x7) then
         (some false)
         else (F11_c1 n x0 x1 (iadd .i64 x2 (1)) x3 x4 x5 x6 x7 x8 x9 x10))
        else (none)))
      else (F11_c1 n x0 x1 (iadd .i64 x2 (1)) x3 x4 x5 x6 x7 x8 x9 x10))
     else (none))
    else (bif (inb (0) (List.length x0)) then
     (bif ((steq x3 (List.getD x0 (Int.toNat (0)) (ByteArray.empty, 0, 0, false)).1) && ((ieq x4 (List.getD x0 (Int.toNat (0)) (ByteArray.empty, 0, 0, false)).2.1) && ((ieq x5 (List.getD x0 (Int.toNat (0)) (ByteArray.empty, 0, 0, false)).2.2.1) && ((beqb x6 (List.getD x0 (Int.toNat (0)) (ByteArray.empty, 0, 0, false)).2.2.2) && true)))) then
      (bif (stgt x7 x1) then
       (Option.bind (F31 FUEL) fun y10 =>
        some y10)
       else (bif (inb (0) (List.length x0)) then
        (bif ((steq x7 (List.getD x0 (Int.toNat (0)) (ByteArray.empty, 0, 0, false)).1) && ((ieq x8 (List.getD x0 (Int.toNat (0)) (ByteArray.empty, 0, 0, false)).2.1) && ((ieq x9 (List.getD x0 (Int.toNat (0)) (ByteArray.empty, 0, 0, false)).2.2.1) && ((beqb x10 (List.getD x0 (Int.toNat (0)) (ByteArray.empty, 0, 0, false)).2.2.2) && true)))) then
         (Option.bind (F31 FUEL) fun y11 =>
          some y11)
         else (some false))
        else (none)))
      else (some false))
     else (none))
end
def F11 (n : Nat) (a0 : List (ByteArray × Int × Int × Bool)) (a1 : ByteArray) : Option (Bool) :=
  Option.bind (F30 FUEL a0) fun y1 =>
  bif y1 then
  (Option.bind (F31 FUEL) fun y2 =>
   some y2)
  else (Option.bind (F42 FUEL a0) fun y3 =>
   bif (!y3) then
   (Option.bind (F31 FUEL) fun y4 =>
    some y4)
   else (bif (igt (stlen a1) (100)) then
    (Option.bind (F31 FUEL) fun y5 =>
     some y5)
    else (F11_c0 n a0 a1 ByteArray.empty (0))))

/-! ### garland/garlandlaw20.KeepAll -/
def F12_c0 : Nat → List (ByteArray × Int × Int × Bool) → Int → List (ByteArray × Int × Int × Bool) → Option (Bool)
  | 0, _, _, _ => none
  | n + 1, x0, x1, x2 => bif (ilt x1 (ofN (List.length x0))) then
    (bif (inb x1 (List.length x0)) then
     (Option.bind (F37 FUEL x2 (List.getD x0 (Int.toNat x1) (ByteArray.empty, 0, 0, false)).1) fun y19 =>
      bif (ine y19.q4 (0)) then
      (some false)
      else (bif (inb x1 (List.length x0)) then
       (Option.bind (F48 FUEL (List.getD x0 (Int.toNat x1) (ByteArray.empty, 0, 0, false)).1 (List.getD x0 (Int.toNat x1) (ByteArray.empty, 0, 0, false)).2.1 (List.getD x0 (Int.toNat x1) (ByteArray.empty, 0, 0, false)).2.2.1 (List.getD x0 (Int.toNat x1) (ByteArray.empty, 0, 0, false)).2.2.2 y19.q0 y19.q1 y19.q2 y19.q3) fun y20 =>
        bif y20 then
        (some false)
        else (F12_c0 n x0 (iadd .i64 x1 (1)) x2))
       else (none)))
     else (none))
    else (Option.bind (F31 FUEL) fun y21 =>
     some y21)
def F12 (n : Nat) (a0 : List (ByteArray × Int × Int × Bool)) (a1 : List (ByteArray × Int × Int × Bool)) (a2 : List (ByteArray × Int × Int × Bool)) : Option (Bool) :=
  Option.bind (F30 FUEL a0) fun y1 =>
  bif y1 then
  (Option.bind (F31 FUEL) fun y2 =>
   some y2)
  else (Option.bind (F42 FUEL a0) fun y3 =>
   bif (!y3) then
   (Option.bind (F31 FUEL) fun y4 =>
    some y4)
   else (Option.bind (F30 FUEL a1) fun y5 =>
    bif y5 then
    (Option.bind (F31 FUEL) fun y6 =>
     some y6)
    else (Option.bind (F30 FUEL a2) fun y7 =>
     bif y7 then
     (Option.bind (F31 FUEL) fun y8 =>
      some y8)
     else (bif (igt (ofN (List.length a1)) (20)) then
      (Option.bind (F31 FUEL) fun y9 =>
       some y9)
      else (bif (igt (ofN (List.length a2)) (20)) then
       (Option.bind (F31 FUEL) fun y10 =>
        some y10)
       else (Option.bind (F34 FUEL a0 a1) fun y11 =>
        Option.bind (F34 FUEL y11.2 a2) fun y12 =>
        bif (room (0 + List.length a1) 40) then
        (bif (room (List.length ([] ++ a1) + List.length a2) 40) then
         (Option.bind (F34 FUEL a0 (([] ++ a1) ++ a2)) fun y13 =>
          Option.bind (F36 FUEL y12.2 y13.2) fun y14 =>
          bif (!y14) then
          (some false)
          else (bif (ine y11.1 (0)) then
           (bif (ine y13.1 y11.1) then
            (some false)
            else (bif (ieq y11.1 (0)) then
             (bif (ine y13.1 y12.1) then
              (some false)
              else (Option.bind (F41 FUEL y12.2) fun y15 =>
               bif (!y15) then
               (some false)
               else (bif (ilt (ofN (List.length y12.2)) (ofN (List.length a0))) then
                (some false)
                else (F12_c0 n a0 (0) y12.2))))
             else (Option.bind (F41 FUEL y12.2) fun y16 =>
              bif (!y16) then
              (some false)
              else (bif (ilt (ofN (List.length y12.2)) (ofN (List.length a0))) then
               (some false)
               else (F12_c0 n a0 (0) y12.2)))))
           else (bif (ieq y11.1 (0)) then
            (bif (ine y13.1 y12.1) then
             (some false)
             else (Option.bind (F41 FUEL y12.2) fun y17 =>
              bif (!y17) then
              (some false)
              else (bif (ilt (ofN (List.length y12.2)) (ofN (List.length a0))) then
               (some false)
               else (F12_c0 n a0 (0) y12.2))))
            else (Option.bind (F41 FUEL y12.2) fun y18 =>
             bif (!y18) then
             (some false)
             else (bif (ilt (ofN (List.length y12.2)) (ofN (List.length a0))) then
              (some false)
              else (F12_c0 n a0 (0) y12.2))))))
         else (none))
        else (none)))))))

end Go.Proofs.Ythaomidjgadieaa
