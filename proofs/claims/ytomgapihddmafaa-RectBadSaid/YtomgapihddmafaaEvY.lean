/-
  What the functions of this program compute, in plain words.
-/
import Derived.Test.YtomgapihddmafaaEvR
namespace Go.Proofs.Ytomgapihddmafaa
open Go Go.RowKit
set_option maxRecDepth 100000


/-! ### garland/garlandref15.Great -/
def F8 (_n : Nat) (_a0 : Int) (a1 : List (Int)) (a2 : List (Int)) (_a3 : Int) (_a4 : Int) (_a5 : Int) (_a6 : Int) (_a7 : Int) (_a8 : Int) (_a9 : Int) (_a10 : Int) (_a11 : Int) (_a12 : Int) (_a13 : Int) (_a14 : Int) (_a15 : Int) (_a16 : Int) (_a17 : Int) (_a18 : Int) (_a19 : Int) : Option (Bool) :=
  bif (igt (ofN (List.length a1)) (20)) then
  (some true)
  else (some (igt (ofN (List.length a2)) (20)))

/-! ### garland/garlandref13.place -/
def F34 (_n : Nat) (a0 : Int) : Option (Bool) :=
  bif (ige a0 (0)) then
  (some (ilt a0 (65536)))
  else (some false)

/-! ### garland/garlandref12.place -/
def F50 (_n : Nat) (a0 : Int) : Option (Bool) :=
  bif (ige a0 (0)) then
  (some (ilt a0 (65536)))
  else (some false)

/-! ### garland/garlandref03.Place -/
def F37 (_n : Nat) (a0 : Int) : Option (Int) :=
  bif (inz (65536)) then
  (bif (inz (65536)) then
   (some (irem (iadd .i64 (irem a0 (65536)) (65536)) (65536)))
   else (none))
  else (none)

/-! ### garland/garlandref03.Far -/
def F22 (_n : Nat) (a0 : Int) (a1 : Int) : Option (Int) :=
  Option.bind (F37 FUEL a1) fun y1 =>
  Option.bind (F37 FUEL a0) fun y2 =>
  Option.bind (F37 FUEL (isub .i64 y1 y2)) fun y3 =>
  some y3

/-! ### garland/garlandref12.farther -/
def F51 (_n : Nat) (a0 : Int) (a1 : Int) (a2 : Int) : Option (Bool) :=
  Option.bind (F22 FUEL a0 a2) fun y1 =>
  Option.bind (F22 FUEL a0 a1) fun y2 =>
  some (igt y1 y2)

/-! ### garland/garlandref12.Right -/
def F35_c0 : Nat → Int → List (Int) → Int → Option (Bool)
  | 0, _, _, _ => none
  | n + 1, x0, x1, x2 => bif (ilt x2 (ofN (List.length x1))) then
    (bif (inb x2 (List.length x1)) then
     (Option.bind (F50 FUEL (List.getD x1 (Int.toNat x2) 0)) fun y1 =>
      bif (!y1) then
      (some false)
      else (bif (inb x2 (List.length x1)) then
       (Option.bind (F37 FUEL x0) fun y2 =>
        bif (ieq (List.getD x1 (Int.toNat x2) 0) y2) then
        (some false)
        else (bif (igt x2 (0)) then
         (bif (inb (isub .i64 x2 (1)) (List.length x1)) then
          (bif (inb x2 (List.length x1)) then
           (Option.bind (F51 FUEL x0 (List.getD x1 (Int.toNat (isub .i64 x2 (1))) 0) (List.getD x1 (Int.toNat x2) 0)) fun y3 =>
            bif (!y3) then
            (some false)
            else (F35_c0 n x0 x1 (iadd .i64 x2 (1))))
           else (none))
          else (none))
         else (F35_c0 n x0 x1 (iadd .i64 x2 (1)))))
       else (none)))
     else (none))
    else (some (ile (ofN (List.length x1)) (3)))
def F35 (n : Nat) (a0 : Int) (a1 : List (Int)) : Option (Bool) :=
  F35_c0 n a0 a1 (0)

/-! ### garland/garlandref13.other -/
def F36 (_n : Nat) (a0 : Int) (_a1 : List (Int)) (_a2 : List (Int)) (_a3 : Int) (_a4 : Int) (_a5 : Int) (_a6 : Int) (_a7 : Int) (_a8 : Int) (_a9 : Int) (_a10 : Int) (_a11 : Int) (_a12 : Int) (_a13 : Int) (_a14 : Int) (_a15 : Int) (_a16 : Int) (_a17 : Int) (_a18 : Int) (_a19 : Int) (a20 : Int) : Option (Bool) :=
  bif (ieq a20 (-1)) then
  (some true)
  else (Option.bind (F34 FUEL a20) fun y1 =>
   bif y1 then
   (some (ine a20 a0))
   else (some false))

/-! ### garland/garlandref13.Right -/
mutual
def F21_c0 : Nat → Int → Int → List (Int) → List (Int) → Int → Int → Int → Int → Int → Int → Int → Int → Int → Int → Int → Int → Int → Int → Int → Int → Int → Option (Bool)
  | 0, _, _, _, _, _, _, _, _, _, _, _, _, _, _, _, _, _, _, _, _, _ => none
  | n + 1, x0, x1, x2, x3, x4, x5, x6, x7, x8, x9, x10, x11, x12, x13, x14, x15, x16, x17, x18, x19, x20 => bif (ilt x0 (ofN (List.length x2))) then
    (bif (inb x0 (List.length x2)) then
     (Option.bind (F34 FUEL (List.getD x2 (Int.toNat x0) 0)) fun y4 =>
      bif (!y4) then
      (some false)
      else (bif (igt x0 (0)) then
       (bif (inb x0 (List.length x2)) then
        (bif (inb (isub .i64 x0 (1)) (List.length x2)) then
         (bif (ile (List.getD x2 (Int.toNat x0) 0) (List.getD x2 (Int.toNat (isub .i64 x0 (1))) 0)) then
          (some false)
          else (F21_c0 n (iadd .i64 x0 (1)) x1 x2 x3 x4 x5 x6 x7 x8 x9 x10 x11 x12 x13 x14 x15 x16 x17 x18 x19 x20))
         else (none))
        else (none))
       else (F21_c0 n (iadd .i64 x0 (1)) x1 x2 x3 x4 x5 x6 x7 x8 x9 x10 x11 x12 x13 x14 x15 x16 x17 x18 x19 x20)))
     else (none))
    else (F21_c1 n (0) x1 x2 x3 x4 x5 x6 x7 x8 x9 x10 x11 x12 x13 x14 x15 x16 x17 x18 x19 x20)
def F21_c1 : Nat → Int → Int → List (Int) → List (Int) → Int → Int → Int → Int → Int → Int → Int → Int → Int → Int → Int → Int → Int → Int → Int → Int → Int → Option (Bool)
  | 0, _, _, _, _, _, _, _, _, _, _, _, _, _, _, _, _, _, _, _, _, _ => none
  | n + 1, x0, x1, x2, x3, x4, x5, x6, x7, x8, x9, x10, x11, x12, x13, x14, x15, x16, x17, x18, x19, x20 => bif (ilt x0 (16)) then
    (bif (inb x0 16) then
     (bif (nlt (Int.toNat x0) 16) then
      (Option.bind (F36 FUEL x1 x2 x3 x4 x5 x6 x7 x8 x9 x10 x11 x12 x13 x14 x15 x16 x17 x18 x19 x20 (List.getD [x5, x6, x7, x8, x9, x10, x11, x12, x13, x14, x15, x16, x17, x18, x19, x20] (Int.toNat x0) 0)) fun y5 =>
       bif (!y5) then
       (some false)
       else (F21_c1 n (iadd .i64 x0 (1)) x1 x2 x3 x4 x5 x6 x7 x8 x9 x10 x11 x12 x13 x14 x15 x16 x17 x18 x19 x20))
      else (none))
     else (none))
    else (some true)
end
def F21 (n : Nat) (a0 : Int) (a1 : List (Int)) (a2 : List (Int)) (a3 : Int) (a4 : Int) (a5 : Int) (a6 : Int) (a7 : Int) (a8 : Int) (a9 : Int) (a10 : Int) (a11 : Int) (a12 : Int) (a13 : Int) (a14 : Int) (a15 : Int) (a16 : Int) (a17 : Int) (a18 : Int) (a19 : Int) : Option (Bool) :=
  Option.bind (F34 FUEL a0) fun y1 =>
  bif (!y1) then
  (some false)
  else (bif (ilt (ofN (List.length a1)) (2)) then
   (some false)
   else (bif (igt (ofN (List.length a1)) (4)) then
    (some false)
    else (Option.bind (F35 FUEL a0 a2) fun y2 =>
     bif (!y2) then
     (some false)
     else (Option.bind (F36 FUEL a0 a1 a2 a3 a4 a5 a6 a7 a8 a9 a10 a11 a12 a13 a14 a15 a16 a17 a18 a19 a3) fun y3 =>
      bif (!y3) then
      (some false)
      else (F21_c0 n (0) a0 a1 a2 a3 a4 a5 a6 a7 a8 a9 a10 a11 a12 a13 a14 a15 a16 a17 a18 a19)))))

/-! ### garland/garlandref13.New -/
structure Si19l where
  q0 : Int
  q1 : Int
  q2 : Int
  q3 : Int
  q4 : Int
  q5 : Int
  q6 : Int
  q7 : Int
  q8 : Int
  q9 : Int
  q10 : Int
  q11 : Int
  q12 : Int
  q13 : Int
  q14 : Int
  q15 : Int
  q16 : Int
  q17 : Int
  q18 : Int
  q19 : List (Int)
def F38_c0 : Nat → Int → Int → Int → Int → Int → Int → Int → Int → Int → Int → Int → Int → Int → Int → Int → Int → Int → Int → Int → Int → Int → Int → Int → Int → Int → Int → Int → Int → Int → Int → Int → Int → Int → Int → Int → Int → Int → List (Int) → Option (Si19l)
  | 0, _, _, _, _, _, _, _, _, _, _, _, _, _, _, _, _, _, _, _, _, _, _, _, _, _, _, _, _, _, _, _, _, _, _, _, _, _, _ => none
  | n + 1, x0, x1, x2, x3, x4, x5, x6, x7, x8, x9, x10, x11, x12, x13, x14, x15, x16, x17, x18, x19, x20, x21, x22, x23, x24, x25, x26, x27, x28, x29, x30, x31, x32, x33, x34, x35, x36, x37 => bif (ilt x0 (16)) then
    (bif (inb x0 16) then
     (bif (nlt (Int.toNat x0) 16) then
      (F38_c0 n (iadd .i64 x0 (1)) x1 x2 x3 x4 x5 x6 x7 x8 x9 x10 x11 x12 x13 x14 x15 x16 x17 x18 x19 x20 (List.getD (List.set [x21, x22, x23, x24, x25, x26, x27, x28, x29, x30, x31, x32, x33, x34, x35, x36] (Int.toNat x0) (-1)) 0 0) (List.getD (List.set [x21, x22, x23, x24, x25, x26, x27, x28, x29, x30, x31, x32, x33, x34, x35, x36] (Int.toNat x0) (-1)) 1 0) (List.getD (List.set [x21, x22, x23, x24, x25, x26, x27, x28, x29, x30, x31, x32, x33, x34, x35, x36] (Int.toNat x0) (-1)) 2 0) (List.getD (List.set [x21, x22, x23, x24, x25, x26, x27, x28, x29, x30, x31, x32, x33, x34, x35, x36] (Int.toNat x0) (-1)) 3 0) (List.getD (List.set [x21, x22, x23, x24, x25, x26, x27, x28, x29, x30, x31, x32, x33, x34, x35, x36] (Int.toNat x0) (-1)) 4 0) (List.getD (List.set [x21, x22, x23, x24, x25, x26, x27, x28, x29, x30, x31, x32, x33, x34, x35, x36] (Int.toNat x0) (-1)) 5 0) (List.getD (List.set [x21, x22, x23, x24, x25, x26, x27, x28, x29, x30, x31, x32, x33, x34, x35, x36] (Int.toNat x0) (-1)) 6 0) (List.getD (List.set [x21, x22, x23, x24, x25, x26, x27, x28, x29, x30, x31, x32, x33, x34, x35, x36] (Int.toNat x0) (-1)) 7 0) (List.getD (List.set [x21, x22, x23, x24, x25, x26, x27, x28, x29, x30, x31, x32, x33, x34, x35, x36] (Int.toNat x0) (-1)) 8 0) (List.getD (List.set [x21, x22, x23, x24, x25, x26, x27, x28, x29, x30, x31, x32, x33, x34, x35, x36] (Int.toNat x0) (-1)) 9 0) (List.getD (List.set [x21, x22, x23, x24, x25, x26, x27, x28, x29, x30, x31, x32, x33, x34, x35, x36] (Int.toNat x0) (-1)) 10 0) (List.getD (List.set [x21, x22, x23, x24, x25, x26, x27, x28, x29, x30, x31, x32, x33, x34, x35, x36] (Int.toNat x0) (-1)) 11 0) (List.getD (List.set [x21, x22, x23, x24, x25, x26, x27, x28, x29, x30, x31, x32, x33, x34, x35, x36] (Int.toNat x0) (-1)) 12 0) (List.getD (List.set [x21, x22, x23, x24, x25, x26, x27, x28, x29, x30, x31, x32, x33, x34, x35, x36] (Int.toNat x0) (-1)) 13 0) (List.getD (List.set [x21, x22, x23, x24, x25, x26, x27, x28, x29, x30, x31, x32, x33, x34, x35, x36] (Int.toNat x0) (-1)) 14 0) (List.getD (List.set [x21, x22, x23, x24, x25, x26, x27, x28, x29, x30, x31, x32, x33, x34, x35, x36] (Int.toNat x0) (-1)) 15 0) x37)
      else (none))
     else (none))
    else (Option.bind (F21 FUEL x19 x37 [] x20 x21 x22 x23 x24 x25 x26 x27 x28 x29 x30 x31 x32 x33 x34 x35 x36) fun y1 =>
     bif (!y1) then
     (some ⟨(0), (0), (0), (0), (0), (0), (0), (0), (0), (0), (0), (0), (0), (0), (0), (0), (0), (0), (2), []⟩)
     else (some ⟨x19, x20, x21, x22, x23, x24, x25, x26, x27, x28, x29, x30, x31, x32, x33, x34, x35, x36, (0), x37⟩))
def F38 (n : Nat) (a0 : Int) (a1 : List (Int)) : Option (Si19l) :=
  bif (room (0 + List.length a1) 8) then
  (F38_c0 n (0) (0) (0) (0) (0) (0) (0) (0) (0) (0) (0) (0) (0) (0) (0) (0) (0) (0) (0) a0 (-1) (0) (0) (0) (0) (0) (0) (0) (0) (0) (0) (0) (0) (0) (0) (0) (0) ([] ++ a1))
  else (none)

/-! ### garland/garlandlaw15.nine -/
structure Si18l where
  q0 : Int
  q1 : Int
  q2 : Int
  q3 : Int
  q4 : Int
  q5 : Int
  q6 : Int
  q7 : Int
  q8 : Int
  q9 : Int
  q10 : Int
  q11 : Int
  q12 : Int
  q13 : Int
  q14 : Int
  q15 : Int
  q16 : Int
  q17 : Int
  q18 : List (Int)
def F24 (_n : Nat) : Option (Si18l) :=
  Option.bind (F38 FUEL (9) [(20), (40)]) fun y1 =>
  some ⟨y1.q0, y1.q1, y1.q2, y1.q3, y1.q4, y1.q5, y1.q6, y1.q7, y1.q8, y1.q9, y1.q10, y1.q11, y1.q12, y1.q13, y1.q14, y1.q15, y1.q16, y1.q17, y1.q19⟩

/-! ### slices.Clone[[]int,int] -/
def F46 (_n : Nat) (a0 : List (Int)) : Option ((List (Int))) :=
  bif (List.isEmpty a0) then
  (altE (some [])
   (bif (room (0 + List.length a0) 8) then
    (some ([] ++ a0))
    else (none)))
  else (bif (room (0 + List.length a0) 8) then
   (some ([] ++ a0))
   else (none))

/-! ### garland/view.Own -/
structure Si18l2 where
  q0 : Int
  q1 : Int
  q2 : Int
  q3 : Int
  q4 : Int
  q5 : Int
  q6 : Int
  q7 : Int
  q8 : Int
  q9 : Int
  q10 : Int
  q11 : Int
  q12 : Int
  q13 : Int
  q14 : Int
  q15 : Int
  q16 : Int
  q17 : Int
  q18 : List (Int)
  q19 : List (Int)
def F29 (_n : Nat) (a0 : Int) (a1 : List (Int)) (a2 : List (Int)) (a3 : Int) (a4 : Int) (a5 : Int) (a6 : Int) (a7 : Int) (a8 : Int) (a9 : Int) (a10 : Int) (a11 : Int) (a12 : Int) (a13 : Int) (a14 : Int) (a15 : Int) (a16 : Int) (a17 : Int) (a18 : Int) (a19 : Int) : Option (Si18l2) :=
  Option.bind (F46 FUEL a1) fun y1 =>
  Option.bind (F46 FUEL a2) fun y2 =>
  some ⟨a0, a3, a4, a5, a6, a7, a8, a9, a10, a11, a12, a13, a14, a15, a16, a17, a18, a19, y1, y2⟩

/-! ### garland/rect.isPlace -/
def F44 (_n : Nat) (a0 : Int) : Option (Bool) :=
  bif (ige a0 (0)) then
  (some (ilt a0 (65536)))
  else (some false)

/-! ### garland/arc.Place -/
def F48 (_n : Nat) (a0 : Int) : Option (Int) :=
  some (bits .and .i64 a0 (65535))

/-! ### garland/arc.Far -/
def F54 (_n : Nat) (a0 : Int) (a1 : Int) : Option (Int) :=
  Option.bind (F48 FUEL a1) fun y1 =>
  Option.bind (F48 FUEL a0) fun y2 =>
  Option.bind (F48 FUEL (isub .i64 y1 y2)) fun y3 =>
  some y3

/-! ### garland/arc.In -/
def F45 (_n : Nat) (a0 : Int) (a1 : Int) (a2 : Int) : Option (Bool) :=
  Option.bind (F54 FUEL a0 a1) fun y1 =>
  Option.bind (F54 FUEL a0 a2) fun y2 =>
  bif (ieq y2 (0)) then
  (some (igt y1 (0)))
  else (bif (igt y1 (0)) then
   (some (ilt y1 y2))
   else (some false))

/-! ### garland/view.isPlace -/
def F39 (_n : Nat) (a0 : Int) : Option (Bool) :=
  bif (ige a0 (0)) then
  (some (ilt a0 (65536)))
  else (some false)

/-! ### garland/view.rightBase -/
def F40_c0 : Nat → List (Int) → List (Int) → Int → Int → Option (Bool)
  | 0, _, _, _, _ => none
  | n + 1, x0, x1, x2, x3 => bif (ilt x3 x2) then
    (bif (inb x3 (List.length x1)) then
     (Option.bind (F39 FUEL (List.getD x1 (Int.toNat x3) 0)) fun y1 =>
      bif (!y1) then
      (some false)
      else (bif (igt x3 (0)) then
       (bif (inb (isub .i64 x3 (1)) (List.length x0)) then
        (bif (ile (List.getD x1 (Int.toNat x3) 0) (List.getD x0 (Int.toNat (isub .i64 x3 (1))) 0)) then
         (some false)
         else (F40_c0 n x0 x1 x2 (iadd .i64 x3 (1))))
        else (none))
       else (F40_c0 n x0 x1 x2 (iadd .i64 x3 (1)))))
     else (none))
    else (some true)
def F40 (n : Nat) (a0 : List (Int)) : Option (Bool) :=
  bif (ilt (ofN (List.length a0)) (2)) then
  (some false)
  else (bif (igt (ofN (List.length a0)) (4)) then
   (some false)
   else (F40_c0 n a0 a0 (ofN (List.length a0)) (0)))

/-! ### garland/list.isPlace -/
def F53 (_n : Nat) (a0 : Int) : Option (Bool) :=
  bif (ige a0 (0)) then
  (some (ilt a0 (65536)))
  else (some false)

/-! ### garland/list.Right -/
def F41_c0 : Nat → Int → List (Int) → Int → Int → Int → Bool → Option (Bool)
  | 0, _, _, _, _, _, _ => none
  | n + 1, x0, x1, x2, x3, x4, x5 => bif (ilt x3 x2) then
    (bif (inb x3 (List.length x1)) then
     (Option.bind (F53 FUEL (List.getD x1 (Int.toNat x3) 0)) fun y2 =>
      bif (!y2) then
      (some false)
      else (Option.bind (F54 FUEL x4 (List.getD x1 (Int.toNat x3) 0)) fun y3 =>
       Option.bind (F54 FUEL x4 x0) fun y4 =>
       bif (ile y3 y4) then
       (some false)
       else (F41_c0 n (List.getD x1 (Int.toNat x3) 0) x1 x2 (iadd .i64 x3 (1)) x4 x5)))
     else (none))
    else (some true)
def F41 (n : Nat) (a0 : Int) (a1 : List (Int)) : Option (Bool) :=
  bif (igt (ofN (List.length a1)) (3)) then
  (some false)
  else (Option.bind (F48 FUEL a0) fun y1 =>
   F41_c0 n y1 a1 (ofN (List.length a1)) (0) y1 false)

/-! ### garland/view.Right -/
mutual
def F25_c0 : Nat → Option (Bool)
  | 0 => none
  | _ + 1 => some false
def F25_c1 : Nat → Int → Int → Int → Int → Int → Int → Int → Int → Int → Int → Int → Int → Int → Int → Int → Int → Int → Int → List (Int) → List (Int) → Int → Int → Int → Int → Int → Int → Int → Int → Int → Int → Int → Int → Int → Int → Int → Int → Int → Option (Bool)
  | 0, _, _, _, _, _, _, _, _, _, _, _, _, _, _, _, _, _, _, _, _, _, _, _, _, _, _, _, _, _, _, _, _, _, _, _, _, _ => none
  | n + 1, x0, x1, x2, x3, x4, x5, x6, x7, x8, x9, x10, x11, x12, x13, x14, x15, x16, x17, x18, x19, x20, x21, x22, x23, x24, x25, x26, x27, x28, x29, x30, x31, x32, x33, x34, x35, x36 => bif (ilt x16 (16)) then
    (bif (inb x16 16) then
     (bif (ine (List.getD [x0, x1, x2, x3, x4, x5, x6, x7, x8, x9, x10, x11, x12, x13, x14, x15] (Int.toNat x16) 0) (-1)) then
      (Option.bind (F39 FUEL (List.getD [x0, x1, x2, x3, x4, x5, x6, x7, x8, x9, x10, x11, x12, x13, x14, x15] (Int.toNat x16) 0)) fun y5 =>
       bif (!y5) then
       (F25_c0 n )
       else (bif (ieq (List.getD [x0, x1, x2, x3, x4, x5, x6, x7, x8, x9, x10, x11, x12, x13, x14, x15] (Int.toNat x16) 0) x17) then
        (F25_c0 n )
        else (F25_c1 n x0 x1 x2 x3 x4 x5 x6 x7 x8 x9 x10 x11 x12 x13 x14 x15 (iadd .i64 x16 (1)) x17 x18 x19 x20 x21 x22 x23 x24 x25 x26 x27 x28 x29 x30 x31 x32 x33 x34 x35 x36)))
      else (F25_c1 n x0 x1 x2 x3 x4 x5 x6 x7 x8 x9 x10 x11 x12 x13 x14 x15 (iadd .i64 x16 (1)) x17 x18 x19 x20 x21 x22 x23 x24 x25 x26 x27 x28 x29 x30 x31 x32 x33 x34 x35 x36))
     else (none))
    else (some true)
end
def F25 (n : Nat) (a0 : Int) (a1 : List (Int)) (a2 : List (Int)) (a3 : Int) (a4 : Int) (a5 : Int) (a6 : Int) (a7 : Int) (a8 : Int) (a9 : Int) (a10 : Int) (a11 : Int) (a12 : Int) (a13 : Int) (a14 : Int) (a15 : Int) (a16 : Int) (a17 : Int) (a18 : Int) (a19 : Int) : Option (Bool) :=
  Option.bind (F39 FUEL a0) fun y1 =>
  bif (!y1) then
  (F25_c0 n )
  else (Option.bind (F40 FUEL a1) fun y2 =>
   bif (!y2) then
   (F25_c0 n )
   else (Option.bind (F41 FUEL a0 a2) fun y3 =>
    bif (!y3) then
    (F25_c0 n )
    else (bif (ine a3 (-1)) then
     (Option.bind (F39 FUEL a3) fun y4 =>
      bif (!y4) then
      (F25_c0 n )
      else (bif (ieq a3 a0) then
       (F25_c0 n )
       else (F25_c1 n a4 a5 a6 a7 a8 a9 a10 a11 a12 a13 a14 a15 a16 a17 a18 a19 (0) a0 a1 a2 a3 a4 a5 a6 a7 a8 a9 a10 a11 a12 a13 a14 a15 a16 a17 a18 a19)))
     else (F25_c1 n a4 a5 a6 a7 a8 a9 a10 a11 a12 a13 a14 a15 a16 a17 a18 a19 (0) a0 a1 a2 a3 a4 a5 a6 a7 a8 a9 a10 a11 a12 a13 a14 a15 a16 a17 a18 a19))))

/-! ### garland/rect.Notify -/
mutual
def F15_c0 : Nat → Int → Int → Int → Int → Int → Int → Int → Int → Int → Int → Int → Int → Int → Int → Int → Int → Int → Int → Int → Int → Int → Int → Int → Int → Int → Int → Int → Int → Int → Int → Int → Int → Int → Int → Int → Int → List (Int) → List (Int) → Option (Si18l2)
  | 0, _, _, _, _, _, _, _, _, _, _, _, _, _, _, _, _, _, _, _, _, _, _, _, _, _, _, _, _, _, _, _, _, _, _, _, _, _, _ => none
  | _ + 1, _, _, _, _, _, _, _, _, _, _, _, _, _, _, _, _, _, _, x18, x19, x20, x21, x22, x23, x24, x25, x26, x27, x28, x29, x30, x31, x32, x33, x34, x35, x36, x37 => some ⟨x18, x19, x20, x21, x22, x23, x24, x25, x26, x27, x28, x29, x30, x31, x32, x33, x34, x35, x36, x37⟩
def F15_c1 : Nat → List (Int) → Int → Int → Int → Int → Int → Int → Int → Int → Int → Int → Int → Int → Int → Int → Int → Int → Int → Int → Int → Int → Int → Int → Int → Int → Int → Int → Int → Int → Int → Int → Int → Int → Int → Int → Int → Int → Int → Int → List (Int) → List (Int) → Option (Si18l2)
  | 0, _, _, _, _, _, _, _, _, _, _, _, _, _, _, _, _, _, _, _, _, _, _, _, _, _, _, _, _, _, _, _, _, _, _, _, _, _, _, _, _, _ => none
  | n + 1, x0, x1, x2, x3, x4, x5, x6, x7, x8, x9, x10, x11, x12, x13, x14, x15, x16, x17, x18, x19, x20, x21, x22, x23, x24, x25, x26, x27, x28, x29, x30, x31, x32, x33, x34, x35, x36, x37, x38, x39, x40 => bif (ilt x2 x1) then
    (bif (inb x2 (List.length x0)) then
     (Option.bind (F44 FUEL (List.getD x0 (Int.toNat x2) 0)) fun y3 =>
      bif (!y3) then
      (F15_c1 n x0 x1 (iadd .i64 x2 (1)) x3 x4 x5 x6 x7 x8 x9 x10 x11 x12 x13 x14 x15 x16 x17 x18 x19 x20 x21 x22 x23 x24 x25 x26 x27 x28 x29 x30 x31 x32 x33 x34 x35 x36 x37 x38 x39 x40)
      else (bif (ieq (List.getD x0 (Int.toNat x2) 0) x21) then
       (F15_c1 n x0 x1 (iadd .i64 x2 (1)) x3 x4 x5 x6 x7 x8 x9 x10 x11 x12 x13 x14 x15 x16 x17 x18 x19 x20 x21 x22 x23 x24 x25 x26 x27 x28 x29 x30 x31 x32 x33 x34 x35 x36 x37 x38 x39 x40)
       else (bif (ieq x22 (-1)) then
        (F15_c1 n x0 x1 (iadd .i64 x2 (1)) x3 x4 x5 x6 x7 x8 x9 x10 x11 x12 x13 x14 x15 x16 x17 x18 x19 x20 x21 (List.getD x0 (Int.toNat x2) 0) x23 x24 x25 x26 x27 x28 x29 x30 x31 x32 x33 x34 x35 x36 x37 x38 x39 x40)
        else (Option.bind (F45 FUEL x22 (List.getD x0 (Int.toNat x2) 0) x21) fun y4 =>
         bif y4 then
         (F15_c1 n x0 x1 (iadd .i64 x2 (1)) x3 x4 x5 x6 x7 x8 x9 x10 x11 x12 x13 x14 x15 x16 x17 x18 x19 x20 x21 (List.getD x0 (Int.toNat x2) 0) x23 x24 x25 x26 x27 x28 x29 x30 x31 x32 x33 x34 x35 x36 x37 x38 x39 x40)
         else (F15_c1 n x0 x1 (iadd .i64 x2 (1)) x3 x4 x5 x6 x7 x8 x9 x10 x11 x12 x13 x14 x15 x16 x17 x18 x19 x20 x21 x22 x23 x24 x25 x26 x27 x28 x29 x30 x31 x32 x33 x34 x35 x36 x37 x38 x39 x40)))))
     else (none))
    else (some ⟨x21, x22, x23, x24, x25, x26, x27, x28, x29, x30, x31, x32, x33, x34, x35, x36, x37, x38, x39, x40⟩)
end
def F15 (n : Nat) (a0 : Int) (a1 : List (Int)) (a2 : List (Int)) (a3 : Int) (a4 : Int) (a5 : Int) (a6 : Int) (a7 : Int) (a8 : Int) (a9 : Int) (a10 : Int) (a11 : Int) (a12 : Int) (a13 : Int) (a14 : Int) (a15 : Int) (a16 : Int) (a17 : Int) (a18 : Int) (a19 : Int) (a20 : List (Int)) : Option (Si18l2) :=
  Option.bind (F29 FUEL a0 a1 a2 a3 a4 a5 a6 a7 a8 a9 a10 a11 a12 a13 a14 a15 a16 a17 a18 a19) fun y1 =>
  Option.bind (F25 FUEL a0 a1 a2 a3 a4 a5 a6 a7 a8 a9 a10 a11 a12 a13 a14 a15 a16 a17 a18 a19) fun y2 =>
  bif (!y2) then
  (F15_c0 n (0) (0) (0) (0) (0) (0) (0) (0) (0) (0) (0) (0) (0) (0) (0) (0) (0) (0) y1.q0 y1.q1 y1.q2 y1.q3 y1.q4 y1.q5 y1.q6 y1.q7 y1.q8 y1.q9 y1.q10 y1.q11 y1.q12 y1.q13 y1.q14 y1.q15 y1.q16 y1.q17 y1.q18 y1.q19)
  else (F15_c1 n a20 (ofN (List.length a20)) (0) (0) (0) (0) (0) (0) (0) (0) (0) (0) (0) (0) (0) (0) (0) (0) (0) (0) (0) y1.q0 y1.q1 y1.q2 y1.q3 y1.q4 y1.q5 y1.q6 y1.q7 y1.q8 y1.q9 y1.q10 y1.q11 y1.q12 y1.q13 y1.q14 y1.q15 y1.q16 y1.q17 y1.q18 y1.q19)

/-! ### garland/rect.Asks -/
def F10 (_n : Nat) (a0 : Int) (a1 : List (Int)) (a2 : List (Int)) (a3 : Int) (a4 : Int) (a5 : Int) (a6 : Int) (a7 : Int) (a8 : Int) (a9 : Int) (a10 : Int) (a11 : Int) (a12 : Int) (a13 : Int) (a14 : Int) (a15 : Int) (a16 : Int) (a17 : Int) (a18 : Int) (a19 : Int) : Option (Int × Bool) :=
  Option.bind (F25 FUEL a0 a1 a2 a3 a4 a5 a6 a7 a8 a9 a10 a11 a12 a13 a14 a15 a16 a17 a18 a19) fun y1 =>
  bif (!y1) then
  (some ((0), false))
  else (bif (ieq a3 (-1)) then
   (some ((0), false))
   else (some (a3, true)))

/-! ### slices.Index[[]int,int] -/
def F49_c0 : Nat → List (Int) → Int → Int → Int → Option (Int)
  | 0, _, _, _, _ => none
  | n + 1, x0, x1, x2, x3 => bif (ilt x3 x2) then
    (bif (inb x3 (List.length x0)) then
     (bif (ieq x1 (List.getD x0 (Int.toNat x3) 0)) then
      (some x3)
      else (F49_c0 n x0 x1 x2 (iadd .i64 x3 (1))))
     else (none))
    else (some (-1))
def F49 (n : Nat) (a0 : List (Int)) (a1 : Int) : Option (Int) :=
  F49_c0 n a0 a1 (ofN (List.length a0)) (0)

/-! ### slices.Contains[[]int,int] -/
def F33 (_n : Nat) (a0 : List (Int)) (a1 : Int) : Option (Bool) :=
  Option.bind (F49 FUEL a0 a1) fun y1 =>
  some (ige y1 (0))

/-! ### garland/rect.Gone -/
def F19 (_n : Nat) (a0 : Int) (a1 : List (Int)) (a2 : List (Int)) (a3 : Int) (a4 : Int) (a5 : Int) (a6 : Int) (a7 : Int) (a8 : Int) (a9 : Int) (a10 : Int) (a11 : Int) (a12 : Int) (a13 : Int) (a14 : Int) (a15 : Int) (a16 : Int) (a17 : Int) (a18 : Int) (a19 : Int) (a20 : Int) : Option (Si18l2) :=
  Option.bind (F29 FUEL a0 a1 a2 a3 a4 a5 a6 a7 a8 a9 a10 a11 a12 a13 a14 a15 a16 a17 a18 a19) fun y1 =>
  Option.bind (F25 FUEL a0 a1 a2 a3 a4 a5 a6 a7 a8 a9 a10 a11 a12 a13 a14 a15 a16 a17 a18 a19) fun y2 =>
  bif (!y2) then
  (some ⟨y1.q0, y1.q1, y1.q2, y1.q3, y1.q4, y1.q5, y1.q6, y1.q7, y1.q8, y1.q9, y1.q10, y1.q11, y1.q12, y1.q13, y1.q14, y1.q15, y1.q16, y1.q17, y1.q18, y1.q19⟩)
  else (bif (ine a3 a20) then
   (some ⟨y1.q0, y1.q1, y1.q2, y1.q3, y1.q4, y1.q5, y1.q6, y1.q7, y1.q8, y1.q9, y1.q10, y1.q11, y1.q12, y1.q13, y1.q14, y1.q15, y1.q16, y1.q17, y1.q18, y1.q19⟩)
   else (Option.bind (F33 FUEL a1 a20) fun y3 =>
    bif y3 then
    (some ⟨y1.q0, y1.q1, y1.q2, y1.q3, y1.q4, y1.q5, y1.q6, y1.q7, y1.q8, y1.q9, y1.q10, y1.q11, y1.q12, y1.q13, y1.q14, y1.q15, y1.q16, y1.q17, y1.q18, y1.q19⟩)
    else (some ⟨y1.q0, (-1), y1.q2, y1.q3, y1.q4, y1.q5, y1.q6, y1.q7, y1.q8, y1.q9, y1.q10, y1.q11, y1.q12, y1.q13, y1.q14, y1.q15, y1.q16, y1.q17, y1.q18, y1.q19⟩)))

/-! ### garland/arc.UpTo -/
def F31 (_n : Nat) (a0 : Int) (a1 : Int) (a2 : Int) : Option (Bool) :=
  Option.bind (F45 FUEL a0 a1 a2) fun y1 =>
  bif y1 then
  (some true)
  else (Option.bind (F48 FUEL a1) fun y2 =>
   Option.bind (F48 FUEL a2) fun y3 =>
   some (ieq y2 y3))

/-! ### garland/rect.Owns -/
def F17 (_n : Nat) (a0 : Int) (a1 : List (Int)) (a2 : List (Int)) (a3 : Int) (a4 : Int) (a5 : Int) (a6 : Int) (a7 : Int) (a8 : Int) (a9 : Int) (a10 : Int) (a11 : Int) (a12 : Int) (a13 : Int) (a14 : Int) (a15 : Int) (a16 : Int) (a17 : Int) (a18 : Int) (a19 : Int) (a20 : Int) : Option (Bool) :=
  Option.bind (F25 FUEL a0 a1 a2 a3 a4 a5 a6 a7 a8 a9 a10 a11 a12 a13 a14 a15 a16 a17 a18 a19) fun y1 =>
  bif y1 then
  (bif (ine a3 (-1)) then
   (Option.bind (F31 FUEL a3 a20 a0) fun y2 =>
    some y2)
   else (some false))
  else (some false)

/-! ### garland/rect.Better -/
def F12 (_n : Nat) (a0 : Int) (a1 : List (Int)) (a2 : List (Int)) (a3 : Int) (a4 : Int) (a5 : Int) (a6 : Int) (a7 : Int) (a8 : Int) (a9 : Int) (a10 : Int) (a11 : Int) (a12 : Int) (a13 : Int) (a14 : Int) (a15 : Int) (a16 : Int) (a17 : Int) (a18 : Int) (a19 : Int) (a20 : Int) : Option (Bool) :=
  Option.bind (F25 FUEL a0 a1 a2 a3 a4 a5 a6 a7 a8 a9 a10 a11 a12 a13 a14 a15 a16 a17 a18 a19) fun y1 =>
  bif y1 then
  (Option.bind (F44 FUEL a20) fun y2 =>
   bif (!y2) then
   (some false)
   else (bif (ieq a20 a0) then
    (some false)
    else (bif (ieq a3 (-1)) then
     (some true)
     else (Option.bind (F45 FUEL a3 a20 a0) fun y3 =>
      some y3))))
  else (some false)

/-! ### garland/garlandlaw15.wakes -/
def F9 (_n : Nat) : Option (Bool) :=
  Option.bind (F24 FUEL) fun y1 =>
  Option.bind (F15 FUEL y1.q0 y1.q18 [] y1.q1 y1.q2 y1.q3 y1.q4 y1.q5 y1.q6 y1.q7 y1.q8 y1.q9 y1.q10 y1.q11 y1.q12 y1.q13 y1.q14 y1.q15 y1.q16 y1.q17 [(2), (5), (3), (9), (70000)]) fun y2 =>
  Option.bind (F10 FUEL y2.q0 y2.q18 y2.q19 y2.q1 y2.q2 y2.q3 y2.q4 y2.q5 y2.q6 y2.q7 y2.q8 y2.q9 y2.q10 y2.q11 y2.q12 y2.q13 y2.q14 y2.q15 y2.q16 y2.q17) fun y3 =>
  Option.bind (F24 FUEL) fun y4 =>
  Option.bind (F10 FUEL y4.q0 y4.q18 [] y4.q1 y4.q2 y4.q3 y4.q4 y4.q5 y4.q6 y4.q7 y4.q8 y4.q9 y4.q10 y4.q11 y4.q12 y4.q13 y4.q14 y4.q15 y4.q16 y4.q17) fun y5 =>
  Option.bind (F19 FUEL y2.q0 y2.q18 y2.q19 y2.q1 y2.q2 y2.q3 y2.q4 y2.q5 y2.q6 y2.q7 y2.q8 y2.q9 y2.q10 y2.q11 y2.q12 y2.q13 y2.q14 y2.q15 y2.q16 y2.q17 (5)) fun y6 =>
  Option.bind (F24 FUEL) fun y7 =>
  Option.bind (F15 FUEL y7.q0 y7.q18 [] y7.q1 y7.q2 y7.q3 y7.q4 y7.q5 y7.q6 y7.q7 y7.q8 y7.q9 y7.q10 y7.q11 y7.q12 y7.q13 y7.q14 y7.q15 y7.q16 y7.q17 [(40)]) fun y8 =>
  bif (ieq y2.q1 (5)) then
  (bif (ieq y3.1 (5)) then
   (bif y3.2 then
    (bif (!y5.2) then
     (bif (ieq y6.q1 (-1)) then
      (Option.bind (F19 FUEL y8.q0 y8.q18 y8.q19 y8.q1 y8.q2 y8.q3 y8.q4 y8.q5 y8.q6 y8.q7 y8.q8 y8.q9 y8.q10 y8.q11 y8.q12 y8.q13 y8.q14 y8.q15 y8.q16 y8.q17 (40)) fun y9 =>
       bif (ieq y9.q1 (40)) then
       (Option.bind (F17 FUEL y2.q0 y2.q18 y2.q19 y2.q1 y2.q2 y2.q3 y2.q4 y2.q5 y2.q6 y2.q7 y2.q8 y2.q9 y2.q10 y2.q11 y2.q12 y2.q13 y2.q14 y2.q15 y2.q16 y2.q17 (9)) fun y10 =>
        bif y10 then
        (Option.bind (F17 FUEL y2.q0 y2.q18 y2.q19 y2.q1 y2.q2 y2.q3 y2.q4 y2.q5 y2.q6 y2.q7 y2.q8 y2.q9 y2.q10 y2.q11 y2.q12 y2.q13 y2.q14 y2.q15 y2.q16 y2.q17 (6)) fun y11 =>
         bif y11 then
         (Option.bind (F17 FUEL y2.q0 y2.q18 y2.q19 y2.q1 y2.q2 y2.q3 y2.q4 y2.q5 y2.q6 y2.q7 y2.q8 y2.q9 y2.q10 y2.q11 y2.q12 y2.q13 y2.q14 y2.q15 y2.q16 y2.q17 (5)) fun y12 =>
          bif (!y12) then
          (Option.bind (F24 FUEL) fun y13 =>
           Option.bind (F17 FUEL y13.q0 y13.q18 [] y13.q1 y13.q2 y13.q3 y13.q4 y13.q5 y13.q6 y13.q7 y13.q8 y13.q9 y13.q10 y13.q11 y13.q12 y13.q13 y13.q14 y13.q15 y13.q16 y13.q17 (9)) fun y14 =>
           bif (!y14) then
           (Option.bind (F12 FUEL y2.q0 y2.q18 y2.q19 y2.q1 y2.q2 y2.q3 y2.q4 y2.q5 y2.q6 y2.q7 y2.q8 y2.q9 y2.q10 y2.q11 y2.q12 y2.q13 y2.q14 y2.q15 y2.q16 y2.q17 (6)) fun y15 =>
            bif y15 then
            (Option.bind (F12 FUEL y2.q0 y2.q18 y2.q19 y2.q1 y2.q2 y2.q3 y2.q4 y2.q5 y2.q6 y2.q7 y2.q8 y2.q9 y2.q10 y2.q11 y2.q12 y2.q13 y2.q14 y2.q15 y2.q16 y2.q17 (4)) fun y16 =>
             bif (!y16) then
             (Option.bind (F12 FUEL y2.q0 y2.q18 y2.q19 y2.q1 y2.q2 y2.q3 y2.q4 y2.q5 y2.q6 y2.q7 y2.q8 y2.q9 y2.q10 y2.q11 y2.q12 y2.q13 y2.q14 y2.q15 y2.q16 y2.q17 (9)) fun y17 =>
              bif (!y17) then
              (Option.bind (F12 FUEL y2.q0 y2.q18 y2.q19 y2.q1 y2.q2 y2.q3 y2.q4 y2.q5 y2.q6 y2.q7 y2.q8 y2.q9 y2.q10 y2.q11 y2.q12 y2.q13 y2.q14 y2.q15 y2.q16 y2.q17 (-1)) fun y18 =>
               some (!y18))
              else (some false))
             else (some false))
            else (some false))
           else (some false))
          else (some false))
         else (some false))
        else (some false))
       else (some false))
      else (some false))
     else (some false))
    else (some false))
   else (some false))
  else (some false)

/-! ### garland/garlandref15.Asks -/
def F11 (_n : Nat) (a0 : Int) (a1 : List (Int)) (a2 : List (Int)) (a3 : Int) (a4 : Int) (a5 : Int) (a6 : Int) (a7 : Int) (a8 : Int) (a9 : Int) (a10 : Int) (a11 : Int) (a12 : Int) (a13 : Int) (a14 : Int) (a15 : Int) (a16 : Int) (a17 : Int) (a18 : Int) (a19 : Int) : Option (Int × Bool) :=
  Option.bind (F21 FUEL a0 a1 a2 a3 a4 a5 a6 a7 a8 a9 a10 a11 a12 a13 a14 a15 a16 a17 a18 a19) fun y1 =>
  bif (!y1) then
  (some ((0), false))
  else (bif (ilt a3 (0)) then
   (some ((0), false))
   else (some (a3, true)))

/-! ### garland/garlandref03.In -/
def F27 (_n : Nat) (a0 : Int) (a1 : Int) (a2 : Int) : Option (Bool) :=
  Option.bind (F37 FUEL a0) fun y1 =>
  Option.bind (F37 FUEL a2) fun y2 =>
  bif (ieq y1 y2) then
  (Option.bind (F37 FUEL a1) fun y3 =>
   Option.bind (F37 FUEL a0) fun y4 =>
   some (ine y3 y4))
  else (Option.bind (F22 FUEL a0 a1) fun y5 =>
   bif (igt y5 (0)) then
   (Option.bind (F22 FUEL a0 a1) fun y6 =>
    Option.bind (F22 FUEL a0 a2) fun y7 =>
    some (ilt y6 y7))
   else (some false))

/-! ### garland/garlandref15.Better -/
def F13 (_n : Nat) (a0 : Int) (a1 : List (Int)) (a2 : List (Int)) (a3 : Int) (a4 : Int) (a5 : Int) (a6 : Int) (a7 : Int) (a8 : Int) (a9 : Int) (a10 : Int) (a11 : Int) (a12 : Int) (a13 : Int) (a14 : Int) (a15 : Int) (a16 : Int) (a17 : Int) (a18 : Int) (a19 : Int) (a20 : Int) : Option (Bool) :=
  Option.bind (F21 FUEL a0 a1 a2 a3 a4 a5 a6 a7 a8 a9 a10 a11 a12 a13 a14 a15 a16 a17 a18 a19) fun y1 =>
  bif y1 then
  (bif (ige a20 (0)) then
   (bif (ilt a20 (65536)) then
    (bif (ine a20 a0) then
     (bif (ieq a3 (-1)) then
      (some true)
      else (Option.bind (F27 FUEL a3 a20 a0) fun y2 =>
       some y2))
     else (some false))
    else (some false))
   else (some false))
  else (some false)

/-! ### garland/garlandref13.Own -/
def F23 (_n : Nat) (a0 : Int) (a1 : List (Int)) (a2 : List (Int)) (a3 : Int) (a4 : Int) (a5 : Int) (a6 : Int) (a7 : Int) (a8 : Int) (a9 : Int) (a10 : Int) (a11 : Int) (a12 : Int) (a13 : Int) (a14 : Int) (a15 : Int) (a16 : Int) (a17 : Int) (a18 : Int) (a19 : Int) : Option (Si18l2) :=
  bif (room (0 + List.length a1) 8) then
  (bif (room (0 + List.length a2) 8) then
   (some ⟨a0, a3, a4, a5, a6, a7, a8, a9, a10, a11, a12, a13, a14, a15, a16, a17, a18, a19, ([] ++ a1), ([] ++ a2)⟩)
   else (none))
  else (none)

/-! ### garland/garlandref15.Notify -/
def F16_c0 : Nat → List (Int) → Int → Int → Int → Int → Int → Int → Int → Int → Int → Int → Int → Int → Int → Int → Int → Int → Int → Int → Int → Int → Int → Int → Int → Int → Int → Int → Int → Int → Int → Int → Int → Int → Int → Int → Int → Int → Int → List (Int) → List (Int) → Option (Si18l2)
  | 0, _, _, _, _, _, _, _, _, _, _, _, _, _, _, _, _, _, _, _, _, _, _, _, _, _, _, _, _, _, _, _, _, _, _, _, _, _, _, _, _ => none
  | n + 1, x0, x1, x2, x3, x4, x5, x6, x7, x8, x9, x10, x11, x12, x13, x14, x15, x16, x17, x18, x19, x20, x21, x22, x23, x24, x25, x26, x27, x28, x29, x30, x31, x32, x33, x34, x35, x36, x37, x38, x39 => bif (ilt x1 (ofN (List.length x0))) then
    (bif (inb x1 (List.length x0)) then
     (Option.bind (F13 FUEL x2 x38 x39 x3 x4 x5 x6 x7 x8 x9 x10 x11 x12 x13 x14 x15 x16 x17 x18 x19 (List.getD x0 (Int.toNat x1) 0)) fun y2 =>
      bif y2 then
      (bif (inb x1 (List.length x0)) then
       (F16_c0 n x0 (iadd .i64 x1 (1)) x2 (List.getD x0 (Int.toNat x1) 0) x4 x5 x6 x7 x8 x9 x10 x11 x12 x13 x14 x15 x16 x17 x18 x19 x20 x21 x22 x23 x24 x25 x26 x27 x28 x29 x30 x31 x32 x33 x34 x35 x36 x37 x38 x39)
       else (none))
      else (F16_c0 n x0 (iadd .i64 x1 (1)) x2 x3 x4 x5 x6 x7 x8 x9 x10 x11 x12 x13 x14 x15 x16 x17 x18 x19 x20 x21 x22 x23 x24 x25 x26 x27 x28 x29 x30 x31 x32 x33 x34 x35 x36 x37 x38 x39))
     else (none))
    else (some ⟨x2, x3, x4, x5, x6, x7, x8, x9, x10, x11, x12, x13, x14, x15, x16, x17, x18, x19, x38, x39⟩)
def F16 (n : Nat) (a0 : Int) (a1 : List (Int)) (a2 : List (Int)) (a3 : Int) (a4 : Int) (a5 : Int) (a6 : Int) (a7 : Int) (a8 : Int) (a9 : Int) (a10 : Int) (a11 : Int) (a12 : Int) (a13 : Int) (a14 : Int) (a15 : Int) (a16 : Int) (a17 : Int) (a18 : Int) (a19 : Int) (a20 : List (Int)) : Option (Si18l2) :=
  Option.bind (F23 FUEL a0 a1 a2 a3 a4 a5 a6 a7 a8 a9 a10 a11 a12 a13 a14 a15 a16 a17 a18 a19) fun y1 =>
  F16_c0 n a20 (0) y1.q0 y1.q1 y1.q2 y1.q3 y1.q4 y1.q5 y1.q6 y1.q7 y1.q8 y1.q9 y1.q10 y1.q11 y1.q12 y1.q13 y1.q14 y1.q15 y1.q16 y1.q17 (0) (0) (0) (0) (0) (0) (0) (0) (0) (0) (0) (0) (0) (0) (0) (0) (0) (0) y1.q18 y1.q19

/-! ### garland/garlandref12.Ints -/
def F28_c0 : Nat → List (Int) → List (Int) → Int → Option (Bool)
  | 0, _, _, _ => none
  | n + 1, x0, x1, x2 => bif (ilt x2 (ofN (List.length x0))) then
    (bif (inb x2 (List.length x0)) then
     (bif (inb x2 (List.length x1)) then
      (bif (ine (List.getD x0 (Int.toNat x2) 0) (List.getD x1 (Int.toNat x2) 0)) then
       (some false)
       else (F28_c0 n x0 x1 (iadd .i64 x2 (1))))
      else (none))
     else (none))
    else (some true)
def F28 (n : Nat) (a0 : List (Int)) (a1 : List (Int)) : Option (Bool) :=
  bif (ine (ofN (List.length a0)) (ofN (List.length a1))) then
  (some false)
  else (F28_c0 n a0 a1 (0))

/-! ### garland/garlandref13.Same -/
def F14 (_n : Nat) (a0 : Int) (a1 : List (Int)) (a2 : List (Int)) (a3 : Int) (a4 : Int) (a5 : Int) (a6 : Int) (a7 : Int) (a8 : Int) (a9 : Int) (a10 : Int) (a11 : Int) (a12 : Int) (a13 : Int) (a14 : Int) (a15 : Int) (a16 : Int) (a17 : Int) (a18 : Int) (a19 : Int) (a20 : Int) (a21 : List (Int)) (a22 : List (Int)) (a23 : Int) (a24 : Int) (a25 : Int) (a26 : Int) (a27 : Int) (a28 : Int) (a29 : Int) (a30 : Int) (a31 : Int) (a32 : Int) (a33 : Int) (a34 : Int) (a35 : Int) (a36 : Int) (a37 : Int) (a38 : Int) (a39 : Int) : Option (Bool) :=
  bif (ieq a0 a20) then
  (Option.bind (F28 FUEL a1 a21) fun y1 =>
   bif y1 then
   (Option.bind (F28 FUEL a2 a22) fun y2 =>
    bif y2 then
    (bif (ieq a3 a23) then
     (some ((ieq a4 a24) && ((ieq a5 a25) && ((ieq a6 a26) && ((ieq a7 a27) && ((ieq a8 a28) && ((ieq a9 a29) && ((ieq a10 a30) && ((ieq a11 a31) && ((ieq a12 a32) && ((ieq a13 a33) && ((ieq a14 a34) && ((ieq a15 a35) && ((ieq a16 a36) && ((ieq a17 a37) && ((ieq a18 a38) && ((ieq a19 a39) && true)))))))))))))))))
     else (some false))
    else (some false))
   else (some false))
  else (some false)

/-! ### garland/garlandref03.UpTo -/
def F32 (_n : Nat) (a0 : Int) (a1 : Int) (a2 : Int) : Option (Bool) :=
  Option.bind (F27 FUEL a0 a1 a2) fun y1 =>
  bif y1 then
  (some true)
  else (Option.bind (F37 FUEL a1) fun y2 =>
   Option.bind (F37 FUEL a2) fun y3 =>
   some (ieq y2 y3))

/-! ### garland/garlandref15.Owns -/
def F18 (_n : Nat) (a0 : Int) (a1 : List (Int)) (a2 : List (Int)) (a3 : Int) (a4 : Int) (a5 : Int) (a6 : Int) (a7 : Int) (a8 : Int) (a9 : Int) (a10 : Int) (a11 : Int) (a12 : Int) (a13 : Int) (a14 : Int) (a15 : Int) (a16 : Int) (a17 : Int) (a18 : Int) (a19 : Int) (a20 : Int) : Option (Bool) :=
  Option.bind (F21 FUEL a0 a1 a2 a3 a4 a5 a6 a7 a8 a9 a10 a11 a12 a13 a14 a15 a16 a17 a18 a19) fun y1 =>
  bif y1 then
  (bif (ige a3 (0)) then
   (Option.bind (F32 FUEL a3 a20 a0) fun y2 =>
    some y2)
   else (some false))
  else (some false)

/-! ### garland/garlandref15.Gone -/
def F20_c0 : Nat → Int → Bool → Int → Int → Int → Int → Int → Int → Int → Int → Int → Int → Int → Int → Int → Int → Int → Int → Int → Int → Int → Int → Int → Int → Int → Int → Int → Int → Int → Int → Int → Int → Int → Int → Int → Int → Int → Int → Int → List (Int) → List (Int) → Option (Si18l2)
  | 0, _, _, _, _, _, _, _, _, _, _, _, _, _, _, _, _, _, _, _, _, _, _, _, _, _, _, _, _, _, _, _, _, _, _, _, _, _, _, _, _, _ => none
  | n + 1, x0, x1, x2, x3, x4, x5, x6, x7, x8, x9, x10, x11, x12, x13, x14, x15, x16, x17, x18, x19, x20, x21, x22, x23, x24, x25, x26, x27, x28, x29, x30, x31, x32, x33, x34, x35, x36, x37, x38, x39, x40 => bif (ilt x2 (ofN (List.length x39))) then
    (bif x1 then
     (F20_c0 n x0 true (iadd .i64 x2 (1)) x3 x4 x5 x6 x7 x8 x9 x10 x11 x12 x13 x14 x15 x16 x17 x18 x19 x20 x21 x22 x23 x24 x25 x26 x27 x28 x29 x30 x31 x32 x33 x34 x35 x36 x37 x38 x39 x40)
     else (bif (inb x2 (List.length x39)) then
      (bif (nlt (Int.toNat x2) (List.length x39)) then
       (F20_c0 n x0 (ieq (List.getD x39 (Int.toNat x2) 0) x0) (iadd .i64 x2 (1)) x3 x4 x5 x6 x7 x8 x9 x10 x11 x12 x13 x14 x15 x16 x17 x18 x19 x20 x21 x22 x23 x24 x25 x26 x27 x28 x29 x30 x31 x32 x33 x34 x35 x36 x37 x38 x39 x40)
       else (none))
      else (none)))
    else (Option.bind (F21 FUEL x3 x39 x40 x4 x5 x6 x7 x8 x9 x10 x11 x12 x13 x14 x15 x16 x17 x18 x19 x20) fun y2 =>
     bif y2 then
     (bif (ieq x4 x0) then
      (bif (!x1) then
       (some ⟨x3, (-1), x5, x6, x7, x8, x9, x10, x11, x12, x13, x14, x15, x16, x17, x18, x19, x20, x39, x40⟩)
       else (some ⟨x3, x4, x5, x6, x7, x8, x9, x10, x11, x12, x13, x14, x15, x16, x17, x18, x19, x20, x39, x40⟩))
      else (some ⟨x3, x4, x5, x6, x7, x8, x9, x10, x11, x12, x13, x14, x15, x16, x17, x18, x19, x20, x39, x40⟩))
     else (some ⟨x3, x4, x5, x6, x7, x8, x9, x10, x11, x12, x13, x14, x15, x16, x17, x18, x19, x20, x39, x40⟩))
def F20 (n : Nat) (a0 : Int) (a1 : List (Int)) (a2 : List (Int)) (a3 : Int) (a4 : Int) (a5 : Int) (a6 : Int) (a7 : Int) (a8 : Int) (a9 : Int) (a10 : Int) (a11 : Int) (a12 : Int) (a13 : Int) (a14 : Int) (a15 : Int) (a16 : Int) (a17 : Int) (a18 : Int) (a19 : Int) (a20 : Int) : Option (Si18l2) :=
  Option.bind (F23 FUEL a0 a1 a2 a3 a4 a5 a6 a7 a8 a9 a10 a11 a12 a13 a14 a15 a16 a17 a18 a19) fun y1 =>
  F20_c0 n a20 false (0) y1.q0 y1.q1 y1.q2 y1.q3 y1.q4 y1.q5 y1.q6 y1.q7 y1.q8 y1.q9 y1.q10 y1.q11 y1.q12 y1.q13 y1.q14 y1.q15 y1.q16 y1.q17 (0) (0) (0) (0) (0) (0) (0) (0) (0) (0) (0) (0) (0) (0) (0) (0) (0) (0) y1.q18 y1.q19

/-! ### garland/garlandlaw15.RectTells -/
def F3 (_n : Nat) (a0 : Int) (a1 : List (Int)) (a2 : List (Int)) (a3 : Int) (a4 : Int) (a5 : Int) (a6 : Int) (a7 : Int) (a8 : Int) (a9 : Int) (a10 : Int) (a11 : Int) (a12 : Int) (a13 : Int) (a14 : Int) (a15 : Int) (a16 : Int) (a17 : Int) (a18 : Int) (a19 : Int) (a20 : Int) (a21 : List (Int)) : Option (Bool) :=
  Option.bind (F8 FUEL a0 a1 a2 a3 a4 a5 a6 a7 a8 a9 a10 a11 a12 a13 a14 a15 a16 a17 a18 a19) fun y1 =>
  bif y1 then
  (Option.bind (F9 FUEL) fun y2 =>
   some y2)
  else (bif (igt (ofN (List.length a21)) (60)) then
   (Option.bind (F9 FUEL) fun y3 =>
    some y3)
   else (Option.bind (F10 FUEL a0 a1 a2 a3 a4 a5 a6 a7 a8 a9 a10 a11 a12 a13 a14 a15 a16 a17 a18 a19) fun y4 =>
    Option.bind (F11 FUEL a0 a1 a2 a3 a4 a5 a6 a7 a8 a9 a10 a11 a12 a13 a14 a15 a16 a17 a18 a19) fun y5 =>
    Option.bind (F12 FUEL a0 a1 a2 a3 a4 a5 a6 a7 a8 a9 a10 a11 a12 a13 a14 a15 a16 a17 a18 a19 a20) fun y6 =>
    Option.bind (F13 FUEL a0 a1 a2 a3 a4 a5 a6 a7 a8 a9 a10 a11 a12 a13 a14 a15 a16 a17 a18 a19 a20) fun y7 =>
    bif (beqb y6 y7) then
    (Option.bind (F15 FUEL a0 a1 a2 a3 a4 a5 a6 a7 a8 a9 a10 a11 a12 a13 a14 a15 a16 a17 a18 a19 a21) fun y8 =>
     Option.bind (F16 FUEL a0 a1 a2 a3 a4 a5 a6 a7 a8 a9 a10 a11 a12 a13 a14 a15 a16 a17 a18 a19 a21) fun y9 =>
     Option.bind (F14 FUEL y8.q0 y8.q18 y8.q19 y8.q1 y8.q2 y8.q3 y8.q4 y8.q5 y8.q6 y8.q7 y8.q8 y8.q9 y8.q10 y8.q11 y8.q12 y8.q13 y8.q14 y8.q15 y8.q16 y8.q17 y9.q0 y9.q18 y9.q19 y9.q1 y9.q2 y9.q3 y9.q4 y9.q5 y9.q6 y9.q7 y9.q8 y9.q9 y9.q10 y9.q11 y9.q12 y9.q13 y9.q14 y9.q15 y9.q16 y9.q17) fun y10 =>
     bif y10 then
     (Option.bind (F17 FUEL a0 a1 a2 a3 a4 a5 a6 a7 a8 a9 a10 a11 a12 a13 a14 a15 a16 a17 a18 a19 a20) fun y11 =>
      Option.bind (F18 FUEL a0 a1 a2 a3 a4 a5 a6 a7 a8 a9 a10 a11 a12 a13 a14 a15 a16 a17 a18 a19 a20) fun y12 =>
      bif (beqb y11 y12) then
      (bif (ieq y4.1 y5.1) then
       (bif (beqb y4.2 y5.2) then
        (Option.bind (F19 FUEL a0 a1 a2 a3 a4 a5 a6 a7 a8 a9 a10 a11 a12 a13 a14 a15 a16 a17 a18 a19 a20) fun y13 =>
         Option.bind (F20 FUEL a0 a1 a2 a3 a4 a5 a6 a7 a8 a9 a10 a11 a12 a13 a14 a15 a16 a17 a18 a19 a20) fun y14 =>
         Option.bind (F14 FUEL y13.q0 y13.q18 y13.q19 y13.q1 y13.q2 y13.q3 y13.q4 y13.q5 y13.q6 y13.q7 y13.q8 y13.q9 y13.q10 y13.q11 y13.q12 y13.q13 y13.q14 y13.q15 y13.q16 y13.q17 y14.q0 y14.q18 y14.q19 y14.q1 y14.q2 y14.q3 y14.q4 y14.q5 y14.q6 y14.q7 y14.q8 y14.q9 y14.q10 y14.q11 y14.q12 y14.q13 y14.q14 y14.q15 y14.q16 y14.q17) fun y15 =>
         bif y15 then
         (Option.bind (F9 FUEL) fun y16 =>
          some y16)
         else (some false))
        else (some false))
       else (some false))
      else (some false))
     else (some false))
    else (some false)))

/-! ### garland/garlandlaw15.RectBest -/
def F4_c0 : Nat → List (Int) → Int → Int → Int → List (Int) → List (Int) → Int → Int → Int → Int → Int → Int → Int → Int → Int → Int → Int → Int → Int → Int → Int → Int → Int → List (Int) → Option (Bool)
  | 0, _, _, _, _, _, _, _, _, _, _, _, _, _, _, _, _, _, _, _, _, _, _, _, _ => none
  | n + 1, x0, x1, x2, x3, x4, x5, x6, x7, x8, x9, x10, x11, x12, x13, x14, x15, x16, x17, x18, x19, x20, x21, x22, x23 => bif (ilt x2 (ofN (List.length x0))) then
    (bif (inb x2 (List.length x0)) then
     (bif (room (List.length [(List.getD x0 (Int.toNat x2) 0)] + List.length x23) 8) then
      (bif (inb x2 (List.length x0)) then
       (bif (ige (List.getD x0 (Int.toNat x2) 0) (0)) then
        (bif (inb x2 (List.length x0)) then
         (bif (ilt (List.getD x0 (Int.toNat x2) 0) (65536)) then
          (bif (inb x2 (List.length x0)) then
           (bif (ine (List.getD x0 (Int.toNat x2) 0) x3) then
            (bif (ilt x1 (0)) then
             (bif (inb x2 (List.length x0)) then
              (F4_c0 n x0 (List.getD x0 (Int.toNat x2) 0) (iadd .i64 x2 (1)) x3 x4 x5 x6 x7 x8 x9 x10 x11 x12 x13 x14 x15 x16 x17 x18 x19 x20 x21 x22 ([(List.getD x0 (Int.toNat x2) 0)] ++ x23))
              else (none))
             else (bif (inb x2 (List.length x0)) then
              (Option.bind (F22 FUEL (List.getD x0 (Int.toNat x2) 0) x3) fun y6 =>
               Option.bind (F22 FUEL x1 x3) fun y7 =>
               bif (ilt y6 y7) then
               (bif (inb x2 (List.length x0)) then
                (F4_c0 n x0 (List.getD x0 (Int.toNat x2) 0) (iadd .i64 x2 (1)) x3 x4 x5 x6 x7 x8 x9 x10 x11 x12 x13 x14 x15 x16 x17 x18 x19 x20 x21 x22 ([(List.getD x0 (Int.toNat x2) 0)] ++ x23))
                else (none))
               else (F4_c0 n x0 x1 (iadd .i64 x2 (1)) x3 x4 x5 x6 x7 x8 x9 x10 x11 x12 x13 x14 x15 x16 x17 x18 x19 x20 x21 x22 ([(List.getD x0 (Int.toNat x2) 0)] ++ x23)))
              else (none)))
            else (F4_c0 n x0 x1 (iadd .i64 x2 (1)) x3 x4 x5 x6 x7 x8 x9 x10 x11 x12 x13 x14 x15 x16 x17 x18 x19 x20 x21 x22 ([(List.getD x0 (Int.toNat x2) 0)] ++ x23)))
           else (none))
          else (F4_c0 n x0 x1 (iadd .i64 x2 (1)) x3 x4 x5 x6 x7 x8 x9 x10 x11 x12 x13 x14 x15 x16 x17 x18 x19 x20 x21 x22 ([(List.getD x0 (Int.toNat x2) 0)] ++ x23)))
         else (none))
        else (F4_c0 n x0 x1 (iadd .i64 x2 (1)) x3 x4 x5 x6 x7 x8 x9 x10 x11 x12 x13 x14 x15 x16 x17 x18 x19 x20 x21 x22 ([(List.getD x0 (Int.toNat x2) 0)] ++ x23)))
       else (none))
      else (none))
     else (none))
    else (Option.bind (F23 FUEL x3 x4 x5 x6 x7 x8 x9 x10 x11 x12 x13 x14 x15 x16 x17 x18 x19 x20 x21 x22) fun y8 =>
     Option.bind (F15 FUEL x3 x4 x5 x6 x7 x8 x9 x10 x11 x12 x13 x14 x15 x16 x17 x18 x19 x20 x21 x22 x0) fun y9 =>
     Option.bind (F14 FUEL y9.q0 y9.q18 y9.q19 y9.q1 y9.q2 y9.q3 y9.q4 y9.q5 y9.q6 y9.q7 y9.q8 y9.q9 y9.q10 y9.q11 y9.q12 y9.q13 y9.q14 y9.q15 y9.q16 y9.q17 y8.q0 y8.q18 y8.q19 x1 y8.q2 y8.q3 y8.q4 y8.q5 y8.q6 y8.q7 y8.q8 y8.q9 y8.q10 y8.q11 y8.q12 y8.q13 y8.q14 y8.q15 y8.q16 y8.q17) fun y10 =>
     bif y10 then
     (Option.bind (F15 FUEL x3 x4 x5 x6 x7 x8 x9 x10 x11 x12 x13 x14 x15 x16 x17 x18 x19 x20 x21 x22 x23) fun y11 =>
      Option.bind (F14 FUEL y11.q0 y11.q18 y11.q19 y11.q1 y11.q2 y11.q3 y11.q4 y11.q5 y11.q6 y11.q7 y11.q8 y11.q9 y11.q10 y11.q11 y11.q12 y11.q13 y11.q14 y11.q15 y11.q16 y11.q17 y8.q0 y8.q18 y8.q19 x1 y8.q2 y8.q3 y8.q4 y8.q5 y8.q6 y8.q7 y8.q8 y8.q9 y8.q10 y8.q11 y8.q12 y8.q13 y8.q14 y8.q15 y8.q16 y8.q17) fun y12 =>
      bif y12 then
      (Option.bind (F15 FUEL y9.q0 y9.q18 y9.q19 y9.q1 y9.q2 y9.q3 y9.q4 y9.q5 y9.q6 y9.q7 y9.q8 y9.q9 y9.q10 y9.q11 y9.q12 y9.q13 y9.q14 y9.q15 y9.q16 y9.q17 x0) fun y13 =>
       Option.bind (F14 FUEL y13.q0 y13.q18 y13.q19 y13.q1 y13.q2 y13.q3 y13.q4 y13.q5 y13.q6 y13.q7 y13.q8 y13.q9 y13.q10 y13.q11 y13.q12 y13.q13 y13.q14 y13.q15 y13.q16 y13.q17 y8.q0 y8.q18 y8.q19 x1 y8.q2 y8.q3 y8.q4 y8.q5 y8.q6 y8.q7 y8.q8 y8.q9 y8.q10 y8.q11 y8.q12 y8.q13 y8.q14 y8.q15 y8.q16 y8.q17) fun y14 =>
       bif y14 then
       (Option.bind (F21 FUEL y9.q0 y9.q18 y9.q19 y9.q1 y9.q2 y9.q3 y9.q4 y9.q5 y9.q6 y9.q7 y9.q8 y9.q9 y9.q10 y9.q11 y9.q12 y9.q13 y9.q14 y9.q15 y9.q16 y9.q17) fun y15 =>
        bif y15 then
        (bif (ine y9.q1 x3) then
         (Option.bind (F9 FUEL) fun y16 =>
          some y16)
         else (some false))
        else (some false))
       else (some false))
      else (some false))
     else (some false))
def F4 (n : Nat) (a0 : Int) (a1 : List (Int)) (a2 : List (Int)) (a3 : Int) (a4 : Int) (a5 : Int) (a6 : Int) (a7 : Int) (a8 : Int) (a9 : Int) (a10 : Int) (a11 : Int) (a12 : Int) (a13 : Int) (a14 : Int) (a15 : Int) (a16 : Int) (a17 : Int) (a18 : Int) (a19 : Int) (a20 : List (Int)) : Option (Bool) :=
  Option.bind (F8 FUEL a0 a1 a2 a3 a4 a5 a6 a7 a8 a9 a10 a11 a12 a13 a14 a15 a16 a17 a18 a19) fun y1 =>
  bif y1 then
  (Option.bind (F9 FUEL) fun y2 =>
   some y2)
  else (Option.bind (F21 FUEL a0 a1 a2 a3 a4 a5 a6 a7 a8 a9 a10 a11 a12 a13 a14 a15 a16 a17 a18 a19) fun y3 =>
   bif (!y3) then
   (Option.bind (F9 FUEL) fun y4 =>
    some y4)
   else (bif (igt (ofN (List.length a20)) (60)) then
    (Option.bind (F9 FUEL) fun y5 =>
     some y5)
    else (F4_c0 n a20 a3 (0) a0 a1 a2 a3 a4 a5 a6 a7 a8 a9 a10 a11 a12 a13 a14 a15 a16 a17 a18 a19 [])))

/-! ### garland/garlandlaw15.RectOwns -/
def F5_c0 : Nat → Int → Int → Int → Int → List (Int) → List (Int) → Int → Int → Int → Int → Int → Int → Int → Int → Int → Int → Int → Int → Int → Int → Int → Int → Int → Int → List (Int) → List (Int) → Int → Int → Int → Int → Int → Int → Int → Int → Int → Int → Int → Int → Int → Int → Int → Int → Int → Int → List (Int) → Int → Int → Int → Int → Int → Int → Int → Int → Int → Int → Int → Int → Int → Int → Int → Int → Int → Option (Bool)
  | 0, _, _, _, _, _, _, _, _, _, _, _, _, _, _, _, _, _, _, _, _, _, _, _, _, _, _, _, _, _, _, _, _, _, _, _, _, _, _, _, _, _, _, _, _, _, _, _, _, _, _, _, _, _, _, _, _, _, _, _, _, _, _ => none
  | n + 1, x0, x1, x2, x3, x4, x5, x6, x7, x8, x9, x10, x11, x12, x13, x14, x15, x16, x17, x18, x19, x20, x21, x22, x23, x24, x25, x26, x27, x28, x29, x30, x31, x32, x33, x34, x35, x36, x37, x38, x39, x40, x41, x42, x43, x44, x45, x46, x47, x48, x49, x50, x51, x52, x53, x54, x55, x56, x57, x58, x59, x60, x61 => bif (ilt x2 (16)) then
    (bif (inb x2 16) then
     (bif (nlt (Int.toNat x2) 16) then
      (F5_c0 n x0 x1 (iadd .i64 x2 (1)) x3 x4 x5 x6 x7 x8 x9 x10 x11 x12 x13 x14 x15 x16 x17 x18 x19 x20 x21 x22 x23 x24 x25 x26 x27 x28 x29 x30 x31 x32 x33 x34 x35 x36 x37 x38 x39 x40 x41 x42 x43 x44 x45 (List.getD (List.set [x46, x47, x48, x49, x50, x51, x52, x53, x54, x55, x56, x57, x58, x59, x60, x61] (Int.toNat x2) (-1)) 0 0) (List.getD (List.set [x46, x47, x48, x49, x50, x51, x52, x53, x54, x55, x56, x57, x58, x59, x60, x61] (Int.toNat x2) (-1)) 1 0) (List.getD (List.set [x46, x47, x48, x49, x50, x51, x52, x53, x54, x55, x56, x57, x58, x59, x60, x61] (Int.toNat x2) (-1)) 2 0) (List.getD (List.set [x46, x47, x48, x49, x50, x51, x52, x53, x54, x55, x56, x57, x58, x59, x60, x61] (Int.toNat x2) (-1)) 3 0) (List.getD (List.set [x46, x47, x48, x49, x50, x51, x52, x53, x54, x55, x56, x57, x58, x59, x60, x61] (Int.toNat x2) (-1)) 4 0) (List.getD (List.set [x46, x47, x48, x49, x50, x51, x52, x53, x54, x55, x56, x57, x58, x59, x60, x61] (Int.toNat x2) (-1)) 5 0) (List.getD (List.set [x46, x47, x48, x49, x50, x51, x52, x53, x54, x55, x56, x57, x58, x59, x60, x61] (Int.toNat x2) (-1)) 6 0) (List.getD (List.set [x46, x47, x48, x49, x50, x51, x52, x53, x54, x55, x56, x57, x58, x59, x60, x61] (Int.toNat x2) (-1)) 7 0) (List.getD (List.set [x46, x47, x48, x49, x50, x51, x52, x53, x54, x55, x56, x57, x58, x59, x60, x61] (Int.toNat x2) (-1)) 8 0) (List.getD (List.set [x46, x47, x48, x49, x50, x51, x52, x53, x54, x55, x56, x57, x58, x59, x60, x61] (Int.toNat x2) (-1)) 9 0) (List.getD (List.set [x46, x47, x48, x49, x50, x51, x52, x53, x54, x55, x56, x57, x58, x59, x60, x61] (Int.toNat x2) (-1)) 10 0) (List.getD (List.set [x46, x47, x48, x49, x50, x51, x52, x53, x54, x55, x56, x57, x58, x59, x60, x61] (Int.toNat x2) (-1)) 11 0) (List.getD (List.set [x46, x47, x48, x49, x50, x51, x52, x53, x54, x55, x56, x57, x58, x59, x60, x61] (Int.toNat x2) (-1)) 12 0) (List.getD (List.set [x46, x47, x48, x49, x50, x51, x52, x53, x54, x55, x56, x57, x58, x59, x60, x61] (Int.toNat x2) (-1)) 13 0) (List.getD (List.set [x46, x47, x48, x49, x50, x51, x52, x53, x54, x55, x56, x57, x58, x59, x60, x61] (Int.toNat x2) (-1)) 14 0) (List.getD (List.set [x46, x47, x48, x49, x50, x51, x52, x53, x54, x55, x56, x57, x58, x59, x60, x61] (Int.toNat x2) (-1)) 15 0))
      else (none))
     else (none))
    else (Option.bind (F17 FUEL x23 x24 x25 x26 x27 x28 x29 x30 x31 x32 x33 x34 x35 x36 x37 x38 x39 x40 x41 x42 x1) fun y10 =>
     Option.bind (F17 FUEL x43 x44 [] x45 x46 x47 x48 x49 x50 x51 x52 x53 x54 x55 x56 x57 x58 x59 x60 x61 x1) fun y11 =>
     bif (beqb y10 y11) then
     (some false)
     else (Option.bind (F15 FUEL x3 x4 x5 x6 x7 x8 x9 x10 x11 x12 x13 x14 x15 x16 x17 x18 x19 x20 x21 x22 [x0]) fun y12 =>
      bif (ilt x6 (0)) then
      (Option.bind (F17 FUEL y12.q0 y12.q18 y12.q19 y12.q1 y12.q2 y12.q3 y12.q4 y12.q5 y12.q6 y12.q7 y12.q8 y12.q9 y12.q10 y12.q11 y12.q12 y12.q13 y12.q14 y12.q15 y12.q16 y12.q17 x3) fun y13 =>
       bif y13 then
       (Option.bind (F9 FUEL) fun y14 =>
        some y14)
       else (some false))
      else (Option.bind (F17 FUEL y12.q0 y12.q18 y12.q19 y12.q1 y12.q2 y12.q3 y12.q4 y12.q5 y12.q6 y12.q7 y12.q8 y12.q9 y12.q10 y12.q11 y12.q12 y12.q13 y12.q14 y12.q15 y12.q16 y12.q17 x1) fun y15 =>
       bif (!y15) then
       (Option.bind (F17 FUEL y12.q0 y12.q18 y12.q19 y12.q1 y12.q2 y12.q3 y12.q4 y12.q5 y12.q6 y12.q7 y12.q8 y12.q9 y12.q10 y12.q11 y12.q12 y12.q13 y12.q14 y12.q15 y12.q16 y12.q17 x3) fun y16 =>
        bif y16 then
        (Option.bind (F9 FUEL) fun y17 =>
         some y17)
        else (some false))
       else (Option.bind (F17 FUEL x3 x4 x5 x6 x7 x8 x9 x10 x11 x12 x13 x14 x15 x16 x17 x18 x19 x20 x21 x22 x1) fun y18 =>
        bif y18 then
        (Option.bind (F17 FUEL y12.q0 y12.q18 y12.q19 y12.q1 y12.q2 y12.q3 y12.q4 y12.q5 y12.q6 y12.q7 y12.q8 y12.q9 y12.q10 y12.q11 y12.q12 y12.q13 y12.q14 y12.q15 y12.q16 y12.q17 x3) fun y19 =>
         bif y19 then
         (Option.bind (F9 FUEL) fun y20 =>
          some y20)
         else (some false))
        else (some false)))))
def F5 (n : Nat) (a0 : Int) (a1 : List (Int)) (a2 : List (Int)) (a3 : Int) (a4 : Int) (a5 : Int) (a6 : Int) (a7 : Int) (a8 : Int) (a9 : Int) (a10 : Int) (a11 : Int) (a12 : Int) (a13 : Int) (a14 : Int) (a15 : Int) (a16 : Int) (a17 : Int) (a18 : Int) (a19 : Int) (a20 : Int) (a21 : Int) : Option (Bool) :=
  Option.bind (F8 FUEL a0 a1 a2 a3 a4 a5 a6 a7 a8 a9 a10 a11 a12 a13 a14 a15 a16 a17 a18 a19) fun y1 =>
  bif y1 then
  (Option.bind (F9 FUEL) fun y2 =>
   some y2)
  else (Option.bind (F21 FUEL a0 a1 a2 a3 a4 a5 a6 a7 a8 a9 a10 a11 a12 a13 a14 a15 a16 a17 a18 a19) fun y3 =>
   bif (!y3) then
   (Option.bind (F9 FUEL) fun y4 =>
    some y4)
   else (bif (ilt a20 (0)) then
    (Option.bind (F9 FUEL) fun y5 =>
     some y5)
    else (bif (ige a20 (65536)) then
     (Option.bind (F9 FUEL) fun y6 =>
      some y6)
     else (bif (ieq a20 a0) then
      (Option.bind (F9 FUEL) fun y7 =>
       some y7)
      else (Option.bind (F23 FUEL a0 a1 a2 a3 a4 a5 a6 a7 a8 a9 a10 a11 a12 a13 a14 a15 a16 a17 a18 a19) fun y8 =>
       Option.bind (F23 FUEL a0 a1 a2 a3 a4 a5 a6 a7 a8 a9 a10 a11 a12 a13 a14 a15 a16 a17 a18 a19) fun y9 =>
       F5_c0 n a20 a21 (0) a0 a1 a2 a3 a4 a5 a6 a7 a8 a9 a10 a11 a12 a13 a14 a15 a16 a17 a18 a19 y8.q0 y8.q18 y8.q19 a20 y8.q2 y8.q3 y8.q4 y8.q5 y8.q6 y8.q7 y8.q8 y8.q9 y8.q10 y8.q11 y8.q12 y8.q13 y8.q14 y8.q15 y8.q16 y8.q17 a20 y9.q18 a0 y9.q2 y9.q3 y9.q4 y9.q5 y9.q6 y9.q7 y9.q8 y9.q9 y9.q10 y9.q11 y9.q12 y9.q13 y9.q14 y9.q15 y9.q16 y9.q17)))))

/-! ### garland/garlandlaw15.RectGone -/
def F6_c0 : Nat → Int → Int → Bool → Int → Int → List (Int) → List (Int) → Int → Int → Int → Int → Int → Int → Int → Int → Int → Int → Int → Int → Int → Int → Int → Int → Int → Option (Bool)
  | 0, _, _, _, _, _, _, _, _, _, _, _, _, _, _, _, _, _, _, _, _, _, _, _, _ => none
  | n + 1, x0, x1, x2, x3, x4, x5, x6, x7, x8, x9, x10, x11, x12, x13, x14, x15, x16, x17, x18, x19, x20, x21, x22, x23 => bif (ilt x3 (ofN (List.length x5))) then
    (bif x2 then
     (F6_c0 n x0 x1 true (iadd .i64 x3 (1)) x4 x5 x6 x7 x8 x9 x10 x11 x12 x13 x14 x15 x16 x17 x18 x19 x20 x21 x22 x23)
     else (bif (inb x3 (List.length x5)) then
      (F6_c0 n x0 x1 (ieq (List.getD x5 (Int.toNat x3) 0) x0) (iadd .i64 x3 (1)) x4 x5 x6 x7 x8 x9 x10 x11 x12 x13 x14 x15 x16 x17 x18 x19 x20 x21 x22 x23)
      else (none)))
    else (Option.bind (F19 FUEL x4 x5 x6 x7 x8 x9 x10 x11 x12 x13 x14 x15 x16 x17 x18 x19 x20 x21 x22 x23 x0) fun y5 =>
     Option.bind (F23 FUEL y5.q0 y5.q18 y5.q19 y5.q1 y5.q2 y5.q3 y5.q4 y5.q5 y5.q6 y5.q7 y5.q8 y5.q9 y5.q10 y5.q11 y5.q12 y5.q13 y5.q14 y5.q15 y5.q16 y5.q17) fun y6 =>
     Option.bind (F14 FUEL y6.q0 y6.q18 y6.q19 x7 y6.q2 y6.q3 y6.q4 y6.q5 y6.q6 y6.q7 y6.q8 y6.q9 y6.q10 y6.q11 y6.q12 y6.q13 y6.q14 y6.q15 y6.q16 y6.q17 x4 x5 x6 x7 x8 x9 x10 x11 x12 x13 x14 x15 x16 x17 x18 x19 x20 x21 x22 x23) fun y7 =>
     bif (!y7) then
     (some false)
     else (bif (ine y5.q1 x7) then
      (bif (ine y5.q1 (-1)) then
       (some false)
       else (bif (ine x7 x0) then
        (some false)
        else (bif x2 then
         (some false)
         else (bif (ieq y5.q1 x0) then
          (bif (ige x0 (0)) then
           (bif (!x2) then
            (some false)
            else (Option.bind (F15 FUEL y5.q0 y5.q18 y5.q19 y5.q1 y5.q2 y5.q3 y5.q4 y5.q5 y5.q6 y5.q7 y5.q8 y5.q9 y5.q10 y5.q11 y5.q12 y5.q13 y5.q14 y5.q15 y5.q16 y5.q17 [x1]) fun y8 =>
             bif (ige y5.q1 (0)) then
             (Option.bind (F21 FUEL y5.q0 y5.q18 y5.q19 y5.q1 y5.q2 y5.q3 y5.q4 y5.q5 y5.q6 y5.q7 y5.q8 y5.q9 y5.q10 y5.q11 y5.q12 y5.q13 y5.q14 y5.q15 y5.q16 y5.q17) fun y9 =>
              bif y9 then
              (Option.bind (F9 FUEL) fun y10 =>
               some y10)
              else (some false))
             else (bif (ilt x1 (0)) then
              (Option.bind (F21 FUEL y5.q0 y5.q18 y5.q19 y5.q1 y5.q2 y5.q3 y5.q4 y5.q5 y5.q6 y5.q7 y5.q8 y5.q9 y5.q10 y5.q11 y5.q12 y5.q13 y5.q14 y5.q15 y5.q16 y5.q17) fun y11 =>
               bif y11 then
               (Option.bind (F9 FUEL) fun y12 =>
                some y12)
               else (some false))
              else (bif (ige x1 (65536)) then
               (Option.bind (F21 FUEL y5.q0 y5.q18 y5.q19 y5.q1 y5.q2 y5.q3 y5.q4 y5.q5 y5.q6 y5.q7 y5.q8 y5.q9 y5.q10 y5.q11 y5.q12 y5.q13 y5.q14 y5.q15 y5.q16 y5.q17) fun y13 =>
                bif y13 then
                (Option.bind (F9 FUEL) fun y14 =>
                 some y14)
                else (some false))
               else (bif (ieq x1 x4) then
                (Option.bind (F21 FUEL y5.q0 y5.q18 y5.q19 y5.q1 y5.q2 y5.q3 y5.q4 y5.q5 y5.q6 y5.q7 y5.q8 y5.q9 y5.q10 y5.q11 y5.q12 y5.q13 y5.q14 y5.q15 y5.q16 y5.q17) fun y15 =>
                 bif y15 then
                 (Option.bind (F9 FUEL) fun y16 =>
                  some y16)
                 else (some false))
                else (bif (ieq y8.q1 x1) then
                 (Option.bind (F21 FUEL y5.q0 y5.q18 y5.q19 y5.q1 y5.q2 y5.q3 y5.q4 y5.q5 y5.q6 y5.q7 y5.q8 y5.q9 y5.q10 y5.q11 y5.q12 y5.q13 y5.q14 y5.q15 y5.q16 y5.q17) fun y17 =>
                  bif y17 then
                  (Option.bind (F9 FUEL) fun y18 =>
                   some y18)
                  else (some false))
                 else (some false)))))))
           else (Option.bind (F15 FUEL y5.q0 y5.q18 y5.q19 y5.q1 y5.q2 y5.q3 y5.q4 y5.q5 y5.q6 y5.q7 y5.q8 y5.q9 y5.q10 y5.q11 y5.q12 y5.q13 y5.q14 y5.q15 y5.q16 y5.q17 [x1]) fun y19 =>
            bif (ige y5.q1 (0)) then
            (Option.bind (F21 FUEL y5.q0 y5.q18 y5.q19 y5.q1 y5.q2 y5.q3 y5.q4 y5.q5 y5.q6 y5.q7 y5.q8 y5.q9 y5.q10 y5.q11 y5.q12 y5.q13 y5.q14 y5.q15 y5.q16 y5.q17) fun y20 =>
             bif y20 then
             (Option.bind (F9 FUEL) fun y21 =>
              some y21)
             else (some false))
            else (bif (ilt x1 (0)) then
             (Option.bind (F21 FUEL y5.q0 y5.q18 y5.q19 y5.q1 y5.q2 y5.q3 y5.q4 y5.q5 y5.q6 y5.q7 y5.q8 y5.q9 y5.q10 y5.q11 y5.q12 y5.q13 y5.q14 y5.q15 y5.q16 y5.q17) fun y22 =>
              bif y22 then
              (Option.bind (F9 FUEL) fun y23 =>
               some y23)
              else (some false))
             else (bif (ige x1 (65536)) then
              (Option.bind (F21 FUEL y5.q0 y5.q18 y5.q19 y5.q1 y5.q2 y5.q3 y5.q4 y5.q5 y5.q6 y5.q7 y5.q8 y5.q9 y5.q10 y5.q11 y5.q12 y5.q13 y5.q14 y5.q15 y5.q16 y5.q17) fun y24 =>
               bif y24 then
               (Option.bind (F9 FUEL) fun y25 =>
                some y25)
               else (some false))
              else (bif (ieq x1 x4) then
               (Option.bind (F21 FUEL y5.q0 y5.q18 y5.q19 y5.q1 y5.q2 y5.q3 y5.q4 y5.q5 y5.q6 y5.q7 y5.q8 y5.q9 y5.q10 y5.q11 y5.q12 y5.q13 y5.q14 y5.q15 y5.q16 y5.q17) fun y26 =>
                bif y26 then
                (Option.bind (F9 FUEL) fun y27 =>
                 some y27)
                else (some false))
               else (bif (ieq y19.q1 x1) then
                (Option.bind (F21 FUEL y5.q0 y5.q18 y5.q19 y5.q1 y5.q2 y5.q3 y5.q4 y5.q5 y5.q6 y5.q7 y5.q8 y5.q9 y5.q10 y5.q11 y5.q12 y5.q13 y5.q14 y5.q15 y5.q16 y5.q17) fun y28 =>
                 bif y28 then
                 (Option.bind (F9 FUEL) fun y29 =>
                  some y29)
                 else (some false))
                else (some false)))))))
          else (Option.bind (F15 FUEL y5.q0 y5.q18 y5.q19 y5.q1 y5.q2 y5.q3 y5.q4 y5.q5 y5.q6 y5.q7 y5.q8 y5.q9 y5.q10 y5.q11 y5.q12 y5.q13 y5.q14 y5.q15 y5.q16 y5.q17 [x1]) fun y30 =>
           bif (ige y5.q1 (0)) then
           (Option.bind (F21 FUEL y5.q0 y5.q18 y5.q19 y5.q1 y5.q2 y5.q3 y5.q4 y5.q5 y5.q6 y5.q7 y5.q8 y5.q9 y5.q10 y5.q11 y5.q12 y5.q13 y5.q14 y5.q15 y5.q16 y5.q17) fun y31 =>
            bif y31 then
            (Option.bind (F9 FUEL) fun y32 =>
             some y32)
            else (some false))
           else (bif (ilt x1 (0)) then
            (Option.bind (F21 FUEL y5.q0 y5.q18 y5.q19 y5.q1 y5.q2 y5.q3 y5.q4 y5.q5 y5.q6 y5.q7 y5.q8 y5.q9 y5.q10 y5.q11 y5.q12 y5.q13 y5.q14 y5.q15 y5.q16 y5.q17) fun y33 =>
             bif y33 then
             (Option.bind (F9 FUEL) fun y34 =>
              some y34)
             else (some false))
            else (bif (ige x1 (65536)) then
             (Option.bind (F21 FUEL y5.q0 y5.q18 y5.q19 y5.q1 y5.q2 y5.q3 y5.q4 y5.q5 y5.q6 y5.q7 y5.q8 y5.q9 y5.q10 y5.q11 y5.q12 y5.q13 y5.q14 y5.q15 y5.q16 y5.q17) fun y35 =>
              bif y35 then
              (Option.bind (F9 FUEL) fun y36 =>
               some y36)
              else (some false))
             else (bif (ieq x1 x4) then
              (Option.bind (F21 FUEL y5.q0 y5.q18 y5.q19 y5.q1 y5.q2 y5.q3 y5.q4 y5.q5 y5.q6 y5.q7 y5.q8 y5.q9 y5.q10 y5.q11 y5.q12 y5.q13 y5.q14 y5.q15 y5.q16 y5.q17) fun y37 =>
               bif y37 then
               (Option.bind (F9 FUEL) fun y38 =>
                some y38)
               else (some false))
              else (bif (ieq y30.q1 x1) then
               (Option.bind (F21 FUEL y5.q0 y5.q18 y5.q19 y5.q1 y5.q2 y5.q3 y5.q4 y5.q5 y5.q6 y5.q7 y5.q8 y5.q9 y5.q10 y5.q11 y5.q12 y5.q13 y5.q14 y5.q15 y5.q16 y5.q17) fun y39 =>
                bif y39 then
                (Option.bind (F9 FUEL) fun y40 =>
                 some y40)
                else (some false))
               else (some false))))))))))
      else (bif (ieq y5.q1 x0) then
       (bif (ige x0 (0)) then
        (bif (!x2) then
         (some false)
         else (Option.bind (F15 FUEL y5.q0 y5.q18 y5.q19 y5.q1 y5.q2 y5.q3 y5.q4 y5.q5 y5.q6 y5.q7 y5.q8 y5.q9 y5.q10 y5.q11 y5.q12 y5.q13 y5.q14 y5.q15 y5.q16 y5.q17 [x1]) fun y41 =>
          bif (ige y5.q1 (0)) then
          (Option.bind (F21 FUEL y5.q0 y5.q18 y5.q19 y5.q1 y5.q2 y5.q3 y5.q4 y5.q5 y5.q6 y5.q7 y5.q8 y5.q9 y5.q10 y5.q11 y5.q12 y5.q13 y5.q14 y5.q15 y5.q16 y5.q17) fun y42 =>
           bif y42 then
           (Option.bind (F9 FUEL) fun y43 =>
            some y43)
           else (some false))
          else (bif (ilt x1 (0)) then
           (Option.bind (F21 FUEL y5.q0 y5.q18 y5.q19 y5.q1 y5.q2 y5.q3 y5.q4 y5.q5 y5.q6 y5.q7 y5.q8 y5.q9 y5.q10 y5.q11 y5.q12 y5.q13 y5.q14 y5.q15 y5.q16 y5.q17) fun y44 =>
            bif y44 then
            (Option.bind (F9 FUEL) fun y45 =>
             some y45)
            else (some false))
           else (bif (ige x1 (65536)) then
            (Option.bind (F21 FUEL y5.q0 y5.q18 y5.q19 y5.q1 y5.q2 y5.q3 y5.q4 y5.q5 y5.q6 y5.q7 y5.q8 y5.q9 y5.q10 y5.q11 y5.q12 y5.q13 y5.q14 y5.q15 y5.q16 y5.q17) fun y46 =>
             bif y46 then
             (Option.bind (F9 FUEL) fun y47 =>
              some y47)
             else (some false))
            else (bif (ieq x1 x4) then
             (Option.bind (F21 FUEL y5.q0 y5.q18 y5.q19 y5.q1 y5.q2 y5.q3 y5.q4 y5.q5 y5.q6 y5.q7 y5.q8 y5.q9 y5.q10 y5.q11 y5.q12 y5.q13 y5.q14 y5.q15 y5.q16 y5.q17) fun y48 =>
              bif y48 then
              (Option.bind (F9 FUEL) fun y49 =>
               some y49)
              else (some false))
             else (bif (ieq y41.q1 x1) then
              (Option.bind (F21 FUEL y5.q0 y5.q18 y5.q19 y5.q1 y5.q2 y5.q3 y5.q4 y5.q5 y5.q6 y5.q7 y5.q8 y5.q9 y5.q10 y5.q11 y5.q12 y5.q13 y5.q14 y5.q15 y5.q16 y5.q17) fun y50 =>
               bif y50 then
               (Option.bind (F9 FUEL) fun y51 =>
                some y51)
               else (some false))
              else (some false)))))))
        else (Option.bind (F15 FUEL y5.q0 y5.q18 y5.q19 y5.q1 y5.q2 y5.q3 y5.q4 y5.q5 y5.q6 y5.q7 y5.q8 y5.q9 y5.q10 y5.q11 y5.q12 y5.q13 y5.q14 y5.q15 y5.q16 y5.q17 [x1]) fun y52 =>
         bif (ige y5.q1 (0)) then
         (Option.bind (F21 FUEL y5.q0 y5.q18 y5.q19 y5.q1 y5.q2 y5.q3 y5.q4 y5.q5 y5.q6 y5.q7 y5.q8 y5.q9 y5.q10 y5.q11 y5.q12 y5.q13 y5.q14 y5.q15 y5.q16 y5.q17) fun y53 =>
          bif y53 then
          (Option.bind (F9 FUEL) fun y54 =>
           some y54)
          else (some false))
         else (bif (ilt x1 (0)) then
          (Option.bind (F21 FUEL y5.q0 y5.q18 y5.q19 y5.q1 y5.q2 y5.q3 y5.q4 y5.q5 y5.q6 y5.q7 y5.q8 y5.q9 y5.q10 y5.q11 y5.q12 y5.q13 y5.q14 y5.q15 y5.q16 y5.q17) fun y55 =>
           bif y55 then
           (Option.bind (F9 FUEL) fun y56 =>
            some y56)
           else (some false))
          else (bif (ige x1 (65536)) then
           (Option.bind (F21 FUEL y5.q0 y5.q18 y5.q19 y5.q1 y5.q2 y5.q3 y5.q4 y5.q5 y5.q6 y5.q7 y5.q8 y5.q9 y5.q10 y5.q11 y5.q12 y5.q13 y5.q14 y5.q15 y5.q16 y5.q17) fun y57 =>
            bif y57 then
            (Option.bind (F9 FUEL) fun y58 =>
             some y58)
            else (some false))
           else (bif (ieq x1 x4) then
            (Option.bind (F21 FUEL y5.q0 y5.q18 y5.q19 y5.q1 y5.q2 y5.q3 y5.q4 y5.q5 y5.q6 y5.q7 y5.q8 y5.q9 y5.q10 y5.q11 y5.q12 y5.q13 y5.q14 y5.q15 y5.q16 y5.q17) fun y59 =>
             bif y59 then
             (Option.bind (F9 FUEL) fun y60 =>
              some y60)
             else (some false))
            else (bif (ieq y52.q1 x1) then
             (Option.bind (F21 FUEL y5.q0 y5.q18 y5.q19 y5.q1 y5.q2 y5.q3 y5.q4 y5.q5 y5.q6 y5.q7 y5.q8 y5.q9 y5.q10 y5.q11 y5.q12 y5.q13 y5.q14 y5.q15 y5.q16 y5.q17) fun y61 =>
              bif y61 then
              (Option.bind (F9 FUEL) fun y62 =>
               some y62)
              else (some false))
             else (some false)))))))
       else (Option.bind (F15 FUEL y5.q0 y5.q18 y5.q19 y5.q1 y5.q2 y5.q3 y5.q4 y5.q5 y5.q6 y5.q7 y5.q8 y5.q9 y5.q10 y5.q11 y5.q12 y5.q13 y5.q14 y5.q15 y5.q16 y5.q17 [x1]) fun y63 =>
        bif (ige y5.q1 (0)) then
        (Option.bind (F21 FUEL y5.q0 y5.q18 y5.q19 y5.q1 y5.q2 y5.q3 y5.q4 y5.q5 y5.q6 y5.q7 y5.q8 y5.q9 y5.q10 y5.q11 y5.q12 y5.q13 y5.q14 y5.q15 y5.q16 y5.q17) fun y64 =>
         bif y64 then
         (Option.bind (F9 FUEL) fun y65 =>
          some y65)
         else (some false))
        else (bif (ilt x1 (0)) then
         (Option.bind (F21 FUEL y5.q0 y5.q18 y5.q19 y5.q1 y5.q2 y5.q3 y5.q4 y5.q5 y5.q6 y5.q7 y5.q8 y5.q9 y5.q10 y5.q11 y5.q12 y5.q13 y5.q14 y5.q15 y5.q16 y5.q17) fun y66 =>
          bif y66 then
          (Option.bind (F9 FUEL) fun y67 =>
           some y67)
          else (some false))
         else (bif (ige x1 (65536)) then
          (Option.bind (F21 FUEL y5.q0 y5.q18 y5.q19 y5.q1 y5.q2 y5.q3 y5.q4 y5.q5 y5.q6 y5.q7 y5.q8 y5.q9 y5.q10 y5.q11 y5.q12 y5.q13 y5.q14 y5.q15 y5.q16 y5.q17) fun y68 =>
           bif y68 then
           (Option.bind (F9 FUEL) fun y69 =>
            some y69)
           else (some false))
          else (bif (ieq x1 x4) then
           (Option.bind (F21 FUEL y5.q0 y5.q18 y5.q19 y5.q1 y5.q2 y5.q3 y5.q4 y5.q5 y5.q6 y5.q7 y5.q8 y5.q9 y5.q10 y5.q11 y5.q12 y5.q13 y5.q14 y5.q15 y5.q16 y5.q17) fun y70 =>
            bif y70 then
            (Option.bind (F9 FUEL) fun y71 =>
             some y71)
            else (some false))
           else (bif (ieq y63.q1 x1) then
            (Option.bind (F21 FUEL y5.q0 y5.q18 y5.q19 y5.q1 y5.q2 y5.q3 y5.q4 y5.q5 y5.q6 y5.q7 y5.q8 y5.q9 y5.q10 y5.q11 y5.q12 y5.q13 y5.q14 y5.q15 y5.q16 y5.q17) fun y72 =>
             bif y72 then
             (Option.bind (F9 FUEL) fun y73 =>
              some y73)
             else (some false))
            else (some false)))))))))
def F6 (n : Nat) (a0 : Int) (a1 : List (Int)) (a2 : List (Int)) (a3 : Int) (a4 : Int) (a5 : Int) (a6 : Int) (a7 : Int) (a8 : Int) (a9 : Int) (a10 : Int) (a11 : Int) (a12 : Int) (a13 : Int) (a14 : Int) (a15 : Int) (a16 : Int) (a17 : Int) (a18 : Int) (a19 : Int) (a20 : Int) (a21 : Int) : Option (Bool) :=
  Option.bind (F8 FUEL a0 a1 a2 a3 a4 a5 a6 a7 a8 a9 a10 a11 a12 a13 a14 a15 a16 a17 a18 a19) fun y1 =>
  bif y1 then
  (Option.bind (F9 FUEL) fun y2 =>
   some y2)
  else (Option.bind (F21 FUEL a0 a1 a2 a3 a4 a5 a6 a7 a8 a9 a10 a11 a12 a13 a14 a15 a16 a17 a18 a19) fun y3 =>
   bif (!y3) then
   (Option.bind (F9 FUEL) fun y4 =>
    some y4)
   else (F6_c0 n a20 a21 false (0) a0 a1 a2 a3 a4 a5 a6 a7 a8 a9 a10 a11 a12 a13 a14 a15 a16 a17 a18 a19))

/-! ### garland/garlandlaw15.RectBad -/
def F7 (_n : Nat) (a0 : Int) (a1 : List (Int)) (a2 : List (Int)) (a3 : Int) (a4 : Int) (a5 : Int) (a6 : Int) (a7 : Int) (a8 : Int) (a9 : Int) (a10 : Int) (a11 : Int) (a12 : Int) (a13 : Int) (a14 : Int) (a15 : Int) (a16 : Int) (a17 : Int) (a18 : Int) (a19 : Int) (a20 : Int) (a21 : List (Int)) : Option (Bool) :=
  Option.bind (F8 FUEL a0 a1 a2 a3 a4 a5 a6 a7 a8 a9 a10 a11 a12 a13 a14 a15 a16 a17 a18 a19) fun y1 =>
  bif y1 then
  (Option.bind (F9 FUEL) fun y2 =>
   some y2)
  else (Option.bind (F21 FUEL a0 a1 a2 a3 a4 a5 a6 a7 a8 a9 a10 a11 a12 a13 a14 a15 a16 a17 a18 a19) fun y3 =>
   bif y3 then
   (Option.bind (F9 FUEL) fun y4 =>
    some y4)
   else (bif (igt (ofN (List.length a21)) (60)) then
    (Option.bind (F9 FUEL) fun y5 =>
     some y5)
    else (Option.bind (F10 FUEL a0 a1 a2 a3 a4 a5 a6 a7 a8 a9 a10 a11 a12 a13 a14 a15 a16 a17 a18 a19) fun y6 =>
     Option.bind (F12 FUEL a0 a1 a2 a3 a4 a5 a6 a7 a8 a9 a10 a11 a12 a13 a14 a15 a16 a17 a18 a19 a20) fun y7 =>
     bif (!y7) then
     (Option.bind (F15 FUEL a0 a1 a2 a3 a4 a5 a6 a7 a8 a9 a10 a11 a12 a13 a14 a15 a16 a17 a18 a19 a21) fun y8 =>
      Option.bind (F14 FUEL y8.q0 y8.q18 y8.q19 y8.q1 y8.q2 y8.q3 y8.q4 y8.q5 y8.q6 y8.q7 y8.q8 y8.q9 y8.q10 y8.q11 y8.q12 y8.q13 y8.q14 y8.q15 y8.q16 y8.q17 a0 a1 a2 a3 a4 a5 a6 a7 a8 a9 a10 a11 a12 a13 a14 a15 a16 a17 a18 a19) fun y9 =>
      bif y9 then
      (Option.bind (F17 FUEL a0 a1 a2 a3 a4 a5 a6 a7 a8 a9 a10 a11 a12 a13 a14 a15 a16 a17 a18 a19 a20) fun y10 =>
       bif (!y10) then
       (bif (ieq y6.1 (0)) then
        (bif (!y6.2) then
         (Option.bind (F19 FUEL a0 a1 a2 a3 a4 a5 a6 a7 a8 a9 a10 a11 a12 a13 a14 a15 a16 a17 a18 a19 a20) fun y11 =>
          Option.bind (F14 FUEL y11.q0 y11.q18 y11.q19 y11.q1 y11.q2 y11.q3 y11.q4 y11.q5 y11.q6 y11.q7 y11.q8 y11.q9 y11.q10 y11.q11 y11.q12 y11.q13 y11.q14 y11.q15 y11.q16 y11.q17 a0 a1 a2 a3 a4 a5 a6 a7 a8 a9 a10 a11 a12 a13 a14 a15 a16 a17 a18 a19) fun y12 =>
          bif y12 then
          (Option.bind (F9 FUEL) fun y13 =>
           some y13)
          else (some false))
         else (some false))
        else (some false))
       else (some false))
      else (some false))
     else (some false))))

end Go.Proofs.Ytomgapihddmafaa
