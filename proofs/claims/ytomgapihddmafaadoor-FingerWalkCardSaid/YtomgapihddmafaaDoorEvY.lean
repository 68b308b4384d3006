/-
  What the functions of this program compute, in plain words.
-/
import Derived.Test.YtomgapihddmafaaDoorEvR
namespace Go.Proofs.YtomgapihddmafaaDoor
open Go Go.RowKit
set_option maxRecDepth 100000


/-! ### garland/garlandref15.Great -/
def F8 (_n : Nat) (_a0 : Int) (a1 : List (Int)) (a2 : List (Int)) (_a3 : Int) (_a4 : Int) (_a5 : Int) (_a6 : Int) (_a7 : Int) (_a8 : Int) (_a9 : Int) (_a10 : Int) (_a11 : Int) (_a12 : Int) (_a13 : Int) (_a14 : Int) (_a15 : Int) (_a16 : Int) (_a17 : Int) (_a18 : Int) (_a19 : Int) : Option (Bool) :=
  bif (igt (ofN (List.length a1)) (20)) then
  (some true)
  else (some (igt (ofN (List.length a2)) (20)))

/-! ### garland/garlandref13.place -/
def F41 (_n : Nat) (a0 : Int) : Option (Bool) :=
  bif (ige a0 (0)) then
  (some (ilt a0 (65536)))
  else (some false)

/-! ### garland/garlandref12.place -/
def F58 (_n : Nat) (a0 : Int) : Option (Bool) :=
  bif (ige a0 (0)) then
  (some (ilt a0 (65536)))
  else (some false)

/-! ### garland/garlandref03.Place -/
def F44 (_n : Nat) (a0 : Int) : Option (Int) :=
  bif (inz (65536)) then
  (bif (inz (65536)) then
   (some (irem (iadd .i64 (irem a0 (65536)) (65536)) (65536)))
   else (none))
  else (none)

/-! ### garland/garlandref03.Far -/
def F26 (_n : Nat) (a0 : Int) (a1 : Int) : Option (Int) :=
  Option.bind (F44 FUEL a1) fun y1 =>
  Option.bind (F44 FUEL a0) fun y2 =>
  Option.bind (F44 FUEL (isub .i64 y1 y2)) fun y3 =>
  some y3

/-! ### garland/garlandref12.farther -/
def F59 (_n : Nat) (a0 : Int) (a1 : Int) (a2 : Int) : Option (Bool) :=
  Option.bind (F26 FUEL a0 a2) fun y1 =>
  Option.bind (F26 FUEL a0 a1) fun y2 =>
  some (igt y1 y2)

/-! ### garland/garlandref12.Right -/
def F42_c0 : Nat → Int → List (Int) → Int → Option (Bool)
  | 0, _, _, _ => none
  | n + 1, x0, x1, x2 => bif (ilt x2 (ofN (List.length x1))) then
    (bif (inb x2 (List.length x1)) then
     (Option.bind (F58 FUEL (List.getD x1 (Int.toNat x2) 0)) fun y1 =>
      bif (!y1) then
      (some false)
      else (bif (inb x2 (List.length x1)) then
       (Option.bind (F44 FUEL x0) fun y2 =>
        bif (ieq (List.getD x1 (Int.toNat x2) 0) y2) then
        (some false)
        else (bif (igt x2 (0)) then
         (bif (inb (isub .i64 x2 (1)) (List.length x1)) then
          (bif (inb x2 (List.length x1)) then
           (Option.bind (F59 FUEL x0 (List.getD x1 (Int.toNat (isub .i64 x2 (1))) 0) (List.getD x1 (Int.toNat x2) 0)) fun y3 =>
            bif (!y3) then
            (some false)
            else (F42_c0 n x0 x1 (iadd .i64 x2 (1))))
           else (none))
          else (none))
         else (F42_c0 n x0 x1 (iadd .i64 x2 (1)))))
       else (none)))
     else (none))
    else (some (ile (ofN (List.length x1)) (3)))
def F42 (n : Nat) (a0 : Int) (a1 : List (Int)) : Option (Bool) :=
  F42_c0 n a0 a1 (0)

/-! ### garland/garlandref13.other -/
def F43 (_n : Nat) (a0 : Int) (_a1 : List (Int)) (_a2 : List (Int)) (_a3 : Int) (_a4 : Int) (_a5 : Int) (_a6 : Int) (_a7 : Int) (_a8 : Int) (_a9 : Int) (_a10 : Int) (_a11 : Int) (_a12 : Int) (_a13 : Int) (_a14 : Int) (_a15 : Int) (_a16 : Int) (_a17 : Int) (_a18 : Int) (_a19 : Int) (a20 : Int) : Option (Bool) :=
  bif (ieq a20 (-1)) then
  (some true)
  else (Option.bind (F41 FUEL a20) fun y1 =>
   bif y1 then
   (some (ine a20 a0))
   else (some false))

/-! ### garland/garlandref13.Right -/
mutual
def F21_c0 : Nat → Int → Int → List (Int) → List (Int) → Int → Int → Int → Int → Int → Int → Int → Int → Int → Int → Int → Int → Int → Int → Int → Int → Int → Option (Bool)
  | 0, _, _, _, _, _, _, _, _, _, _, _, _, _, _, _, _, _, _, _, _, _ => none
  | n + 1, x0, x1, x2, x3, x4, x5, x6, x7, x8, x9, x10, x11, x12, x13, x14, x15, x16, x17, x18, x19, x20 => bif (ilt x0 (ofN (List.length x2))) then
    (bif (inb x0 (List.length x2)) then
     (Option.bind (F41 FUEL (List.getD x2 (Int.toNat x0) 0)) fun y4 =>
      bif (!y4) then
      (some false)
      else (bif (igt x0 (0)) then
       (bif (inb x0 (List.length x2)) then
        (bif (inb (isub .i64 x0 (1)) (List.length x2)) then
         (bif (ile (List.getD x2 (Int.toNat x0) 0) (List.getD x2 (Int.toNat (isub .i64 x0 (1))) 0)) then
          (some false)
          else (F21_c0 n (iadd .i64 x0 (1)) x1 x2 x3 x4 x5 x6 x7 x8 x9 x10 x11 x12 x13 x14 x15 x16 x17 x18 x19 x20))
         else (none))
        else (none))
       else (F21_c0 n (iadd .i64 x0 (1)) x1 x2 x3 x4 x5 x6 x7 x8 x9 x10 x11 x12 x13 x14 x15 x16 x17 x18 x19 x20)))
     else (none))
    else (F21_c1 n (0) x1 x2 x3 x4 x5 x6 x7 x8 x9 x10 x11 x12 x13 x14 x15 x16 x17 x18 x19 x20)
def F21_c1 : Nat → Int → Int → List (Int) → List (Int) → Int → Int → Int → Int → Int → Int → Int → Int → Int → Int → Int → Int → Int → Int → Int → Int → Int → Option (Bool)
  | 0, _, _, _, _, _, _, _, _, _, _, _, _, _, _, _, _, _, _, _, _, _ => none
  | n + 1, x0, x1, x2, x3, x4, x5, x6, x7, x8, x9, x10, x11, x12, x13, x14, x15, x16, x17, x18, x19, x20 => bif (ilt x0 (16)) then
    (bif (inb x0 16) then
     (bif (nlt (Int.toNat x0) 16) then
      (Option.bind (F43 FUEL x1 x2 x3 x4 x5 x6 x7 x8 x9 x10 x11 x12 x13 x14 x15 x16 x17 x18 x19 x20 (List.getD [x5, x6, x7, x8, x9, x10, x11, x12, x13, x14, x15, x16, x17, x18, x19, x20] (Int.toNat x0) 0)) fun y5 =>
       bif (!y5) then
       (some false)
       else (F21_c1 n (iadd .i64 x0 (1)) x1 x2 x3 x4 x5 x6 x7 x8 x9 x10 x11 x12 x13 x14 x15 x16 x17 x18 x19 x20))
      else (none))
     else (none))
    else (some true)
end
def F21 (n : Nat) (a0 : Int) (a1 : List (Int)) (a2 : List (Int)) (a3 : Int) (a4 : Int) (a5 : Int) (a6 : Int) (a7 : Int) (a8 : Int) (a9 : Int) (a10 : Int) (a11 : Int) (a12 : Int) (a13 : Int) (a14 : Int) (a15 : Int) (a16 : Int) (a17 : Int) (a18 : Int) (a19 : Int) : Option (Bool) :=
  Option.bind (F41 FUEL a0) fun y1 =>
  bif (!y1) then
  (some false)
  else (bif (ilt (ofN (List.length a1)) (2)) then
   (some false)
   else (bif (igt (ofN (List.length a1)) (4)) then
    (some false)
    else (Option.bind (F42 FUEL a0 a2) fun y2 =>
     bif (!y2) then
     (some false)
     else (Option.bind (F43 FUEL a0 a1 a2 a3 a4 a5 a6 a7 a8 a9 a10 a11 a12 a13 a14 a15 a16 a17 a18 a19 a3) fun y3 =>
      bif (!y3) then
      (some false)
      else (F21_c0 n (0) a0 a1 a2 a3 a4 a5 a6 a7 a8 a9 a10 a11 a12 a13 a14 a15 a16 a17 a18 a19)))))

/-! ### garland/garlandref13.New -/
structure Si19l where
  q0 : Int
  q1 : Int
  q2 : Int
  q3 : Int
  q4 : Int
  q5 : Int
  q6 : Int
  q7 : Int
  q8 : Int
  q9 : Int
  q10 : Int
  q11 : Int
  q12 : Int
  q13 : Int
  q14 : Int
  q15 : Int
  q16 : Int
  q17 : Int
  q18 : Int
  q19 : List (Int)
def F27_c0 : Nat → Int → Int → Int → Int → Int → Int → Int → Int → Int → Int → Int → Int → Int → Int → Int → Int → Int → Int → Int → Int → Int → Int → Int → Int → Int → Int → Int → Int → Int → Int → Int → Int → Int → Int → Int → Int → Int → List (Int) → Option (Si19l)
  | 0, _, _, _, _, _, _, _, _, _, _, _, _, _, _, _, _, _, _, _, _, _, _, _, _, _, _, _, _, _, _, _, _, _, _, _, _, _, _ => none
  | n + 1, x0, x1, x2, x3, x4, x5, x6, x7, x8, x9, x10, x11, x12, x13, x14, x15, x16, x17, x18, x19, x20, x21, x22, x23, x24, x25, x26, x27, x28, x29, x30, x31, x32, x33, x34, x35, x36, x37 => bif (ilt x0 (16)) then
    (bif (inb x0 16) then
     (bif (nlt (Int.toNat x0) 16) then
      (F27_c0 n (iadd .i64 x0 (1)) x1 x2 x3 x4 x5 x6 x7 x8 x9 x10 x11 x12 x13 x14 x15 x16 x17 x18 x19 x20 (List.getD (List.set [x21, x22, x23, x24, x25, x26, x27, x28, x29, x30, x31, x32, x33, x34, x35, x36] (Int.toNat x0) (-1)) 0 0) (List.getD (List.set [x21, x22, x23, x24, x25, x26, x27, x28, x29, x30, x31, x32, x33, x34, x35, x36] (Int.toNat x0) (-1)) 1 0) (List.getD (List.set [x21, x22, x23, x24, x25, x26, x27, x28, x29, x30, x31, x32, x33, x34, x35, x36] (Int.toNat x0) (-1)) 2 0) (List.getD (List.set [x21, x22, x23, x24, x25, x26, x27, x28, x29, x30, x31, x32, x33, x34, x35, x36] (Int.toNat x0) (-1)) 3 0) (List.getD (List.set [x21, x22, x23, x24, x25, x26, x27, x28, x29, x30, x31, x32, x33, x34, x35, x36] (Int.toNat x0) (-1)) 4 0) (List.getD (List.set [x21, x22, x23, x24, x25, x26, x27, x28, x29, x30, x31, x32, x33, x34, x35, x36] (Int.toNat x0) (-1)) 5 0) (List.getD (List.set [x21, x22, x23, x24, x25, x26, x27, x28, x29, x30, x31, x32, x33, x34, x35, x36] (Int.toNat x0) (-1)) 6 0) (List.getD (List.set [x21, x22, x23, x24, x25, x26, x27, x28, x29, x30, x31, x32, x33, x34, x35, x36] (Int.toNat x0) (-1)) 7 0) (List.getD (List.set [x21, x22, x23, x24, x25, x26, x27, x28, x29, x30, x31, x32, x33, x34, x35, x36] (Int.toNat x0) (-1)) 8 0) (List.getD (List.set [x21, x22, x23, x24, x25, x26, x27, x28, x29, x30, x31, x32, x33, x34, x35, x36] (Int.toNat x0) (-1)) 9 0) (List.getD (List.set [x21, x22, x23, x24, x25, x26, x27, x28, x29, x30, x31, x32, x33, x34, x35, x36] (Int.toNat x0) (-1)) 10 0) (List.getD (List.set [x21, x22, x23, x24, x25, x26, x27, x28, x29, x30, x31, x32, x33, x34, x35, x36] (Int.toNat x0) (-1)) 11 0) (List.getD (List.set [x21, x22, x23, x24, x25, x26, x27, x28, x29, x30, x31, x32, x33, x34, x35, x36] (Int.toNat x0) (-1)) 12 0) (List.getD (List.set [x21, x22, x23, x24, x25, x26, x27, x28, x29, x30, x31, x32, x33, x34, x35, x36] (Int.toNat x0) (-1)) 13 0) (List.getD (List.set [x21, x22, x23, x24, x25, x26, x27, x28, x29, x30, x31, x32, x33, x34, x35, x36] (Int.toNat x0) (-1)) 14 0) (List.getD (List.set [x21, x22, x23, x24, x25, x26, x27, x28, x29, x30, x31, x32, x33, x34, x35, x36] (Int.toNat x0) (-1)) 15 0) x37)
      else (none))
     else (none))
    else (Option.bind (F21 FUEL x19 x37 [] x20 x21 x22 x23 x24 x25 x26 x27 x28 x29 x30 x31 x32 x33 x34 x35 x36) fun y1 =>
     bif (!y1) then
     (some ⟨(0), (0), (0), (0), (0), (0), (0), (0), (0), (0), (0), (0), (0), (0), (0), (0), (0), (0), (2), []⟩)
     else (some ⟨x19, x20, x21, x22, x23, x24, x25, x26, x27, x28, x29, x30, x31, x32, x33, x34, x35, x36, (0), x37⟩))
def F27 (n : Nat) (a0 : Int) (a1 : List (Int)) : Option (Si19l) :=
  bif (room (0 + List.length a1) 8) then
  (F27_c0 n (0) (0) (0) (0) (0) (0) (0) (0) (0) (0) (0) (0) (0) (0) (0) (0) (0) (0) (0) a0 (-1) (0) (0) (0) (0) (0) (0) (0) (0) (0) (0) (0) (0) (0) (0) (0) (0) ([] ++ a1))
  else (none)

/-! ### garland/view.isPlace -/
def F46 (_n : Nat) (a0 : Int) : Option (Bool) :=
  bif (ige a0 (0)) then
  (some (ilt a0 (65536)))
  else (some false)

/-! ### garland/view.rightBase -/
def F47_c0 : Nat → List (Int) → List (Int) → Int → Int → Option (Bool)
  | 0, _, _, _, _ => none
  | n + 1, x0, x1, x2, x3 => bif (ilt x3 x2) then
    (bif (inb x3 (List.length x1)) then
     (Option.bind (F46 FUEL (List.getD x1 (Int.toNat x3) 0)) fun y1 =>
      bif (!y1) then
      (some false)
      else (bif (igt x3 (0)) then
       (bif (inb (isub .i64 x3 (1)) (List.length x0)) then
        (bif (ile (List.getD x1 (Int.toNat x3) 0) (List.getD x0 (Int.toNat (isub .i64 x3 (1))) 0)) then
         (some false)
         else (F47_c0 n x0 x1 x2 (iadd .i64 x3 (1))))
        else (none))
       else (F47_c0 n x0 x1 x2 (iadd .i64 x3 (1)))))
     else (none))
    else (some true)
def F47 (n : Nat) (a0 : List (Int)) : Option (Bool) :=
  bif (ilt (ofN (List.length a0)) (2)) then
  (some false)
  else (bif (igt (ofN (List.length a0)) (4)) then
   (some false)
   else (F47_c0 n a0 a0 (ofN (List.length a0)) (0)))

/-! ### garland/arc.Place -/
def F50 (_n : Nat) (a0 : Int) : Option (Int) :=
  some (bits .and .i64 a0 (65535))

/-! ### garland/list.isPlace -/
def F61 (_n : Nat) (a0 : Int) : Option (Bool) :=
  bif (ige a0 (0)) then
  (some (ilt a0 (65536)))
  else (some false)

/-! ### garland/arc.Far -/
def F57 (_n : Nat) (a0 : Int) (a1 : Int) : Option (Int) :=
  Option.bind (F50 FUEL a1) fun y1 =>
  Option.bind (F50 FUEL a0) fun y2 =>
  Option.bind (F50 FUEL (isub .i64 y1 y2)) fun y3 =>
  some y3

/-! ### garland/list.Right -/
def F48_c0 : Nat → Int → List (Int) → Int → Int → Int → Bool → Option (Bool)
  | 0, _, _, _, _, _, _ => none
  | n + 1, x0, x1, x2, x3, x4, x5 => bif (ilt x3 x2) then
    (bif (inb x3 (List.length x1)) then
     (Option.bind (F61 FUEL (List.getD x1 (Int.toNat x3) 0)) fun y2 =>
      bif (!y2) then
      (some false)
      else (Option.bind (F57 FUEL x4 (List.getD x1 (Int.toNat x3) 0)) fun y3 =>
       Option.bind (F57 FUEL x4 x0) fun y4 =>
       bif (ile y3 y4) then
       (some false)
       else (F48_c0 n (List.getD x1 (Int.toNat x3) 0) x1 x2 (iadd .i64 x3 (1)) x4 x5)))
     else (none))
    else (some true)
def F48 (n : Nat) (a0 : Int) (a1 : List (Int)) : Option (Bool) :=
  bif (igt (ofN (List.length a1)) (3)) then
  (some false)
  else (Option.bind (F50 FUEL a0) fun y1 =>
   F48_c0 n y1 a1 (ofN (List.length a1)) (0) y1 false)

/-! ### garland/view.Right -/
mutual
def F28_c0 : Nat → Option (Bool)
  | 0 => none
  | _ + 1 => some false
def F28_c1 : Nat → Int → Int → Int → Int → Int → Int → Int → Int → Int → Int → Int → Int → Int → Int → Int → Int → Int → Int → List (Int) → List (Int) → Int → Int → Int → Int → Int → Int → Int → Int → Int → Int → Int → Int → Int → Int → Int → Int → Int → Option (Bool)
  | 0, _, _, _, _, _, _, _, _, _, _, _, _, _, _, _, _, _, _, _, _, _, _, _, _, _, _, _, _, _, _, _, _, _, _, _, _, _ => none
  | n + 1, x0, x1, x2, x3, x4, x5, x6, x7, x8, x9, x10, x11, x12, x13, x14, x15, x16, x17, x18, x19, x20, x21, x22, x23, x24, x25, x26, x27, x28, x29, x30, x31, x32, x33, x34, x35, x36 => bif (ilt x16 (16)) then
    (bif (inb x16 16) then
     (bif (ine (List.getD [x0, x1, x2, x3, x4, x5, x6, x7, x8, x9, x10, x11, x12, x13, x14, x15] (Int.toNat x16) 0) (-1)) then
      (Option.bind (F46 FUEL (List.getD [x0, x1, x2, x3, x4, x5, x6, x7, x8, x9, x10, x11, x12, x13, x14, x15] (Int.toNat x16) 0)) fun y5 =>
       bif (!y5) then
       (F28_c0 n )
       else (bif (ieq (List.getD [x0, x1, x2, x3, x4, x5, x6, x7, x8, x9, x10, x11, x12, x13, x14, x15] (Int.toNat x16) 0) x17) then
        (F28_c0 n )
        else (F28_c1 n x0 x1 x2 x3 x4 x5 x6 x7 x8 x9 x10 x11 x12 x13 x14 x15 (iadd .i64 x16 (1)) x17 x18 x19 x20 x21 x22 x23 x24 x25 x26 x27 x28 x29 x30 x31 x32 x33 x34 x35 x36)))
      else (F28_c1 n x0 x1 x2 x3 x4 x5 x6 x7 x8 x9 x10 x11 x12 x13 x14 x15 (iadd .i64 x16 (1)) x17 x18 x19 x20 x21 x22 x23 x24 x25 x26 x27 x28 x29 x30 x31 x32 x33 x34 x35 x36))
     else (none))
    else (some true)
end
def F28 (n : Nat) (a0 : Int) (a1 : List (Int)) (a2 : List (Int)) (a3 : Int) (a4 : Int) (a5 : Int) (a6 : Int) (a7 : Int) (a8 : Int) (a9 : Int) (a10 : Int) (a11 : Int) (a12 : Int) (a13 : Int) (a14 : Int) (a15 : Int) (a16 : Int) (a17 : Int) (a18 : Int) (a19 : Int) : Option (Bool) :=
  Option.bind (F46 FUEL a0) fun y1 =>
  bif (!y1) then
  (F28_c0 n )
  else (Option.bind (F47 FUEL a1) fun y2 =>
   bif (!y2) then
   (F28_c0 n )
   else (Option.bind (F48 FUEL a0 a2) fun y3 =>
    bif (!y3) then
    (F28_c0 n )
    else (bif (ine a3 (-1)) then
     (Option.bind (F46 FUEL a3) fun y4 =>
      bif (!y4) then
      (F28_c0 n )
      else (bif (ieq a3 a0) then
       (F28_c0 n )
       else (F28_c1 n a4 a5 a6 a7 a8 a9 a10 a11 a12 a13 a14 a15 a16 a17 a18 a19 (0) a0 a1 a2 a3 a4 a5 a6 a7 a8 a9 a10 a11 a12 a13 a14 a15 a16 a17 a18 a19)))
     else (F28_c1 n a4 a5 a6 a7 a8 a9 a10 a11 a12 a13 a14 a15 a16 a17 a18 a19 (0) a0 a1 a2 a3 a4 a5 a6 a7 a8 a9 a10 a11 a12 a13 a14 a15 a16 a17 a18 a19))))

/-! ### slices.Clone[[]int,int] -/
def F55 (_n : Nat) (a0 : List (Int)) : Option ((List (Int))) :=
  bif (List.isEmpty a0) then
  (altE (some [])
   (bif (room (0 + List.length a0) 8) then
    (some ([] ++ a0))
    else (none)))
  else (bif (room (0 + List.length a0) 8) then
   (some ([] ++ a0))
   else (none))

/-! ### garland/view.Own -/
structure Si18l2 where
  q0 : Int
  q1 : Int
  q2 : Int
  q3 : Int
  q4 : Int
  q5 : Int
  q6 : Int
  q7 : Int
  q8 : Int
  q9 : Int
  q10 : Int
  q11 : Int
  q12 : Int
  q13 : Int
  q14 : Int
  q15 : Int
  q16 : Int
  q17 : Int
  q18 : List (Int)
  q19 : List (Int)
def F36 (_n : Nat) (a0 : Int) (a1 : List (Int)) (a2 : List (Int)) (a3 : Int) (a4 : Int) (a5 : Int) (a6 : Int) (a7 : Int) (a8 : Int) (a9 : Int) (a10 : Int) (a11 : Int) (a12 : Int) (a13 : Int) (a14 : Int) (a15 : Int) (a16 : Int) (a17 : Int) (a18 : Int) (a19 : Int) : Option (Si18l2) :=
  Option.bind (F55 FUEL a1) fun y1 =>
  Option.bind (F55 FUEL a2) fun y2 =>
  some ⟨a0, a3, a4, a5, a6, a7, a8, a9, a10, a11, a12, a13, a14, a15, a16, a17, a18, a19, y1, y2⟩

/-! ### garland/arc.Start -/
def F29 (_n : Nat) (a0 : Int) (a1 : Int) : Option (Int) :=
  bif (ilt a1 (0)) then
  (Option.bind (F50 FUEL a0) fun y1 =>
   some y1)
  else (bif (ige a1 (16)) then
   (Option.bind (F50 FUEL a0) fun y2 =>
    some y2)
   else (Option.bind (F50 FUEL a0) fun y3 =>
    bif (inb a1 16) then
    (bif (nlt (Int.toNat a1) 16) then
     (Option.bind (F50 FUEL (iadd .i64 y3 (List.getD [(1), (2), (4), (8), (16), (32), (64), (128), (256), (512), (1024), (2048), (4096), (8192), (16384), (32768)] (Int.toNat a1) 0))) fun y4 =>
      some y4)
     else (none))
    else (none)))

/-! ### garland/finger.Start -/
def F10_c0 : Nat → Option (Int × Int)
  | 0 => none
  | _ + 1 => some ((0), (2))
def F10 (n : Nat) (a0 : Int) (a1 : List (Int)) (a2 : List (Int)) (a3 : Int) (a4 : Int) (a5 : Int) (a6 : Int) (a7 : Int) (a8 : Int) (a9 : Int) (a10 : Int) (a11 : Int) (a12 : Int) (a13 : Int) (a14 : Int) (a15 : Int) (a16 : Int) (a17 : Int) (a18 : Int) (a19 : Int) (a20 : Int) : Option (Int × Int) :=
  bif (ilt a20 (0)) then
  (F10_c0 n )
  else (bif (ige a20 (16)) then
   (F10_c0 n )
   else (Option.bind (F28 FUEL a0 a1 a2 a3 a4 a5 a6 a7 a8 a9 a10 a11 a12 a13 a14 a15 a16 a17 a18 a19) fun y1 =>
    bif (!y1) then
    (F10_c0 n )
    else (Option.bind (F29 FUEL a0 a20) fun y2 =>
     some (y2, (0)))))

/-! ### garland/list.First -/
def F51_c0 : Nat → List (Int) → Int → Int → Int → Bool → Option (Int × Bool)
  | 0, _, _, _, _, _ => none
  | _ + 1, x0, x1, x2, _, _ => bif (ilt x2 x1) then
    (bif (inb x2 (List.length x0)) then
     (some ((List.getD x0 (Int.toNat x2) 0), true))
     else (none))
    else (some ((0), false))
def F51 (n : Nat) (a0 : List (Int)) : Option (Int × Bool) :=
  F51_c0 n a0 (ofN (List.length a0)) (0) (0) false

/-! ### garland/view.anchor -/
def F52_c0 : Nat → Int → List (Int) → Int → Int → Int → List (Int) → List (Int) → Int → Int → Int → Int → Int → Int → Int → Int → Int → Int → Int → Int → Int → Int → Int → Int → Int → Option (Int)
  | 0, _, _, _, _, _, _, _, _, _, _, _, _, _, _, _, _, _, _, _, _, _, _, _, _ => none
  | n + 1, x0, x1, x2, x3, x4, x5, x6, x7, x8, x9, x10, x11, x12, x13, x14, x15, x16, x17, x18, x19, x20, x21, x22, x23 => bif (ilt x3 x2) then
    (bif (inb x3 (List.length x1)) then
     (bif (ine (List.getD x1 (Int.toNat x3) 0) x4) then
      (bif (ilt x0 (0)) then
       (F52_c0 n (List.getD x1 (Int.toNat x3) 0) x1 x2 (iadd .i64 x3 (1)) x4 x5 x6 x7 x8 x9 x10 x11 x12 x13 x14 x15 x16 x17 x18 x19 x20 x21 x22 x23)
       else (Option.bind (F57 FUEL x4 (List.getD x1 (Int.toNat x3) 0)) fun y1 =>
        Option.bind (F57 FUEL x4 x0) fun y2 =>
        bif (ilt y1 y2) then
        (F52_c0 n (List.getD x1 (Int.toNat x3) 0) x1 x2 (iadd .i64 x3 (1)) x4 x5 x6 x7 x8 x9 x10 x11 x12 x13 x14 x15 x16 x17 x18 x19 x20 x21 x22 x23)
        else (F52_c0 n x0 x1 x2 (iadd .i64 x3 (1)) x4 x5 x6 x7 x8 x9 x10 x11 x12 x13 x14 x15 x16 x17 x18 x19 x20 x21 x22 x23)))
      else (F52_c0 n x0 x1 x2 (iadd .i64 x3 (1)) x4 x5 x6 x7 x8 x9 x10 x11 x12 x13 x14 x15 x16 x17 x18 x19 x20 x21 x22 x23))
     else (none))
    else (some x0)
def F52 (n : Nat) (a0 : Int) (a1 : List (Int)) (a2 : List (Int)) (a3 : Int) (a4 : Int) (a5 : Int) (a6 : Int) (a7 : Int) (a8 : Int) (a9 : Int) (a10 : Int) (a11 : Int) (a12 : Int) (a13 : Int) (a14 : Int) (a15 : Int) (a16 : Int) (a17 : Int) (a18 : Int) (a19 : Int) : Option (Int) :=
  F52_c0 n (-1) a1 (ofN (List.length a1)) (0) a0 a1 a2 a3 a4 a5 a6 a7 a8 a9 a10 a11 a12 a13 a14 a15 a16 a17 a18 a19

/-! ### garland/view.First -/
def F30 (_n : Nat) (a0 : Int) (a1 : List (Int)) (a2 : List (Int)) (a3 : Int) (a4 : Int) (a5 : Int) (a6 : Int) (a7 : Int) (a8 : Int) (a9 : Int) (a10 : Int) (a11 : Int) (a12 : Int) (a13 : Int) (a14 : Int) (a15 : Int) (a16 : Int) (a17 : Int) (a18 : Int) (a19 : Int) : Option (Int) :=
  Option.bind (F28 FUEL a0 a1 a2 a3 a4 a5 a6 a7 a8 a9 a10 a11 a12 a13 a14 a15 a16 a17 a18 a19) fun y1 =>
  bif (!y1) then
  (some (-1))
  else (Option.bind (F51 FUEL a2) fun y2 =>
   bif y2.2 then
   (some y2.1)
   else (Option.bind (F52 FUEL a0 a1 a2 a3 a4 a5 a6 a7 a8 a9 a10 a11 a12 a13 a14 a15 a16 a17 a18 a19) fun y3 =>
    some y3))

/-! ### garland/arc.In -/
def F53 (_n : Nat) (a0 : Int) (a1 : Int) (a2 : Int) : Option (Bool) :=
  Option.bind (F57 FUEL a0 a1) fun y1 =>
  Option.bind (F57 FUEL a0 a2) fun y2 =>
  bif (ieq y2 (0)) then
  (some (igt y1 (0)))
  else (bif (igt y1 (0)) then
   (some (ilt y1 y2))
   else (some false))

/-! ### garland/arc.UpTo -/
def F31 (_n : Nat) (a0 : Int) (a1 : Int) (a2 : Int) : Option (Bool) :=
  Option.bind (F53 FUEL a0 a1 a2) fun y1 =>
  bif y1 then
  (some true)
  else (Option.bind (F50 FUEL a1) fun y2 =>
   Option.bind (F50 FUEL a2) fun y3 =>
   some (ieq y2 y3))

/-! ### garland/finger.Once -/
def F12 (_n : Nat) (a0 : Int) (a1 : List (Int)) (a2 : List (Int)) (a3 : Int) (a4 : Int) (a5 : Int) (a6 : Int) (a7 : Int) (a8 : Int) (a9 : Int) (a10 : Int) (a11 : Int) (a12 : Int) (a13 : Int) (a14 : Int) (a15 : Int) (a16 : Int) (a17 : Int) (a18 : Int) (a19 : Int) (a20 : Int) : Option (Int × Bool) :=
  Option.bind (F10 FUEL a0 a1 a2 a3 a4 a5 a6 a7 a8 a9 a10 a11 a12 a13 a14 a15 a16 a17 a18 a19 a20) fun y1 =>
  bif (ine y1.2 (0)) then
  (some ((0), false))
  else (Option.bind (F30 FUEL a0 a1 a2 a3 a4 a5 a6 a7 a8 a9 a10 a11 a12 a13 a14 a15 a16 a17 a18 a19) fun y2 =>
   Option.bind (F31 FUEL a0 y1.1 y2) fun y3 =>
   bif (!y3) then
   (some ((0), false))
   else (some (y2, true)))

/-! ### garland/finger.owned -/
def F34 (_n : Nat) (a0 : Int) (_a1 : List (Int)) (_a2 : List (Int)) (_a3 : Int) (_a4 : Int) (_a5 : Int) (_a6 : Int) (_a7 : Int) (_a8 : Int) (_a9 : Int) (_a10 : Int) (_a11 : Int) (_a12 : Int) (_a13 : Int) (_a14 : Int) (_a15 : Int) (_a16 : Int) (_a17 : Int) (_a18 : Int) (_a19 : Int) (a20 : Int) : Option (Int) :=
  bif (ieq a20 a0) then
  (some (-1))
  else (some a20)

/-! ### garland/finger.with -/
def F35 (_n : Nat) (a0 : Int) (a1 : List (Int)) (a2 : List (Int)) (a3 : Int) (a4 : Int) (a5 : Int) (a6 : Int) (a7 : Int) (a8 : Int) (a9 : Int) (a10 : Int) (a11 : Int) (a12 : Int) (a13 : Int) (a14 : Int) (a15 : Int) (a16 : Int) (a17 : Int) (a18 : Int) (a19 : Int) (a20 : Int) (a21 : Int) (a22 : Int) (a23 : Int) (a24 : Int) (a25 : Int) (a26 : Int) (a27 : Int) (a28 : Int) (a29 : Int) (a30 : Int) (a31 : Int) (a32 : Int) (a33 : Int) (a34 : Int) (a35 : Int) : Option (Si18l2) :=
  Option.bind (F36 FUEL a0 a1 a2 a3 a4 a5 a6 a7 a8 a9 a10 a11 a12 a13 a14 a15 a16 a17 a18 a19) fun y1 =>
  bif (!((ieq y1.q2 a20) && ((ieq y1.q3 a21) && ((ieq y1.q4 a22) && ((ieq y1.q5 a23) && ((ieq y1.q6 a24) && ((ieq y1.q7 a25) && ((ieq y1.q8 a26) && ((ieq y1.q9 a27) && ((ieq y1.q10 a28) && ((ieq y1.q11 a29) && ((ieq y1.q12 a30) && ((ieq y1.q13 a31) && ((ieq y1.q14 a32) && ((ieq y1.q15 a33) && ((ieq y1.q16 a34) && ((ieq y1.q17 a35) && true))))))))))))))))) then
  (some ⟨y1.q0, y1.q1, a20, a21, a22, a23, a24, a25, a26, a27, a28, a29, a30, a31, a32, a33, a34, a35, y1.q18, y1.q19⟩)
  else (some ⟨y1.q0, y1.q1, y1.q2, y1.q3, y1.q4, y1.q5, y1.q6, y1.q7, y1.q8, y1.q9, y1.q10, y1.q11, y1.q12, y1.q13, y1.q14, y1.q15, y1.q16, y1.q17, y1.q18, y1.q19⟩)

/-! ### garland/finger.Walk -/
structure Sil2i19b where
  q0 : Int
  q1 : List (Int)
  q2 : List (Int)
  q3 : Int
  q4 : Int
  q5 : Int
  q6 : Int
  q7 : Int
  q8 : Int
  q9 : Int
  q10 : Int
  q11 : Int
  q12 : Int
  q13 : Int
  q14 : Int
  q15 : Int
  q16 : Int
  q17 : Int
  q18 : Int
  q19 : Int
  q20 : Int
  q21 : Int
  q22 : Bool
mutual
def F17_c0 : Nat → Int → Int → List (Int) → List (Int) → Int → Int → Int → Int → Int → Int → Int → Int → Int → Int → Int → Int → Int → Int → Int → Int → Int → Int → Int → Int → Int → Int → Int → Int → Int → Int → Int → Int → Int → Int → Int → Int → Int → Int → Int → Int → Int → Bool → Int → Int → Int → Int → Int → Int → Int → Int → Int → Int → Int → Int → Int → Int → Int → Int → Option (Sil2i19b)
  | 0, _, _, _, _, _, _, _, _, _, _, _, _, _, _, _, _, _, _, _, _, _, _, _, _, _, _, _, _, _, _, _, _, _, _, _, _, _, _, _, _, _, _, _, _, _, _, _, _, _, _, _, _, _, _, _, _, _, _ => none
  | n + 1, x0, x1, x2, x3, x4, x5, x6, x7, x8, x9, x10, x11, x12, x13, x14, x15, x16, x17, x18, x19, x20, x21, x22, x23, x24, x25, x26, x27, x28, x29, x30, x31, x32, x33, x34, x35, x36, x37, x38, x39, x40, x41, x42, x43, x44, x45, x46, x47, x48, x49, x50, x51, x52, x53, x54, x55, x56, x57 => bif (ilt x0 (16)) then
    (Option.bind (F12 FUEL x1 x2 x3 x4 x5 x6 x7 x8 x9 x10 x11 x12 x13 x14 x15 x16 x17 x18 x19 x20 x0) fun y3 =>
     bif (!y3.2) then
     (Option.bind (F29 FUEL x1 x0) fun y4 =>
      F17_c1 n x1 x2 x3 x4 x5 x6 x7 x8 x9 x10 x11 x12 x13 x14 x15 x16 x17 x18 x19 x20 x21 x22 x23 x24 x25 x26 x27 x28 x29 x30 x31 x32 x33 x34 x35 x36 x37 x38 x0 y4 true x42 x43 x44 x45 x46 x47 x48 x49 x50 x51 x52 x53 x54 x55 x56 x57)
     else (Option.bind (F34 FUEL x1 x2 x3 x4 x5 x6 x7 x8 x9 x10 x11 x12 x13 x14 x15 x16 x17 x18 x19 x20 y3.1) fun y5 =>
      bif (inb x0 16) then
      (bif (nlt (Int.toNat x0) 16) then
       (F17_c0 n (iadd .i64 x0 (1)) x1 x2 x3 x4 x5 x6 x7 x8 x9 x10 x11 x12 x13 x14 x15 x16 x17 x18 x19 x20 x21 x22 x23 x24 x25 x26 x27 x28 x29 x30 x31 x32 x33 x34 x35 x36 x37 x38 x39 x40 x41 (List.getD (List.set [x42, x43, x44, x45, x46, x47, x48, x49, x50, x51, x52, x53, x54, x55, x56, x57] (Int.toNat x0) y5) 0 0) (List.getD (List.set [x42, x43, x44, x45, x46, x47, x48, x49, x50, x51, x52, x53, x54, x55, x56, x57] (Int.toNat x0) y5) 1 0) (List.getD (List.set [x42, x43, x44, x45, x46, x47, x48, x49, x50, x51, x52, x53, x54, x55, x56, x57] (Int.toNat x0) y5) 2 0) (List.getD (List.set [x42, x43, x44, x45, x46, x47, x48, x49, x50, x51, x52, x53, x54, x55, x56, x57] (Int.toNat x0) y5) 3 0) (List.getD (List.set [x42, x43, x44, x45, x46, x47, x48, x49, x50, x51, x52, x53, x54, x55, x56, x57] (Int.toNat x0) y5) 4 0) (List.getD (List.set [x42, x43, x44, x45, x46, x47, x48, x49, x50, x51, x52, x53, x54, x55, x56, x57] (Int.toNat x0) y5) 5 0) (List.getD (List.set [x42, x43, x44, x45, x46, x47, x48, x49, x50, x51, x52, x53, x54, x55, x56, x57] (Int.toNat x0) y5) 6 0) (List.getD (List.set [x42, x43, x44, x45, x46, x47, x48, x49, x50, x51, x52, x53, x54, x55, x56, x57] (Int.toNat x0) y5) 7 0) (List.getD (List.set [x42, x43, x44, x45, x46, x47, x48, x49, x50, x51, x52, x53, x54, x55, x56, x57] (Int.toNat x0) y5) 8 0) (List.getD (List.set [x42, x43, x44, x45, x46, x47, x48, x49, x50, x51, x52, x53, x54, x55, x56, x57] (Int.toNat x0) y5) 9 0) (List.getD (List.set [x42, x43, x44, x45, x46, x47, x48, x49, x50, x51, x52, x53, x54, x55, x56, x57] (Int.toNat x0) y5) 10 0) (List.getD (List.set [x42, x43, x44, x45, x46, x47, x48, x49, x50, x51, x52, x53, x54, x55, x56, x57] (Int.toNat x0) y5) 11 0) (List.getD (List.set [x42, x43, x44, x45, x46, x47, x48, x49, x50, x51, x52, x53, x54, x55, x56, x57] (Int.toNat x0) y5) 12 0) (List.getD (List.set [x42, x43, x44, x45, x46, x47, x48, x49, x50, x51, x52, x53, x54, x55, x56, x57] (Int.toNat x0) y5) 13 0) (List.getD (List.set [x42, x43, x44, x45, x46, x47, x48, x49, x50, x51, x52, x53, x54, x55, x56, x57] (Int.toNat x0) y5) 14 0) (List.getD (List.set [x42, x43, x44, x45, x46, x47, x48, x49, x50, x51, x52, x53, x54, x55, x56, x57] (Int.toNat x0) y5) 15 0))
       else (none))
      else (none)))
    else (Option.bind (F35 FUEL x1 x2 x3 x4 x5 x6 x7 x8 x9 x10 x11 x12 x13 x14 x15 x16 x17 x18 x19 x20 x42 x43 x44 x45 x46 x47 x48 x49 x50 x51 x52 x53 x54 x55 x56 x57) fun y6 =>
     some ⟨y6.q0, y6.q18, y6.q19, y6.q1, y6.q2, y6.q3, y6.q4, y6.q5, y6.q6, y6.q7, y6.q8, y6.q9, y6.q10, y6.q11, y6.q12, y6.q13, y6.q14, y6.q15, y6.q16, y6.q17, x39, x40, x41⟩)
def F17_c1 : Nat → Int → List (Int) → List (Int) → Int → Int → Int → Int → Int → Int → Int → Int → Int → Int → Int → Int → Int → Int → Int → Int → Int → Int → Int → Int → Int → Int → Int → Int → Int → Int → Int → Int → Int → Int → Int → Int → Int → Int → Int → Int → Int → Bool → Int → Int → Int → Int → Int → Int → Int → Int → Int → Int → Int → Int → Int → Int → Int → Int → Option (Sil2i19b)
  | 0, _, _, _, _, _, _, _, _, _, _, _, _, _, _, _, _, _, _, _, _, _, _, _, _, _, _, _, _, _, _, _, _, _, _, _, _, _, _, _, _, _, _, _, _, _, _, _, _, _, _, _, _, _, _, _, _, _ => none
  | _ + 1, x0, x1, x2, x3, x4, x5, x6, x7, x8, x9, x10, x11, x12, x13, x14, x15, x16, x17, x18, x19, _, _, _, _, _, _, _, _, _, _, _, _, _, _, _, _, _, _, x38, x39, x40, x41, x42, x43, x44, x45, x46, x47, x48, x49, x50, x51, x52, x53, x54, x55, x56 => Option.bind (F35 FUEL x0 x1 x2 x3 x4 x5 x6 x7 x8 x9 x10 x11 x12 x13 x14 x15 x16 x17 x18 x19 x41 x42 x43 x44 x45 x46 x47 x48 x49 x50 x51 x52 x53 x54 x55 x56) fun y7 =>
    some ⟨y7.q0, y7.q18, y7.q19, y7.q1, y7.q2, y7.q3, y7.q4, y7.q5, y7.q6, y7.q7, y7.q8, y7.q9, y7.q10, y7.q11, y7.q12, y7.q13, y7.q14, y7.q15, y7.q16, y7.q17, x38, x39, x40⟩
end
def F17 (n : Nat) (a0 : Int) (a1 : List (Int)) (a2 : List (Int)) (a3 : Int) (a4 : Int) (a5 : Int) (a6 : Int) (a7 : Int) (a8 : Int) (a9 : Int) (a10 : Int) (a11 : Int) (a12 : Int) (a13 : Int) (a14 : Int) (a15 : Int) (a16 : Int) (a17 : Int) (a18 : Int) (a19 : Int) (a20 : Int) : Option (Sil2i19b) :=
  Option.bind (F28 FUEL a0 a1 a2 a3 a4 a5 a6 a7 a8 a9 a10 a11 a12 a13 a14 a15 a16 a17 a18 a19) fun y1 =>
  bif (!y1) then
  (Option.bind (F36 FUEL a0 a1 a2 a3 a4 a5 a6 a7 a8 a9 a10 a11 a12 a13 a14 a15 a16 a17 a18 a19) fun y2 =>
   some ⟨y2.q0, y2.q18, y2.q19, y2.q1, y2.q2, y2.q3, y2.q4, y2.q5, y2.q6, y2.q7, y2.q8, y2.q9, y2.q10, y2.q11, y2.q12, y2.q13, y2.q14, y2.q15, y2.q16, y2.q17, (0), (0), false⟩)
  else (bif (ilt a20 (0)) then
   (F17_c0 n (0) a0 a1 a2 a3 a4 a5 a6 a7 a8 a9 a10 a11 a12 a13 a14 a15 a16 a17 a18 a19 (0) (0) (0) (0) (0) (0) (0) (0) (0) (0) (0) (0) (0) (0) (0) (0) (0) (0) (0) (0) false a4 a5 a6 a7 a8 a9 a10 a11 a12 a13 a14 a15 a16 a17 a18 a19)
   else (bif (ige a20 (16)) then
    (F17_c0 n (0) a0 a1 a2 a3 a4 a5 a6 a7 a8 a9 a10 a11 a12 a13 a14 a15 a16 a17 a18 a19 (0) (0) (0) (0) (0) (0) (0) (0) (0) (0) (0) (0) (0) (0) (0) (0) (0) (0) (0) (0) false a4 a5 a6 a7 a8 a9 a10 a11 a12 a13 a14 a15 a16 a17 a18 a19)
    else (F17_c0 n a20 a0 a1 a2 a3 a4 a5 a6 a7 a8 a9 a10 a11 a12 a13 a14 a15 a16 a17 a18 a19 (0) (0) (0) (0) (0) (0) (0) (0) (0) (0) (0) (0) (0) (0) (0) (0) (0) (0) (0) (0) false a4 a5 a6 a7 a8 a9 a10 a11 a12 a13 a14 a15 a16 a17 a18 a19)))

/-! ### garland/finger.isPlace -/
def F33 (_n : Nat) (a0 : Int) : Option (Bool) :=
  bif (ige a0 (0)) then
  (some (ilt a0 (65536)))
  else (some false)

/-! ### garland/finger.Set -/
structure Si19l2 where
  q0 : Int
  q1 : Int
  q2 : Int
  q3 : Int
  q4 : Int
  q5 : Int
  q6 : Int
  q7 : Int
  q8 : Int
  q9 : Int
  q10 : Int
  q11 : Int
  q12 : Int
  q13 : Int
  q14 : Int
  q15 : Int
  q16 : Int
  q17 : Int
  q18 : Int
  q19 : List (Int)
  q20 : List (Int)
def F14_c0 : Nat → Int → List (Int) → List (Int) → Int → Int → Int → Int → Int → Int → Int → Int → Int → Int → Int → Int → Int → Int → Int → Int → Int → Int → Int → Int → Int → Int → Int → Int → Int → Int → Int → Int → Int → Int → Int → Int → Int → Int → Int → Option (Si19l2)
  | 0, _, _, _, _, _, _, _, _, _, _, _, _, _, _, _, _, _, _, _, _, _, _, _, _, _, _, _, _, _, _, _, _, _, _, _, _, _, _ => none
  | _ + 1, x0, x1, x2, x3, x4, x5, x6, x7, x8, x9, x10, x11, x12, x13, x14, x15, x16, x17, x18, x19, _, _, _, _, _, _, _, _, _, _, _, _, _, _, _, _, _, _ => Option.bind (F36 FUEL x0 x1 x2 x3 x4 x5 x6 x7 x8 x9 x10 x11 x12 x13 x14 x15 x16 x17 x18 x19) fun y5 =>
    some ⟨y5.q0, y5.q1, y5.q2, y5.q3, y5.q4, y5.q5, y5.q6, y5.q7, y5.q8, y5.q9, y5.q10, y5.q11, y5.q12, y5.q13, y5.q14, y5.q15, y5.q16, y5.q17, (2), y5.q18, y5.q19⟩
def F14 (n : Nat) (a0 : Int) (a1 : List (Int)) (a2 : List (Int)) (a3 : Int) (a4 : Int) (a5 : Int) (a6 : Int) (a7 : Int) (a8 : Int) (a9 : Int) (a10 : Int) (a11 : Int) (a12 : Int) (a13 : Int) (a14 : Int) (a15 : Int) (a16 : Int) (a17 : Int) (a18 : Int) (a19 : Int) (a20 : Int) (a21 : Int) : Option (Si19l2) :=
  Option.bind (F10 FUEL a0 a1 a2 a3 a4 a5 a6 a7 a8 a9 a10 a11 a12 a13 a14 a15 a16 a17 a18 a19 a20) fun y1 =>
  bif (ine y1.2 (0)) then
  (F14_c0 n a0 a1 a2 a3 a4 a5 a6 a7 a8 a9 a10 a11 a12 a13 a14 a15 a16 a17 a18 a19 (0) (0) (0) (0) (0) (0) (0) (0) (0) (0) (0) (0) (0) (0) (0) (0) (0) (0))
  else (Option.bind (F33 FUEL a21) fun y2 =>
   bif (!y2) then
   (F14_c0 n a0 a1 a2 a3 a4 a5 a6 a7 a8 a9 a10 a11 a12 a13 a14 a15 a16 a17 a18 a19 (0) (0) (0) (0) (0) (0) (0) (0) (0) (0) (0) (0) (0) (0) (0) (0) (0) (0))
   else (Option.bind (F34 FUEL a0 a1 a2 a3 a4 a5 a6 a7 a8 a9 a10 a11 a12 a13 a14 a15 a16 a17 a18 a19 a21) fun y3 =>
    bif (inb a20 16) then
    (bif (nlt (Int.toNat a20) 16) then
     (Option.bind (F35 FUEL a0 a1 a2 a3 a4 a5 a6 a7 a8 a9 a10 a11 a12 a13 a14 a15 a16 a17 a18 a19 (List.getD (List.set [a4, a5, a6, a7, a8, a9, a10, a11, a12, a13, a14, a15, a16, a17, a18, a19] (Int.toNat a20) y3) 0 0) (List.getD (List.set [a4, a5, a6, a7, a8, a9, a10, a11, a12, a13, a14, a15, a16, a17, a18, a19] (Int.toNat a20) y3) 1 0) (List.getD (List.set [a4, a5, a6, a7, a8, a9, a10, a11, a12, a13, a14, a15, a16, a17, a18, a19] (Int.toNat a20) y3) 2 0) (List.getD (List.set [a4, a5, a6, a7, a8, a9, a10, a11, a12, a13, a14, a15, a16, a17, a18, a19] (Int.toNat a20) y3) 3 0) (List.getD (List.set [a4, a5, a6, a7, a8, a9, a10, a11, a12, a13, a14, a15, a16, a17, a18, a19] (Int.toNat a20) y3) 4 0) (List.getD (List.set [a4, a5, a6, a7, a8, a9, a10, a11, a12, a13, a14, a15, a16, a17, a18, a19] (Int.toNat a20) y3) 5 0) (List.getD (List.set [a4, a5, a6, a7, a8, a9, a10, a11, a12, a13, a14, a15, a16, a17, a18, a19] (Int.toNat a20) y3) 6 0) (List.getD (List.set [a4, a5, a6, a7, a8, a9, a10, a11, a12, a13, a14, a15, a16, a17, a18, a19] (Int.toNat a20) y3) 7 0) (List.getD (List.set [a4, a5, a6, a7, a8, a9, a10, a11, a12, a13, a14, a15, a16, a17, a18, a19] (Int.toNat a20) y3) 8 0) (List.getD (List.set [a4, a5, a6, a7, a8, a9, a10, a11, a12, a13, a14, a15, a16, a17, a18, a19] (Int.toNat a20) y3) 9 0) (List.getD (List.set [a4, a5, a6, a7, a8, a9, a10, a11, a12, a13, a14, a15, a16, a17, a18, a19] (Int.toNat a20) y3) 10 0) (List.getD (List.set [a4, a5, a6, a7, a8, a9, a10, a11, a12, a13, a14, a15, a16, a17, a18, a19] (Int.toNat a20) y3) 11 0) (List.getD (List.set [a4, a5, a6, a7, a8, a9, a10, a11, a12, a13, a14, a15, a16, a17, a18, a19] (Int.toNat a20) y3) 12 0) (List.getD (List.set [a4, a5, a6, a7, a8, a9, a10, a11, a12, a13, a14, a15, a16, a17, a18, a19] (Int.toNat a20) y3) 13 0) (List.getD (List.set [a4, a5, a6, a7, a8, a9, a10, a11, a12, a13, a14, a15, a16, a17, a18, a19] (Int.toNat a20) y3) 14 0) (List.getD (List.set [a4, a5, a6, a7, a8, a9, a10, a11, a12, a13, a14, a15, a16, a17, a18, a19] (Int.toNat a20) y3) 15 0)) fun y4 =>
      some ⟨y4.q0, y4.q1, y4.q2, y4.q3, y4.q4, y4.q5, y4.q6, y4.q7, y4.q8, y4.q9, y4.q10, y4.q11, y4.q12, y4.q13, y4.q14, y4.q15, y4.q16, y4.q17, (0), y4.q18, y4.q19⟩)
     else (none))
    else (none)))

/-! ### garland/arc.Owner -/
mutual
def F40_c0 : Nat → Int → Int → Option (Int × Bool)
  | 0, _, _ => none
  | _ + 1, x0, x1 => some (x0, (ilt x1 (65536)))
def F40_c1 : Nat → List (Int) → Int → Int → Int → Int → Option (Int × Bool)
  | 0, _, _, _, _, _ => none
  | n + 1, x0, x1, x2, x3, x4 => bif (ieq x4 (ofN (List.length x0))) then
    (F40_c0 n x2 x3)
    else (bif (inb x4 (List.length x0)) then
     (Option.bind (F57 FUEL x1 (List.getD x0 (Int.toNat x4) 0)) fun y3 =>
      bif (ilt y3 x3) then
      (bif (inb x4 (List.length x0)) then
       (Option.bind (F50 FUEL (List.getD x0 (Int.toNat x4) 0)) fun y4 =>
        F40_c1 n x0 x1 y4 y3 (iadd .i64 x4 (1)))
       else (none))
      else (F40_c1 n x0 x1 x2 x3 (iadd .i64 x4 (1))))
     else (none))
end
def F40 (n : Nat) (a0 : List (Int)) (a1 : Int) : Option (Int × Bool) :=
  bif (ieq (0) (ofN (List.length a0))) then
  (F40_c0 n (0) (65536))
  else (bif (inb (0) (List.length a0)) then
   (Option.bind (F57 FUEL a1 (List.getD a0 (Int.toNat (0)) 0)) fun y1 =>
    bif (ilt y1 (65536)) then
    (bif (inb (0) (List.length a0)) then
     (Option.bind (F50 FUEL (List.getD a0 (Int.toNat (0)) 0)) fun y2 =>
      F40_c1 n a0 a1 y2 y1 (iadd .i64 (0) (1)))
     else (none))
    else (F40_c1 n a0 a1 (0) (65536) (iadd .i64 (0) (1))))
   else (none))

/-! ### garland/finger.Table -/
mutual
def F19_c0 : Nat → Int → List (Int) → List (Int) → Int → Int → Int → Int → Int → Int → Int → Int → Int → Int → Int → Int → Int → Int → Int → Int → Int → Int → Int → Int → Int → Int → Int → Int → Int → Int → Int → Int → Int → Int → Int → Int → Int → Int → Int → Option (Si19l2)
  | 0, _, _, _, _, _, _, _, _, _, _, _, _, _, _, _, _, _, _, _, _, _, _, _, _, _, _, _, _, _, _, _, _, _, _, _, _, _, _ => none
  | _ + 1, x0, x1, x2, x3, x4, x5, x6, x7, x8, x9, x10, x11, x12, x13, x14, x15, x16, x17, x18, x19, _, _, _, _, _, _, _, _, _, _, _, _, _, _, _, _, _, _ => Option.bind (F36 FUEL x0 x1 x2 x3 x4 x5 x6 x7 x8 x9 x10 x11 x12 x13 x14 x15 x16 x17 x18 x19) fun y2 =>
    some ⟨y2.q0, y2.q1, y2.q2, y2.q3, y2.q4, y2.q5, y2.q6, y2.q7, y2.q8, y2.q9, y2.q10, y2.q11, y2.q12, y2.q13, y2.q14, y2.q15, y2.q16, y2.q17, (2), y2.q18, y2.q19⟩
def F19_c1 : Nat → List (Int) → Int → Int → Int → List (Int) → List (Int) → Int → Int → Int → Int → Int → Int → Int → Int → Int → Int → Int → Int → Int → Int → Int → Int → Int → List (Int) → Int → Int → Int → Int → Int → Int → Int → Int → Int → Int → Int → Int → Int → Int → Int → Int → Int → Int → Int → Int → Int → Int → Int → Int → Int → Int → Int → Int → Int → Int → Int → Int → Int → Int → Option (Si19l2)
  | 0, _, _, _, _, _, _, _, _, _, _, _, _, _, _, _, _, _, _, _, _, _, _, _, _, _, _, _, _, _, _, _, _, _, _, _, _, _, _, _, _, _, _, _, _, _, _, _, _, _, _, _, _, _, _, _, _, _, _ => none
  | n + 1, x0, x1, x2, x3, x4, x5, x6, x7, x8, x9, x10, x11, x12, x13, x14, x15, x16, x17, x18, x19, x20, x21, x22, x23, x24, x25, x26, x27, x28, x29, x30, x31, x32, x33, x34, x35, x36, x37, x38, x39, x40, x41, x42, x43, x44, x45, x46, x47, x48, x49, x50, x51, x52, x53, x54, x55, x56, x57 => bif (ilt x2 x1) then
    (bif (inb x2 (List.length x0)) then
     (Option.bind (F33 FUEL (List.getD x0 (Int.toNat x2) 0)) fun y3 =>
      bif (!y3) then
      (F19_c0 n x3 x4 x5 x6 x7 x8 x9 x10 x11 x12 x13 x14 x15 x16 x17 x18 x19 x20 x21 x22 x24 x25 x26 x27 x28 x29 x30 x31 x32 x33 x34 x35 x36 x37 x38 x39 x40 x41)
      else (F19_c1 n x0 x1 (iadd .i64 x2 (1)) x3 x4 x5 x6 x7 x8 x9 x10 x11 x12 x13 x14 x15 x16 x17 x18 x19 x20 x21 x22 x23 x24 x25 x26 x27 x28 x29 x30 x31 x32 x33 x34 x35 x36 x37 x38 x39 x40 x41 x42 x43 x44 x45 x46 x47 x48 x49 x50 x51 x52 x53 x54 x55 x56 x57))
     else (none))
    else (F19_c2 n (0) x3 x4 x5 x6 x7 x8 x9 x10 x11 x12 x13 x14 x15 x16 x17 x18 x19 x20 x21 x22 x23 x24 x25 x26 x27 x28 x29 x30 x31 x32 x33 x34 x35 x36 x37 x38 x39 x40 x41 x42 x43 x44 x45 x46 x47 x48 x49 x50 x51 x52 x53 x54 x55 x56 x57)
def F19_c2 : Nat → Int → Int → List (Int) → List (Int) → Int → Int → Int → Int → Int → Int → Int → Int → Int → Int → Int → Int → Int → Int → Int → Int → Int → List (Int) → Int → Int → Int → Int → Int → Int → Int → Int → Int → Int → Int → Int → Int → Int → Int → Int → Int → Int → Int → Int → Int → Int → Int → Int → Int → Int → Int → Int → Int → Int → Int → Int → Int → Int → Option (Si19l2)
  | 0, _, _, _, _, _, _, _, _, _, _, _, _, _, _, _, _, _, _, _, _, _, _, _, _, _, _, _, _, _, _, _, _, _, _, _, _, _, _, _, _, _, _, _, _, _, _, _, _, _, _, _, _, _, _, _, _ => none
  | n + 1, x0, x1, x2, x3, x4, x5, x6, x7, x8, x9, x10, x11, x12, x13, x14, x15, x16, x17, x18, x19, x20, x21, x22, x23, x24, x25, x26, x27, x28, x29, x30, x31, x32, x33, x34, x35, x36, x37, x38, x39, x40, x41, x42, x43, x44, x45, x46, x47, x48, x49, x50, x51, x52, x53, x54, x55 => bif (ilt x0 (16)) then
    (Option.bind (F29 FUEL x1 x0) fun y4 =>
     Option.bind (F40 FUEL x21 y4) fun y5 =>
     Option.bind (F34 FUEL x1 x2 x3 x4 x5 x6 x7 x8 x9 x10 x11 x12 x13 x14 x15 x16 x17 x18 x19 x20 y5.1) fun y6 =>
     bif (inb x0 16) then
     (bif (nlt (Int.toNat x0) 16) then
      (F19_c2 n (iadd .i64 x0 (1)) x1 x2 x3 x4 x5 x6 x7 x8 x9 x10 x11 x12 x13 x14 x15 x16 x17 x18 x19 x20 x21 x22 x23 x24 x25 x26 x27 x28 x29 x30 x31 x32 x33 x34 x35 x36 x37 x38 x39 (List.getD (List.set [x40, x41, x42, x43, x44, x45, x46, x47, x48, x49, x50, x51, x52, x53, x54, x55] (Int.toNat x0) y6) 0 0) (List.getD (List.set [x40, x41, x42, x43, x44, x45, x46, x47, x48, x49, x50, x51, x52, x53, x54, x55] (Int.toNat x0) y6) 1 0) (List.getD (List.set [x40, x41, x42, x43, x44, x45, x46, x47, x48, x49, x50, x51, x52, x53, x54, x55] (Int.toNat x0) y6) 2 0) (List.getD (List.set [x40, x41, x42, x43, x44, x45, x46, x47, x48, x49, x50, x51, x52, x53, x54, x55] (Int.toNat x0) y6) 3 0) (List.getD (List.set [x40, x41, x42, x43, x44, x45, x46, x47, x48, x49, x50, x51, x52, x53, x54, x55] (Int.toNat x0) y6) 4 0) (List.getD (List.set [x40, x41, x42, x43, x44, x45, x46, x47, x48, x49, x50, x51, x52, x53, x54, x55] (Int.toNat x0) y6) 5 0) (List.getD (List.set [x40, x41, x42, x43, x44, x45, x46, x47, x48, x49, x50, x51, x52, x53, x54, x55] (Int.toNat x0) y6) 6 0) (List.getD (List.set [x40, x41, x42, x43, x44, x45, x46, x47, x48, x49, x50, x51, x52, x53, x54, x55] (Int.toNat x0) y6) 7 0) (List.getD (List.set [x40, x41, x42, x43, x44, x45, x46, x47, x48, x49, x50, x51, x52, x53, x54, x55] (Int.toNat x0) y6) 8 0) (List.getD (List.set [x40, x41, x42, x43, x44, x45, x46, x47, x48, x49, x50, x51, x52, x53, x54, x55] (Int.toNat x0) y6) 9 0) (List.getD (List.set [x40, x41, x42, x43, x44, x45, x46, x47, x48, x49, x50, x51, x52, x53, x54, x55] (Int.toNat x0) y6) 10 0) (List.getD (List.set [x40, x41, x42, x43, x44, x45, x46, x47, x48, x49, x50, x51, x52, x53, x54, x55] (Int.toNat x0) y6) 11 0) (List.getD (List.set [x40, x41, x42, x43, x44, x45, x46, x47, x48, x49, x50, x51, x52, x53, x54, x55] (Int.toNat x0) y6) 12 0) (List.getD (List.set [x40, x41, x42, x43, x44, x45, x46, x47, x48, x49, x50, x51, x52, x53, x54, x55] (Int.toNat x0) y6) 13 0) (List.getD (List.set [x40, x41, x42, x43, x44, x45, x46, x47, x48, x49, x50, x51, x52, x53, x54, x55] (Int.toNat x0) y6) 14 0) (List.getD (List.set [x40, x41, x42, x43, x44, x45, x46, x47, x48, x49, x50, x51, x52, x53, x54, x55] (Int.toNat x0) y6) 15 0))
      else (none))
     else (none))
    else (Option.bind (F35 FUEL x1 x2 x3 x4 x5 x6 x7 x8 x9 x10 x11 x12 x13 x14 x15 x16 x17 x18 x19 x20 x40 x41 x42 x43 x44 x45 x46 x47 x48 x49 x50 x51 x52 x53 x54 x55) fun y7 =>
     some ⟨y7.q0, y7.q1, y7.q2, y7.q3, y7.q4, y7.q5, y7.q6, y7.q7, y7.q8, y7.q9, y7.q10, y7.q11, y7.q12, y7.q13, y7.q14, y7.q15, y7.q16, y7.q17, (0), y7.q18, y7.q19⟩)
end
def F19 (n : Nat) (a0 : Int) (a1 : List (Int)) (a2 : List (Int)) (a3 : Int) (a4 : Int) (a5 : Int) (a6 : Int) (a7 : Int) (a8 : Int) (a9 : Int) (a10 : Int) (a11 : Int) (a12 : Int) (a13 : Int) (a14 : Int) (a15 : Int) (a16 : Int) (a17 : Int) (a18 : Int) (a19 : Int) (a20 : List (Int)) : Option (Si19l2) :=
  bif (ieq (ofN (List.length a20)) (0)) then
  (F19_c0 n a0 a1 a2 a3 a4 a5 a6 a7 a8 a9 a10 a11 a12 a13 a14 a15 a16 a17 a18 a19 (0) (0) (0) (0) (0) (0) (0) (0) (0) (0) (0) (0) (0) (0) (0) (0) (0) (0))
  else (Option.bind (F28 FUEL a0 a1 a2 a3 a4 a5 a6 a7 a8 a9 a10 a11 a12 a13 a14 a15 a16 a17 a18 a19) fun y1 =>
   bif (!y1) then
   (F19_c0 n a0 a1 a2 a3 a4 a5 a6 a7 a8 a9 a10 a11 a12 a13 a14 a15 a16 a17 a18 a19 (0) (0) (0) (0) (0) (0) (0) (0) (0) (0) (0) (0) (0) (0) (0) (0) (0) (0))
   else (F19_c1 n a20 (ofN (List.length a20)) (0) a0 a1 a2 a3 a4 a5 a6 a7 a8 a9 a10 a11 a12 a13 a14 a15 a16 a17 a18 a19 a20 (0) (0) (0) (0) (0) (0) (0) (0) (0) (0) (0) (0) (0) (0) (0) (0) (0) (0) a4 a5 a6 a7 a8 a9 a10 a11 a12 a13 a14 a15 a16 a17 a18 a19))

/-! ### garland/garlandlaw17.wakes -/
def F9 (_n : Nat) : Option (Bool) :=
  Option.bind (F27 FUEL (0) [(9), (40)]) fun y1 =>
  Option.bind (F17 FUEL y1.q0 y1.q19 [] y1.q1 y1.q2 y1.q3 y1.q4 y1.q5 y1.q6 y1.q7 y1.q8 y1.q9 y1.q10 y1.q11 y1.q12 y1.q13 y1.q14 y1.q15 y1.q16 y1.q17 (0)) fun y2 =>
  Option.bind (F10 FUEL y1.q0 y1.q19 [] y1.q1 y1.q2 y1.q3 y1.q4 y1.q5 y1.q6 y1.q7 y1.q8 y1.q9 y1.q10 y1.q11 y1.q12 y1.q13 y1.q14 y1.q15 y1.q16 y1.q17 (5)) fun y3 =>
  Option.bind (F12 FUEL y1.q0 y1.q19 [] y1.q1 y1.q2 y1.q3 y1.q4 y1.q5 y1.q6 y1.q7 y1.q8 y1.q9 y1.q10 y1.q11 y1.q12 y1.q13 y1.q14 y1.q15 y1.q16 y1.q17 (3)) fun y4 =>
  Option.bind (F12 FUEL y1.q0 y1.q19 [] y1.q1 y1.q2 y1.q3 y1.q4 y1.q5 y1.q6 y1.q7 y1.q8 y1.q9 y1.q10 y1.q11 y1.q12 y1.q13 y1.q14 y1.q15 y1.q16 y1.q17 (4)) fun y5 =>
  Option.bind (F14 FUEL y1.q0 y1.q19 [] y1.q1 y1.q2 y1.q3 y1.q4 y1.q5 y1.q6 y1.q7 y1.q8 y1.q9 y1.q10 y1.q11 y1.q12 y1.q13 y1.q14 y1.q15 y1.q16 y1.q17 (15) (0)) fun y6 =>
  Option.bind (F14 FUEL y1.q0 y1.q19 [] y1.q1 y1.q2 y1.q3 y1.q4 y1.q5 y1.q6 y1.q7 y1.q8 y1.q9 y1.q10 y1.q11 y1.q12 y1.q13 y1.q14 y1.q15 y1.q16 y1.q17 (16) (9)) fun y7 =>
  Option.bind (F19 FUEL y1.q0 y1.q19 [] y1.q1 y1.q2 y1.q3 y1.q4 y1.q5 y1.q6 y1.q7 y1.q8 y1.q9 y1.q10 y1.q11 y1.q12 y1.q13 y1.q14 y1.q15 y1.q16 y1.q17 [(0), (9), (40)]) fun y8 =>
  bif (inb (0) 16) then
  (bif (nlt (Int.toNat (0)) 16) then
   (bif (ieq (List.getD [y2.q4, y2.q5, y2.q6, y2.q7, y2.q8, y2.q9, y2.q10, y2.q11, y2.q12, y2.q13, y2.q14, y2.q15, y2.q16, y2.q17, y2.q18, y2.q19] (Int.toNat (0)) 0) (9)) then
    (bif (inb (3) 16) then
     (bif (nlt (Int.toNat (3)) 16) then
      (bif (ieq (List.getD [y2.q4, y2.q5, y2.q6, y2.q7, y2.q8, y2.q9, y2.q10, y2.q11, y2.q12, y2.q13, y2.q14, y2.q15, y2.q16, y2.q17, y2.q18, y2.q19] (Int.toNat (3)) 0) (9)) then
       (bif (inb (4) 16) then
        (bif (nlt (Int.toNat (4)) 16) then
         (bif (ieq (List.getD [y2.q4, y2.q5, y2.q6, y2.q7, y2.q8, y2.q9, y2.q10, y2.q11, y2.q12, y2.q13, y2.q14, y2.q15, y2.q16, y2.q17, y2.q18, y2.q19] (Int.toNat (4)) 0) (-1)) then
          (bif (ieq y2.q20 (4)) then
           (bif (ieq y2.q21 (16)) then
            (bif y2.q22 then
             (bif (ieq y3.1 (32)) then
              (bif (ieq y3.2 (0)) then
               (bif (ieq y4.1 (9)) then
                (bif y4.2 then
                 (bif (!y5.2) then
                  (bif (inb (15) 16) then
                   (bif (nlt (Int.toNat (15)) 16) then
                    (bif (ieq (List.getD [y6.q2, y6.q3, y6.q4, y6.q5, y6.q6, y6.q7, y6.q8, y6.q9, y6.q10, y6.q11, y6.q12, y6.q13, y6.q14, y6.q15, y6.q16, y6.q17] (Int.toNat (15)) 0) (-1)) then
                     (bif (ieq y6.q18 (0)) then
                      (bif (ieq y7.q18 (2)) then
                       (bif (ieq y8.q18 (0)) then
                        (bif (inb (3) 16) then
                         (bif (nlt (Int.toNat (3)) 16) then
                          (bif (ieq (List.getD [y8.q2, y8.q3, y8.q4, y8.q5, y8.q6, y8.q7, y8.q8, y8.q9, y8.q10, y8.q11, y8.q12, y8.q13, y8.q14, y8.q15, y8.q16, y8.q17] (Int.toNat (3)) 0) (9)) then
                           (bif (inb (5) 16) then
                            (bif (nlt (Int.toNat (5)) 16) then
                             (bif (ieq (List.getD [y8.q2, y8.q3, y8.q4, y8.q5, y8.q6, y8.q7, y8.q8, y8.q9, y8.q10, y8.q11, y8.q12, y8.q13, y8.q14, y8.q15, y8.q16, y8.q17] (Int.toNat (5)) 0) (40)) then
                              (bif (inb (6) 16) then
                               (bif (nlt (Int.toNat (6)) 16) then
                                (some (ieq (List.getD [y8.q2, y8.q3, y8.q4, y8.q5, y8.q6, y8.q7, y8.q8, y8.q9, y8.q10, y8.q11, y8.q12, y8.q13, y8.q14, y8.q15, y8.q16, y8.q17] (Int.toNat (6)) 0) (-1)))
                                else (none))
                               else (none))
                              else (some false))
                             else (none))
                            else (none))
                           else (some false))
                          else (none))
                         else (none))
                        else (some false))
                       else (some false))
                      else (some false))
                     else (some false))
                    else (none))
                   else (none))
                  else (some false))
                 else (some false))
                else (some false))
               else (some false))
              else (some false))
             else (some false))
            else (some false))
           else (some false))
          else (some false))
         else (none))
        else (none))
       else (some false))
      else (none))
     else (none))
    else (some false))
   else (none))
  else (none)

/-! ### garland/garlandref03.Start -/
def F25_c0 : Nat → Int → Int → Int → Int → Option (Int)
  | 0, _, _, _, _ => none
  | n + 1, x0, x1, x2, x3 => bif (ilt x3 x1) then
    (F25_c0 n x0 x1 (imul .i64 (2) x2) (iadd .i64 x3 (1)))
    else (Option.bind (F44 FUEL x0) fun y3 =>
     Option.bind (F44 FUEL (iadd .i64 y3 x2)) fun y4 =>
     some y4)
def F25 (n : Nat) (a0 : Int) (a1 : Int) : Option (Int) :=
  bif (ilt a1 (0)) then
  (Option.bind (F44 FUEL a0) fun y1 =>
   some y1)
  else (bif (ige a1 (16)) then
   (Option.bind (F44 FUEL a0) fun y2 =>
    some y2)
   else (F25_c0 n a0 a1 (1) (0)))

/-! ### garland/garlandref17.Start -/
def F11 (_n : Nat) (a0 : Int) (a1 : List (Int)) (a2 : List (Int)) (a3 : Int) (a4 : Int) (a5 : Int) (a6 : Int) (a7 : Int) (a8 : Int) (a9 : Int) (a10 : Int) (a11 : Int) (a12 : Int) (a13 : Int) (a14 : Int) (a15 : Int) (a16 : Int) (a17 : Int) (a18 : Int) (a19 : Int) (a20 : Int) : Option (Int × Int) :=
  Option.bind (F21 FUEL a0 a1 a2 a3 a4 a5 a6 a7 a8 a9 a10 a11 a12 a13 a14 a15 a16 a17 a18 a19) fun y1 =>
  bif (!y1) then
  (some ((0), (2)))
  else (bif (ilt a20 (0)) then
   (some ((0), (2)))
   else (bif (ige a20 (16)) then
    (some ((0), (2)))
    else (Option.bind (F25 FUEL a0 a20) fun y2 =>
     some (y2, (0)))))

/-! ### garland/garlandref03.Owner -/
def F22_c0 : Nat → List (Int) → Int → Int → Int → Option (Int × Bool)
  | 0, _, _, _, _ => none
  | n + 1, x0, x1, x2, x3 => bif (ilt x3 (ofN (List.length x0))) then
    (bif (inb x3 (List.length x0)) then
     (Option.bind (F26 FUEL x1 (List.getD x0 (Int.toNat x3) 0)) fun y2 =>
      Option.bind (F26 FUEL x1 x2) fun y3 =>
      bif (ilt y2 y3) then
      (bif (inb x3 (List.length x0)) then
       (Option.bind (F44 FUEL (List.getD x0 (Int.toNat x3) 0)) fun y4 =>
        F22_c0 n x0 x1 y4 (iadd .i64 x3 (1)))
       else (none))
      else (F22_c0 n x0 x1 x2 (iadd .i64 x3 (1))))
     else (none))
    else (some (x2, true))
def F22 (n : Nat) (a0 : List (Int)) (a1 : Int) : Option (Int × Bool) :=
  bif (ieq (ofN (List.length a0)) (0)) then
  (some ((0), false))
  else (bif (inb (0) (List.length a0)) then
   (Option.bind (F44 FUEL (List.getD a0 (Int.toNat (0)) 0)) fun y1 =>
    F22_c0 n a0 a1 y1 (0))
   else (none))

/-! ### garland/garlandref13.Anchor -/
def F45 (_n : Nat) (a0 : Int) (a1 : List (Int)) (a2 : List (Int)) (a3 : Int) (a4 : Int) (a5 : Int) (a6 : Int) (a7 : Int) (a8 : Int) (a9 : Int) (a10 : Int) (a11 : Int) (a12 : Int) (a13 : Int) (a14 : Int) (a15 : Int) (a16 : Int) (a17 : Int) (a18 : Int) (a19 : Int) : Option (Int) :=
  Option.bind (F21 FUEL a0 a1 a2 a3 a4 a5 a6 a7 a8 a9 a10 a11 a12 a13 a14 a15 a16 a17 a18 a19) fun y1 =>
  bif (!y1) then
  (some (-1))
  else (Option.bind (F22 FUEL a1 (iadd .i64 a0 (1))) fun y2 =>
   some y2.1)

/-! ### garland/garlandref13.First -/
def F24 (_n : Nat) (a0 : Int) (a1 : List (Int)) (a2 : List (Int)) (a3 : Int) (a4 : Int) (a5 : Int) (a6 : Int) (a7 : Int) (a8 : Int) (a9 : Int) (a10 : Int) (a11 : Int) (a12 : Int) (a13 : Int) (a14 : Int) (a15 : Int) (a16 : Int) (a17 : Int) (a18 : Int) (a19 : Int) : Option (Int) :=
  Option.bind (F21 FUEL a0 a1 a2 a3 a4 a5 a6 a7 a8 a9 a10 a11 a12 a13 a14 a15 a16 a17 a18 a19) fun y1 =>
  bif y1 then
  (bif (igt (ofN (List.length a2)) (0)) then
   (bif (inb (0) (List.length a2)) then
    (some (List.getD a2 (Int.toNat (0)) 0))
    else (none))
   else (Option.bind (F45 FUEL a0 a1 a2 a3 a4 a5 a6 a7 a8 a9 a10 a11 a12 a13 a14 a15 a16 a17 a18 a19) fun y2 =>
    some y2))
  else (Option.bind (F45 FUEL a0 a1 a2 a3 a4 a5 a6 a7 a8 a9 a10 a11 a12 a13 a14 a15 a16 a17 a18 a19) fun y3 =>
   some y3)

/-! ### garland/garlandref03.In -/
def F54 (_n : Nat) (a0 : Int) (a1 : Int) (a2 : Int) : Option (Bool) :=
  Option.bind (F44 FUEL a0) fun y1 =>
  Option.bind (F44 FUEL a2) fun y2 =>
  bif (ieq y1 y2) then
  (Option.bind (F44 FUEL a1) fun y3 =>
   Option.bind (F44 FUEL a0) fun y4 =>
   some (ine y3 y4))
  else (Option.bind (F26 FUEL a0 a1) fun y5 =>
   bif (igt y5 (0)) then
   (Option.bind (F26 FUEL a0 a1) fun y6 =>
    Option.bind (F26 FUEL a0 a2) fun y7 =>
    some (ilt y6 y7))
   else (some false))

/-! ### garland/garlandref03.UpTo -/
def F32 (_n : Nat) (a0 : Int) (a1 : Int) (a2 : Int) : Option (Bool) :=
  Option.bind (F54 FUEL a0 a1 a2) fun y1 =>
  bif y1 then
  (some true)
  else (Option.bind (F44 FUEL a1) fun y2 =>
   Option.bind (F44 FUEL a2) fun y3 =>
   some (ieq y2 y3))

/-! ### garland/garlandref17.Once -/
def F13 (_n : Nat) (a0 : Int) (a1 : List (Int)) (a2 : List (Int)) (a3 : Int) (a4 : Int) (a5 : Int) (a6 : Int) (a7 : Int) (a8 : Int) (a9 : Int) (a10 : Int) (a11 : Int) (a12 : Int) (a13 : Int) (a14 : Int) (a15 : Int) (a16 : Int) (a17 : Int) (a18 : Int) (a19 : Int) (a20 : Int) : Option (Int × Bool) :=
  Option.bind (F11 FUEL a0 a1 a2 a3 a4 a5 a6 a7 a8 a9 a10 a11 a12 a13 a14 a15 a16 a17 a18 a19 a20) fun y1 =>
  bif (ine y1.2 (0)) then
  (some ((0), false))
  else (Option.bind (F24 FUEL a0 a1 a2 a3 a4 a5 a6 a7 a8 a9 a10 a11 a12 a13 a14 a15 a16 a17 a18 a19) fun y2 =>
   Option.bind (F32 FUEL a0 y1.1 y2) fun y3 =>
   bif (!y3) then
   (some ((0), false))
   else (Option.bind (F24 FUEL a0 a1 a2 a3 a4 a5 a6 a7 a8 a9 a10 a11 a12 a13 a14 a15 a16 a17 a18 a19) fun y4 =>
    some (y4, true)))

/-! ### garland/garlandref13.Own -/
def F37 (_n : Nat) (a0 : Int) (a1 : List (Int)) (a2 : List (Int)) (a3 : Int) (a4 : Int) (a5 : Int) (a6 : Int) (a7 : Int) (a8 : Int) (a9 : Int) (a10 : Int) (a11 : Int) (a12 : Int) (a13 : Int) (a14 : Int) (a15 : Int) (a16 : Int) (a17 : Int) (a18 : Int) (a19 : Int) : Option (Si18l2) :=
  bif (room (0 + List.length a1) 8) then
  (bif (room (0 + List.length a2) 8) then
   (some ⟨a0, a3, a4, a5, a6, a7, a8, a9, a10, a11, a12, a13, a14, a15, a16, a17, a18, a19, ([] ++ a1), ([] ++ a2)⟩)
   else (none))
  else (none)

/-! ### garland/garlandref17.Set -/
def F15 (_n : Nat) (a0 : Int) (a1 : List (Int)) (a2 : List (Int)) (a3 : Int) (a4 : Int) (a5 : Int) (a6 : Int) (a7 : Int) (a8 : Int) (a9 : Int) (a10 : Int) (a11 : Int) (a12 : Int) (a13 : Int) (a14 : Int) (a15 : Int) (a16 : Int) (a17 : Int) (a18 : Int) (a19 : Int) (a20 : Int) (a21 : Int) : Option (Si19l2) :=
  Option.bind (F37 FUEL a0 a1 a2 a3 a4 a5 a6 a7 a8 a9 a10 a11 a12 a13 a14 a15 a16 a17 a18 a19) fun y1 =>
  Option.bind (F11 FUEL y1.q0 y1.q18 y1.q19 y1.q1 y1.q2 y1.q3 y1.q4 y1.q5 y1.q6 y1.q7 y1.q8 y1.q9 y1.q10 y1.q11 y1.q12 y1.q13 y1.q14 y1.q15 y1.q16 y1.q17 a20) fun y2 =>
  bif (ine y2.2 (0)) then
  (some ⟨y1.q0, y1.q1, y1.q2, y1.q3, y1.q4, y1.q5, y1.q6, y1.q7, y1.q8, y1.q9, y1.q10, y1.q11, y1.q12, y1.q13, y1.q14, y1.q15, y1.q16, y1.q17, (2), y1.q18, y1.q19⟩)
  else (bif (ilt a21 (0)) then
   (some ⟨y1.q0, y1.q1, y1.q2, y1.q3, y1.q4, y1.q5, y1.q6, y1.q7, y1.q8, y1.q9, y1.q10, y1.q11, y1.q12, y1.q13, y1.q14, y1.q15, y1.q16, y1.q17, (2), y1.q18, y1.q19⟩)
   else (bif (ige a21 (65536)) then
    (some ⟨y1.q0, y1.q1, y1.q2, y1.q3, y1.q4, y1.q5, y1.q6, y1.q7, y1.q8, y1.q9, y1.q10, y1.q11, y1.q12, y1.q13, y1.q14, y1.q15, y1.q16, y1.q17, (2), y1.q18, y1.q19⟩)
    else (bif (inb a20 16) then
     (bif (nlt (Int.toNat a20) 16) then
      (bif (ieq a21 y1.q0) then
       (bif (inb a20 16) then
        (bif (nlt (Int.toNat a20) 16) then
         (some ⟨y1.q0, y1.q1, (List.getD (List.set [(List.getD (List.set [y1.q2, y1.q3, y1.q4, y1.q5, y1.q6, y1.q7, y1.q8, y1.q9, y1.q10, y1.q11, y1.q12, y1.q13, y1.q14, y1.q15, y1.q16, y1.q17] (Int.toNat a20) a21) 0 0), (List.getD (List.set [y1.q2, y1.q3, y1.q4, y1.q5, y1.q6, y1.q7, y1.q8, y1.q9, y1.q10, y1.q11, y1.q12, y1.q13, y1.q14, y1.q15, y1.q16, y1.q17] (Int.toNat a20) a21) 1 0), (List.getD (List.set [y1.q2, y1.q3, y1.q4, y1.q5, y1.q6, y1.q7, y1.q8, y1.q9, y1.q10, y1.q11, y1.q12, y1.q13, y1.q14, y1.q15, y1.q16, y1.q17] (Int.toNat a20) a21) 2 0), (List.getD (List.set [y1.q2, y1.q3, y1.q4, y1.q5, y1.q6, y1.q7, y1.q8, y1.q9, y1.q10, y1.q11, y1.q12, y1.q13, y1.q14, y1.q15, y1.q16, y1.q17] (Int.toNat a20) a21) 3 0), (List.getD (List.set [y1.q2, y1.q3, y1.q4, y1.q5, y1.q6, y1.q7, y1.q8, y1.q9, y1.q10, y1.q11, y1.q12, y1.q13, y1.q14, y1.q15, y1.q16, y1.q17] (Int.toNat a20) a21) 4 0), (List.getD (List.set [y1.q2, y1.q3, y1.q4, y1.q5, y1.q6, y1.q7, y1.q8, y1.q9, y1.q10, y1.q11, y1.q12, y1.q13, y1.q14, y1.q15, y1.q16, y1.q17] (Int.toNat a20) a21) 5 0), (List.getD (List.set [y1.q2, y1.q3, y1.q4, y1.q5, y1.q6, y1.q7, y1.q8, y1.q9, y1.q10, y1.q11, y1.q12, y1.q13, y1.q14, y1.q15, y1.q16, y1.q17] (Int.toNat a20) a21) 6 0), (List.getD (List.set [y1.q2, y1.q3, y1.q4, y1.q5, y1.q6, y1.q7, y1.q8, y1.q9, y1.q10, y1.q11, y1.q12, y1.q13, y1.q14, y1.q15, y1.q16, y1.q17] (Int.toNat a20) a21) 7 0), (List.getD (List.set [y1.q2, y1.q3, y1.q4, y1.q5, y1.q6, y1.q7, y1.q8, y1.q9, y1.q10, y1.q11, y1.q12, y1.q13, y1.q14, y1.q15, y1.q16, y1.q17] (Int.toNat a20) a21) 8 0), (List.getD (List.set [y1.q2, y1.q3, y1.q4, y1.q5, y1.q6, y1.q7, y1.q8, y1.q9, y1.q10, y1.q11, y1.q12, y1.q13, y1.q14, y1.q15, y1.q16, y1.q17] (Int.toNat a20) a21) 9 0), (List.getD (List.set [y1.q2, y1.q3, y1.q4, y1.q5, y1.q6, y1.q7, y1.q8, y1.q9, y1.q10, y1.q11, y1.q12, y1.q13, y1.q14, y1.q15, y1.q16, y1.q17] (Int.toNat a20) a21) 10 0), (List.getD (List.set [y1.q2, y1.q3, y1.q4, y1.q5, y1.q6, y1.q7, y1.q8, y1.q9, y1.q10, y1.q11, y1.q12, y1.q13, y1.q14, y1.q15, y1.q16, y1.q17] (Int.toNat a20) a21) 11 0), (List.getD (List.set [y1.q2, y1.q3, y1.q4, y1.q5, y1.q6, y1.q7, y1.q8, y1.q9, y1.q10, y1.q11, y1.q12, y1.q13, y1.q14, y1.q15, y1.q16, y1.q17] (Int.toNat a20) a21) 12 0), (List.getD (List.set [y1.q2, y1.q3, y1.q4, y1.q5, y1.q6, y1.q7, y1.q8, y1.q9, y1.q10, y1.q11, y1.q12, y1.q13, y1.q14, y1.q15, y1.q16, y1.q17] (Int.toNat a20) a21) 13 0), (List.getD (List.set [y1.q2, y1.q3, y1.q4, y1.q5, y1.q6, y1.q7, y1.q8, y1.q9, y1.q10, y1.q11, y1.q12, y1.q13, y1.q14, y1.q15, y1.q16, y1.q17] (Int.toNat a20) a21) 14 0), (List.getD (List.set [y1.q2, y1.q3, y1.q4, y1.q5, y1.q6, y1.q7, y1.q8, y1.q9, y1.q10, y1.q11, y1.q12, y1.q13, y1.q14, y1.q15, y1.q16, y1.q17] (Int.toNat a20) a21) 15 0)] (Int.toNat a20) (-1)) 0 0), (List.getD (List.set [(List.getD (List.set [y1.q2, y1.q3, y1.q4, y1.q5, y1.q6, y1.q7, y1.q8, y1.q9, y1.q10, y1.q11, y1.q12, y1.q13, y1.q14, y1.q15, y1.q16, y1.q17] (Int.toNat a20) a21) 0 0), (List.getD (List.set [y1.q2, y1.q3, y1.q4, y1.q5, y1.q6, y1.q7, y1.q8, y1.q9, y1.q10, y1.q11, y1.q12, y1.q13, y1.q14, y1.q15, y1.q16, y1.q17] (Int.toNat a20) a21) 1 0), (List.getD (List.set [y1.q2, y1.q3, y1.q4, y1.q5, y1.q6, y1.q7, y1.q8, y1.q9, y1.q10, y1.q11, y1.q12, y1.q13, y1.q14, y1.q15, y1.q16, y1.q17] (Int.toNat a20) a21) 2 0), (List.getD (List.set [y1.q2, y1.q3, y1.q4, y1.q5, y1.q6, y1.q7, y1.q8, y1.q9, y1.q10, y1.q11, y1.q12, y1.q13, y1.q14, y1.q15, y1.q16, y1.q17] (Int.toNat a20) a21) 3 0), (List.getD (List.set [y1.q2, y1.q3, y1.q4, y1.q5, y1.q6, y1.q7, y1.q8, y1.q9, y1.q10, y1.q11, y1.q12, y1.q13, y1.q14, y1.q15, y1.q16, y1.q17] (Int.toNat a20) a21) 4 0), (List.getD (List.set [y1.q2, y1.q3, y1.q4, y1.q5, y1.q6, y1.q7, y1.q8, y1.q9, y1.q10, y1.q11, y1.q12, y1.q13, y1.q14, y1.q15, y1.q16, y1.q17] (Int.toNat a20) a21) 5 0), (List.getD (List.set [y1.q2, y1.q3, y1.q4, y1.q5, y1.q6, y1.q7, y1.q8, y1.q9, y1.q10, y1.q11, y1.q12, y1.q13, y1.q14, y1.q15, y1.q16, y1.q17] (Int.toNat a20) a21) 6 0), (List.getD (List.set [y1.q2, y1.q3, y1.q4, y1.q5, y1.q6, y1.q7, y1.q8, y1.q9, y1.q10, y1.q11, y1.q12, y1.q13, y1.q14, y1.q15, y1.q16, y1.q17] (Int.toNat a20) a21) 7 0), (List.getD (List.set [y1.q2, y1.q3, y1.q4, y1.q5, y1.q6, y1.q7, y1.q8, y1.q9, y1.q10, y1.q11, y1.q12, y1.q13, y1.q14, y1.q15, y1.q16, y1.q17] (Int.toNat a20) a21) 8 0), (List.getD (List.set [y1.q2, y1.q3, y1.q4, y1.q5, y1.q6, y1.q7, y1.q8, y1.q9, y1.q10, y1.q11, y1.q12, y1.q13, y1.q14, y1.q15, y1.q16, y1.q17] (Int.toNat a20) a21) 9 0), (List.getD (List.set [y1.q2, y1.q3, y1.q4, y1.q5, y1.q6, y1.q7, y1.q8, y1.q9, y1.q10, y1.q11, y1.q12, y1.q13, y1.q14, y1.q15, y1.q16, y1.q17] (Int.toNat a20) a21) 10 0), (List.getD (List.set [y1.q2, y1.q3, y1.q4, y1.q5, y1.q6, y1.q7, y1.q8, y1.q9, y1.q10, y1.q11, y1.q12, y1.q13, y1.q14, y1.q15, y1.q16, y1.q17] (Int.toNat a20) a21) 11 0), (List.getD (List.set [y1.q2, y1.q3, y1.q4, y1.q5, y1.q6, y1.q7, y1.q8, y1.q9, y1.q10, y1.q11, y1.q12, y1.q13, y1.q14, y1.q15, y1.q16, y1.q17] (Int.toNat a20) a21) 12 0), (List.getD (List.set [y1.q2, y1.q3, y1.q4, y1.q5, y1.q6, y1.q7, y1.q8, y1.q9, y1.q10, y1.q11, y1.q12, y1.q13, y1.q14, y1.q15, y1.q16, y1.q17] (Int.toNat a20) a21) 13 0), (List.getD (List.set [y1.q2, y1.q3, y1.q4, y1.q5, y1.q6, y1.q7, y1.q8, y1.q9, y1.q10, y1.q11, y1.q12, y1.q13, y1.q14, y1.q15, y1.q16, y1.q17] (Int.toNat a20) a21) 14 0), (List.getD (List.set [y1.q2, y1.q3, y1.q4, y1.q5, y1.q6, y1.q7, y1.q8, y1.q9, y1.q10, y1.q11, y1.q12, y1.q13, y1.q14, y1.q15, y1.q16, y1.q17] (Int.toNat a20) a21) 15 0)] (Int.toNat a20) (-1)) 1 0), (List.getD (List.set [(List.getD (List.set [y1.q2, y1.q3, y1.q4, y1.q5, y1.q6, y1.q7, y1.q8, y1.q9, y1.q10, y1.q11, y1.q12, y1.q13, y1.q14, y1.q15, y1.q16, y1.q17] (Int.toNat a20) a21) 0 0), (List.getD (List.set [y1.q2, y1.q3, y1.q4, y1.q5, y1.q6, y1.q7, y1.q8, y1.q9, y1.q10, y1.q11, y1.q12, y1.q13, y1.q14, y1.q15, y1.q16, y1.q17] (Int.toNat a20) a21) 1 0), (List.getD (List.set [y1.q2, y1.q3, y1.q4, y1.q5, y1.q6, y1.q7, y1.q8, y1.q9, y1.q10, y1.q11, y1.q12, y1.q13, y1.q14, y1.q15, y1.q16, y1.q17] (Int.toNat a20) a21) 2 0), (List.getD (List.set [y1.q2, y1.q3, y1.q4, y1.q5, y1.q6, y1.q7, y1.q8, y1.q9, y1.q10, y1.q11, y1.q12, y1.q13, y1.q14, y1.q15, y1.q16, y1.q17] (Int.toNat a20) a21) 3 0), (List.getD (List.set [y1.q2, y1.q3, y1.q4, y1.q5, y1.q6, y1.q7, y1.q8, y1.q9, y1.q10, y1.q11, y1.q12, y1.q13, y1.q14, y1.q15, y1.q16, y1.q17] (Int.toNat a20) a21) 4 0), (List.getD (List.set [y1.q2, y1.q3, y1.q4, y1.q5, y1.q6, y1.q7, y1.q8, y1.q9, y1.q10, y1.q11, y1.q12, y1.q13, y1.q14, y1.q15, y1.q16, y1.q17] (Int.toNat a20) a21) 5 0), (List.getD (List.set [y1.q2, y1.q3, y1.q4, y1.q5, y1.q6, y1.q7, y1.q8, y1.q9, y1.q10, y1.q11, y1.q12, y1.q13, y1.q14, y1.q15, y1.q16, y1.q17] (Int.toNat a20) a21) 6 0), (List.getD (List.set [y1.q2, y1.q3, y1.q4, y1.q5, y1.q6, y1.q7, y1.q8, y1.q9, y1.q10, y1.q11, y1.q12, y1.q13, y1.q14, y1.q15, y1.q16, y1.q17] (Int.toNat a20) a21) 7 0), (List.getD (List.set [y1.q2, y1.q3, y1.q4, y1.q5, y1.q6, y1.q7, y1.q8, y1.q9, y1.q10, y1.q11, y1.q12, y1.q13, y1.q14, y1.q15, y1.q16, y1.q17] (Int.toNat a20) a21) 8 0), (List.getD (List.set [y1.q2, y1.q3, y1.q4, y1.q5, y1.q6, y1.q7, y1.q8, y1.q9, y1.q10, y1.q11, y1.q12, y1.q13, y1.q14, y1.q15, y1.q16, y1.q17] (Int.toNat a20) a21) 9 0), (List.getD (List.set [y1.q2, y1.q3, y1.q4, y1.q5, y1.q6, y1.q7, y1.q8, y1.q9, y1.q10, y1.q11, y1.q12, y1.q13, y1.q14, y1.q15, y1.q16, y1.q17] (Int.toNat a20) a21) 10 0), (List.getD (List.set [y1.q2, y1.q3, y1.q4, y1.q5, y1.q6, y1.q7, y1.q8, y1.q9, y1.q10, y1.q11, y1.q12, y1.q13, y1.q14, y1.q15, y1.q16, y1.q17] (Int.toNat a20) a21) 11 0), (List.getD (List.set [y1.q2, y1.q3, y1.q4, y1.q5, y1.q6, y1.q7, y1.q8, y1.q9, y1.q10, y1.q11, y1.q12, y1.q13, y1.q14, y1.q15, y1.q16, y1.q17] (Int.toNat a20) a21) 12 0), (List.getD (List.set [y1.q2, y1.q3, y1.q4, y1.q5, y1.q6, y1.q7, y1.q8, y1.q9, y1.q10, y1.q11, y1.q12, y1.q13, y1.q14, y1.q15, y1.q16, y1.q17] (Int.toNat a20) a21) 13 0), (List.getD (List.set [y1.q2, y1.q3, y1.q4, y1.q5, y1.q6, y1.q7, y1.q8, y1.q9, y1.q10, y1.q11, y1.q12, y1.q13, y1.q14, y1.q15, y1.q16, y1.q17] (Int.toNat a20) a21) 14 0), (List.getD (List.set [y1.q2, y1.q3, y1.q4, y1.q5, y1.q6, y1.q7, y1.q8, y1.q9, y1.q10, y1.q11, y1.q12, y1.q13, y1.q14, y1.q15, y1.q16, y1.q17] (Int.toNat a20) a21) 15 0)] (Int.toNat a20) (-1)) 2 0), (List.getD (List.set [(List.getD (List.set [y1.q2, y1.q3, y1.q4, y1.q5, y1.q6, y1.q7, y1.q8, y1.q9, y1.q10, y1.q11, y1.q12, y1.q13, y1.q14, y1.q15, y1.q16, y1.q17] (Int.toNat a20) a21) 0 0), (List.getD (List.set [y1.q2, y1.q3, y1.q4, y1.q5, y1.q6, y1.q7, y1.q8, y1.q9, y1.q10, y1.q11, y1.q12, y1.q13, y1.q14, y1.q15, y1.q16, y1.q17] (Int.toNat a20) a21) 1 0), (List.getD (List.set [y1.q2, y1.q3, y1.q4, y1.q5, y1.q6, y1.q7, y1.q8, y1.q9, y1.q10, y1.q11, y1.q12, y1.q13, y1.q14, y1.q15, y1.q16, y1.q17] (Int.toNat a20) a21) 2 0), (List.getD (List.set [y1.q2, y1.q3, y1.q4, y1.q5, y1.q6, y1.q7, y1.q8, y1.q9, y1.q10, y1.q11, y1.q12, y1.q13, y1.q14, y1.q15, y1.q16, y1.q17] (Int.toNat a20) a21) 3 0), (List.getD (List.set [y1.q2, y1.q3, y1.q4, y1.q5, y1.q6, y1.q7, y1.q8, y1.q9, y1.q10, y1.q11, y1.q12, y1.q13, y1.q14, y1.q15, y1.q16, y1.q17] (Int.toNat a20) a21) 4 0), (List.getD (List.set [y1.q2, y1.q3, y1.q4, y1.q5, y1.q6, y1.q7, y1.q8, y1.q9, y1.q10, y1.q11, y1.q12, y1.q13, y1.q14, y1.q15, y1.q16, y1.q17] (Int.toNat a20) a21) 5 0), (List.getD (List.set [y1.q2, y1.q3, y1.q4, y1.q5, y1.q6, y1.q7, y1.q8, y1.q9, y1.q10, y1.q11, y1.q12, y1.q13, y1.q14, y1.q15, y1.q16, y1.q17] (Int.toNat a20) a21) 6 0), (List.getD (List.set [y1.q2, y1.q3, y1.q4, y1.q5, y1.q6, y1.q7, y1.q8, y1.q9, y1.q10, y1.q11, y1.q12, y1.q13, y1.q14, y1.q15, y1.q16, y1.q17] (Int.toNat a20) a21) 7 0), (List.getD (List.set [y1.q2, y1.q3, y1.q4, y1.q5, y1.q6, y1.q7, y1.q8, y1.q9, y1.q10, y1.q11, y1.q12, y1.q13, y1.q14, y1.q15, y1.q16, y1.q17] (Int.toNat a20) a21) 8 0), (List.getD (List.set [y1.q2, y1.q3, y1.q4, y1.q5, y1.q6, y1.q7, y1.q8, y1.q9, y1.q10, y1.q11, y1.q12, y1.q13, y1.q14, y1.q15, y1.q16, y1.q17] (Int.toNat a20) a21) 9 0), (List.getD (List.set [y1.q2, y1.q3, y1.q4, y1.q5, y1.q6, y1.q7, y1.q8, y1.q9, y1.q10, y1.q11, y1.q12, y1.q13, y1.q14, y1.q15, y1.q16, y1.q17] (Int.toNat a20) a21) 10 0), (List.getD (List.set [y1.q2, y1.q3, y1.q4, y1.q5, y1.q6, y1.q7, y1.q8, y1.q9, y1.q10, y1.q11, y1.q12, y1.q13, y1.q14, y1.q15, y1.q16, y1.q17] (Int.toNat a20) a21) 11 0), (List.getD (List.set [y1.q2, y1.q3, y1.q4, y1.q5, y1.q6, y1.q7, y1.q8, y1.q9, y1.q10, y1.q11, y1.q12, y1.q13, y1.q14, y1.q15, y1.q16, y1.q17] (Int.toNat a20) a21) 12 0), (List.getD (List.set [y1.q2, y1.q3, y1.q4, y1.q5, y1.q6, y1.q7, y1.q8, y1.q9, y1.q10, y1.q11, y1.q12, y1.q13, y1.q14, y1.q15, y1.q16, y1.q17] (Int.toNat a20) a21) 13 0), (List.getD (List.set [y1.q2, y1.q3, y1.q4, y1.q5, y1.q6, y1.q7, y1.q8, y1.q9, y1.q10, y1.q11, y1.q12, y1.q13, y1.q14, y1.q15, y1.q16, y1.q17] (Int.toNat a20) a21) 14 0), (List.getD (List.set [y1.q2, y1.q3, y1.q4, y1.q5, y1.q6, y1.q7, y1.q8, y1.q9, y1.q10, y1.q11, y1.q12, y1.q13, y1.q14, y1.q15, y1.q16, y1.q17] (Int.toNat a20) a21) 15 0)] (Int.toNat a20) (-1)) 3 0), (List.getD (List.set [(List.getD (List.set [y1.q2, y1.q3, y1.q4, y1.q5, y1.q6, y1.q7, y1.q8, y1.q9, y1.q10, y1.q11, y1.q12, y1.q13, y1.q14, y1.q15, y1.q16, y1.q17] (Int.toNat a20) a21) 0 0), (List.getD (List.set [y1.q2, y1.q3, y1.q4, y1.q5, y1.q6, y1.q7, y1.q8, y1.q9, y1.q10, y1.q11, y1.q12, y1.q13, y1.q14, y1.q15, y1.q16, y1.q17] (Int.toNat a20) a21) 1 0), (List.getD (List.set [y1.q2, y1.q3, y1.q4, y1.q5, y1.q6, y1.q7, y1.q8, y1.q9, y1.q10, y1.q11, y1.q12, y1.q13, y1.q14, y1.q15, y1.q16, y1.q17] (Int.toNat a20) a21) 2 0), (List.getD (List.set [y1.q2, y1.q3, y1.q4, y1.q5, y1.q6, y1.q7, y1.q8, y1.q9, y1.q10, y1.q11, y1.q12, y1.q13, y1.q14, y1.q15, y1.q16, y1.q17] (Int.toNat a20) a21) 3 0), (List.getD (List.set [y1.q2, y1.q3, y1.q4, y1.q5, y1.q6, y1.q7, y1.q8, y1.q9, y1.q10, y1.q11, y1.q12, y1.q13, y1.q14, y1.q15, y1.q16, y1.q17] (Int.toNat a20) a21) 4 0), (List.getD (List.set [y1.q2, y1.q3, y1.q4, y1.q5, y1.q6, y1.q7, y1.q8, y1.q9, y1.q10, y1.q11, y1.q12, y1.q13, y1.q14, y1.q15, y1.q16, y1.q17] (Int.toNat a20) a21) 5 0), (List.getD (List.set [y1.q2, y1.q3, y1.q4, y1.q5, y1.q6, y1.q7, y1.q8, y1.q9, y1.q10, y1.q11, y1.q12, y1.q13, y1.q14, y1.q15, y1.q16, y1.q17] (Int.toNat a20) a21) 6 0), (List.getD (List.set [y1.q2, y1.q3, y1.q4, y1.q5, y1.q6, y1.q7, y1.q8, y1.q9, y1.q10, y1.q11, y1.q12, y1.q13, y1.q14, y1.q15, y1.q16, y1.q17] (Int.toNat a20) a21) 7 0), (List.getD (List.set [y1.q2, y1.q3, y1.q4, y1.q5, y1.q6, y1.q7, y1.q8, y1.q9, y1.q10, y1.q11, y1.q12, y1.q13, y1.q14, y1.q15, y1.q16, y1.q17] (Int.toNat a20) a21) 8 0), (List.getD (List.set [y1.q2, y1.q3, y1.q4, y1.q5, y1.q6, y1.q7, y1.q8, y1.q9, y1.q10, y1.q11, y1.q12, y1.q13, y1.q14, y1.q15, y1.q16, y1.q17] (Int.toNat a20) a21) 9 0), (List.getD (List.set [y1.q2, y1.q3, y1.q4, y1.q5, y1.q6, y1.q7, y1.q8, y1.q9, y1.q10, y1.q11, y1.q12, y1.q13, y1.q14, y1.q15, y1.q16, y1.q17] (Int.toNat a20) a21) 10 0), (List.getD (List.set [y1.q2, y1.q3, y1.q4, y1.q5, y1.q6, y1.q7, y1.q8, y1.q9, y1.q10, y1.q11, y1.q12, y1.q13, y1.q14, y1.q15, y1.q16, y1.q17] (Int.toNat a20) a21) 11 0), (List.getD (List.set [y1.q2, y1.q3, y1.q4, y1.q5, y1.q6, y1.q7, y1.q8, y1.q9, y1.q10, y1.q11, y1.q12, y1.q13, y1.q14, y1.q15, y1.q16, y1.q17] (Int.toNat a20) a21) 12 0), (List.getD (List.set [y1.q2, y1.q3, y1.q4, y1.q5, y1.q6, y1.q7, y1.q8, y1.q9, y1.q10, y1.q11, y1.q12, y1.q13, y1.q14, y1.q15, y1.q16, y1.q17] (Int.toNat a20) a21) 13 0), (List.getD (List.set [y1.q2, y1.q3, y1.q4, y1.q5, y1.q6, y1.q7, y1.q8, y1.q9, y1.q10, y1.q11, y1.q12, y1.q13, y1.q14, y1.q15, y1.q16, y1.q17] (Int.toNat a20) a21) 14 0), (List.getD (List.set [y1.q2, y1.q3, y1.q4, y1.q5, y1.q6, y1.q7, y1.q8, y1.q9, y1.q10, y1.q11, y1.q12, y1.q13, y1.q14, y1.q15, y1.q16, y1.q17] (Int.toNat a20) a21) 15 0)] (Int.toNat a20) (-1)) 4 0), (List.getD (List.set [(List.getD (List.set [y1.q2, y1.q3, y1.q4, y1.q5, y1.q6, y1.q7, y1.q8, y1.q9, y1.q10, y1.q11, y1.q12, y1.q13, y1.q14, y1.q15, y1.q16, y1.q17] (Int.toNat a20) a21) 0 0), (List.getD (List.set [y1.q2, y1.q3, y1.q4, y1.q5, y1.q6, y1.q7, y1.q8, y1.q9, y1.q10, y1.q11, y1.q12, y1.q13, y1.q14, y1.q15, y1.q16, y1.q17] (Int.toNat a20) a21) 1 0), (List.getD (List.set [y1.q2, y1.q3, y1.q4, y1.q5, y1.q6, y1.q7, y1.q8, y1.q9, y1.q10, y1.q11, y1.q12, y1.q13, y1.q14, y1.q15, y1.q16, y1.q17] (Int.toNat a20) a21) 2 0), (List.getD (List.set [y1.q2, y1.q3, y1.q4, y1.q5, y1.q6, y1.q7, y1.q8, y1.q9, y1.q10, y1.q11, y1.q12, y1.q13, y1.q14, y1.q15, y1.q16, y1.q17] (Int.toNat a20) a21) 3 0), (List.getD (List.set [y1.q2, y1.q3, y1.q4, y1.q5, y1.q6, y1.q7, y1.q8, y1.q9, y1.q10, y1.q11, y1.q12, y1.q13, y1.q14, y1.q15, y1.q16, y1.q17] (Int.toNat a20) a21) 4 0), (List.getD (List.set [y1.q2, y1.q3, y1.q4, y1.q5, y1.q6, y1.q7, y1.q8, y1.q9, y1.q10, y1.q11, y1.q12, y1.q13, y1.q14, y1.q15, y1.q16, y1.q17] (Int.toNat a20) a21) 5 0), (List.getD (List.set [y1.q2, y1.q3, y1.q4, y1.q5, y1.q6, y1.q7, y1.q8, y1.q9, y1.q10, y1.q11, y1.q12, y1.q13, y1.q14, y1.q15, y1.q16, y1.q17] (Int.toNat a20) a21) 6 0), (List.getD (List.set [y1.q2, y1.q3, y1.q4, y1.q5, y1.q6, y1.q7, y1.q8, y1.q9, y1.q10, y1.q11, y1.q12, y1.q13, y1.q14, y1.q15, y1.q16, y1.q17] (Int.toNat a20) a21) 7 0), (List.getD (List.set [y1.q2, y1.q3, y1.q4, y1.q5, y1.q6, y1.q7, y1.q8, y1.q9, y1.q10, y1.q11, y1.q12, y1.q13, y1.q14, y1.q15, y1.q16, y1.q17] (Int.toNat a20) a21) 8 0), (List.getD (List.set [y1.q2, y1.q3, y1.q4, y1.q5, y1.q6, y1.q7, y1.q8, y1.q9, y1.q10, y1.q11, y1.q12, y1.q13, y1.q14, y1.q15, y1.q16, y1.q17] (Int.toNat a20) a21) 9 0), (List.getD (List.set [y1.q2, y1.q3, y1.q4, y1.q5, y1.q6, y1.q7, y1.q8, y1.q9, y1.q10, y1.q11, y1.q12, y1.q13, y1.q14, y1.q15, y1.q16, y1.q17] (Int.toNat a20) a21) 10 0), (List.getD (List.set [y1.q2, y1.q3, y1.q4, y1.q5, y1.q6, y1.q7, y1.q8, y1.q9, y1.q10, y1.q11, y1.q12, y1.q13, y1.q14, y1.q15, y1.q16, y1.q17] (Int.toNat a20) a21) 11 0), (List.getD (List.set [y1.q2, y1.q3, y1.q4, y1.q5, y1.q6, y1.q7, y1.q8, y1.q9, y1.q10, y1.q11, y1.q12, y1.q13, y1.q14, y1.q15, y1.q16, y1.q17] (Int.toNat a20) a21) 12 0), (List.getD (List.set [y1.q2, y1.q3, y1.q4, y1.q5, y1.q6, y1.q7, y1.q8, y1.q9, y1.q10, y1.q11, y1.q12, y1.q13, y1.q14, y1.q15, y1.q16, y1.q17] (Int.toNat a20) a21) 13 0), (List.getD (List.set [y1.q2, y1.q3, y1.q4, y1.q5, y1.q6, y1.q7, y1.q8, y1.q9, y1.q10, y1.q11, y1.q12, y1.q13, y1.q14, y1.q15, y1.q16, y1.q17] (Int.toNat a20) a21) 14 0), (List.getD (List.set [y1.q2, y1.q3, y1.q4, y1.q5, y1.q6, y1.q7, y1.q8, y1.q9, y1.q10, y1.q11, y1.q12, y1.q13, y1.q14, y1.q15, y1.q16, y1.q17] (Int.toNat a20) a21) 15 0)] (Int.toNat a20) (-1)) 5 0), (List.getD (List.set [(List.getD (List.set [y1.q2, y1.q3, y1.q4, y1.q5, y1.q6, y1.q7, y1.q8, y1.q9, y1.q10, y1.q11, y1.q12, y1.q13, y1.q14, y1.q15, y1.q16, y1.q17] (Int.toNat a20) a21) 0 0), (List.getD (List.set [y1.q2, y1.q3, y1.q4, y1.q5, y1.q6, y1.q7, y1.q8, y1.q9, y1.q10, y1.q11, y1.q12, y1.q13, y1.q14, y1.q15, y1.q16, y1.q17] (Int.toNat a20) a21) 1 0), (List.getD (List.set [y1.q2, y1.q3, y1.q4, y1.q5, y1.q6, y1.q7, y1.q8, y1.q9, y1.q10, y1.q11, y1.q12, y1.q13, y1.q14, y1.q15, y1.q16, y1.q17] (Int.toNat a20) a21) 2 0), (List.getD (List.set [y1.q2, y1.q3, y1.q4, y1.q5, y1.q6, y1.q7, y1.q8, y1.q9, y1.q10, y1.q11, y1.q12, y1.q13, y1.q14, y1.q15, y1.q16, y1.q17] (Int.toNat a20) a21) 3 0), (List.getD (List.set [y1.q2, y1.q3, y1.q4, y1.q5, y1.q6, y1.q7, y1.q8, y1.q9, y1.q10, y1.q11, y1.q12, y1.q13, y1.q14, y1.q15, y1.q16, y1.q17] (Int.toNat a20) a21) 4 0), (List.getD (List.set [y1.q2, y1.q3, y1.q4, y1.q5, y1.q6, y1.q7, y1.q8, y1.q9, y1.q10, y1.q11, y1.q12, y1.q13, y1.q14, y1.q15, y1.q16, y1.q17] (Int.toNat a20) a21) 5 0), (List.getD (List.set [y1.q2, y1.q3, y1.q4, y1.q5, y1.q6, y1.q7, y1.q8, y1.q9, y1.q10, y1.q11, y1.q12, y1.q13, y1.q14, y1.q15, y1.q16, y1.q17] (Int.toNat a20) a21) 6 0), (List.getD (List.set [y1.q2, y1.q3, y1.q4, y1.q5, y1.q6, y1.q7, y1.q8, y1.q9, y1.q10, y1.q11, y1.q12, y1.q13, y1.q14, y1.q15, y1.q16, y1.q17] (Int.toNat a20) a21) 7 0), (List.getD (List.set [y1.q2, y1.q3, y1.q4, y1.q5, y1.q6, y1.q7, y1.q8, y1.q9, y1.q10, y1.q11, y1.q12, y1.q13, y1.q14, y1.q15, y1.q16, y1.q17] (Int.toNat a20) a21) 8 0), (List.getD (List.set [y1.q2, y1.q3, y1.q4, y1.q5, y1.q6, y1.q7, y1.q8, y1.q9, y1.q10, y1.q11, y1.q12, y1.q13, y1.q14, y1.q15, y1.q16, y1.q17] (Int.toNat a20) a21) 9 0), (List.getD (List.set [y1.q2, y1.q3, y1.q4, y1.q5, y1.q6, y1.q7, y1.q8, y1.q9, y1.q10, y1.q11, y1.q12, y1.q13, y1.q14, y1.q15, y1.q16, y1.q17] (Int.toNat a20) a21) 10 0), (List.getD (List.set [y1.q2, y1.q3, y1.q4, y1.q5, y1.q6, y1.q7, y1.q8, y1.q9, y1.q10, y1.q11, y1.q12, y1.q13, y1.q14, y1.q15, y1.q16, y1.q17] (Int.toNat a20) a21) 11 0), (List.getD (List.set [y1.q2, y1.q3, y1.q4, y1.q5, y1.q6, y1.q7, y1.q8, y1.q9, y1.q10, y1.q11, y1.q12, y1.q13, y1.q14, y1.q15, y1.q16, y1.q17] (Int.toNat a20) a21) 12 0), (List.getD (List.set [y1.q2, y1.q3, y1.q4, y1.q5, y1.q6, y1.q7, y1.q8, y1.q9, y1.q10, y1.q11, y1.q12, y1.q13, y1.q14, y1.q15, y1.q16, y1.q17] (Int.toNat a20) a21) 13 0), (List.getD (List.set [y1.q2, y1.q3, y1.q4, y1.q5, y1.q6, y1.q7, y1.q8, y1.q9, y1.q10, y1.q11, y1.q12, y1.q13, y1.q14, y1.q15, y1.q16, y1.q17] (Int.toNat a20) a21) 14 0), (List.getD (List.set [y1.q2, y1.q3, y1.q4, y1.q5, y1.q6, y1.q7, y1.q8, y1.q9, y1.q10, y1.q11, y1.q12, y1.q13, y1.q14, y1.q15, y1.q16, y1.q17] (Int.toNat a20) a21) 15 0)] (Int.toNat a20) (-1)) 6 0), (List.getD (List.set [(List.getD (List.set [y1.q2, y1.q3, y1.q4, y1.q5, y1.q6, y1.q7, y1.q8, y1.q9, y1.q10, y1.q11, y1.q12, y1.q13, y1.q14, y1.q15, y1.q16, y1.q17] (Int.toNat a20) a21) 0 0), (List.getD (List.set [y1.q2, y1.q3, y1.q4, y1.q5, y1.q6, y1.q7, y1.q8, y1.q9, y1.q10, y1.q11, y1.q12, y1.q13, y1.q14, y1.q15, y1.q16, y1.q17] (Int.toNat a20) a21) 1 0), (List.getD (List.set [y1.q2, y1.q3, y1.q4, y1.q5, y1.q6, y1.q7, y1.q8, y1.q9, y1.q10, y1.q11, y1.q12, y1.q13, y1.q14, y1.q15, y1.q16, y1.q17] (Int.toNat a20) a21) 2 0), (List.getD (List.set [y1.q2, y1.q3, y1.q4, y1.q5, y1.q6, y1.q7, y1.q8, y1.q9, y1.q10, y1.q11, y1.q12, y1.q13, y1.q14, y1.q15, y1.q16, y1.q17] (Int.toNat a20) a21) 3 0), (List.getD (List.set [y1.q2, y1.q3, y1.q4, y1.q5, y1.q6, y1.q7, y1.q8, y1.q9, y1.q10, y1.q11, y1.q12, y1.q13, y1.q14, y1.q15, y1.q16, y1.q17] (Int.toNat a20) a21) 4 0), (List.getD (List.set [y1.q2, y1.q3, y1.q4, y1.q5, y1.q6, y1.q7, y1.q8, y1.q9, y1.q10, y1.q11, y1.q12, y1.q13, y1.q14, y1.q15, y1.q16, y1.q17] (Int.toNat a20) a21) 5 0), (List.getD (List.set [y1.q2, y1.q3, y1.q4, y1.q5, y1.q6, y1.q7, y1.q8, y1.q9, y1.q10, y1.q11, y1.q12, y1.q13, y1.q14, y1.q15, y1.q16, y1.q17] (Int.toNat a20) a21) 6 0), (List.getD (List.set [y1.q2, y1.q3, y1.q4, y1.q5, y1.q6, y1.q7, y1.q8, y1.q9, y1.q10, y1.q11, y1.q12, y1.q13, y1.q14, y1.q15, y1.q16, y1.q17] (Int.toNat a20) a21) 7 0), (List.getD (List.set [y1.q2, y1.q3, y1.q4, y1.q5, y1.q6, y1.q7, y1.q8, y1.q9, y1.q10, y1.q11, y1.q12, y1.q13, y1.q14, y1.q15, y1.q16, y1.q17] (Int.toNat a20) a21) 8 0), (List.getD (List.set [y1.q2, y1.q3, y1.q4, y1.q5, y1.q6, y1.q7, y1.q8, y1.q9, y1.q10, y1.q11, y1.q12, y1.q13, y1.q14, y1.q15, y1.q16, y1.q17] (Int.toNat a20) a21) 9 0), (List.getD (List.set [y1.q2, y1.q3, y1.q4, y1.q5, y1.q6, y1.q7, y1.q8, y1.q9, y1.q10, y1.q11, y1.q12, y1.q13, y1.q14, y1.q15, y1.q16, y1.q17] (Int.toNat a20) a21) 10 0), (List.getD (List.set [y1.q2, y1.q3, y1.q4, y1.q5, y1.q6, y1.q7, y1.q8, y1.q9, y1.q10, y1.q11, y1.q12, y1.q13, y1.q14, y1.q15, y1.q16, y1.q17] (Int.toNat a20) a21) 11 0), (List.getD (List.set [y1.q2, y1.q3, y1.q4, y1.q5, y1.q6, y1.q7, y1.q8, y1.q9, y1.q10, y1.q11, y1.q12, y1.q13, y1.q14, y1.q15, y1.q16, y1.q17] (Int.toNat a20) a21) 12 0), (List.getD (List.set [y1.q2, y1.q3, y1.q4, y1.q5, y1.q6, y1.q7, y1.q8, y1.q9, y1.q10, y1.q11, y1.q12, y1.q13, y1.q14, y1.q15, y1.q16, y1.q17] (Int.toNat a20) a21) 13 0), (List.getD (List.set [y1.q2, y1.q3, y1.q4, y1.q5, y1.q6, y1.q7, y1.q8, y1.q9, y1.q10, y1.q11, y1.q12, y1.q13, y1.q14, y1.q15, y1.q16, y1.q17] (Int.toNat a20) a21) 14 0), (List.getD (List.set [y1.q2, y1.q3, y1.q4, y1.q5, y1.q6, y1.q7, y1.q8, y1.q9, y1.q10, y1.q11, y1.q12, y1.q13, y1.q14, y1.q15, y1.q16, y1.q17] (Int.toNat a20) a21) 15 0)] (Int.toNat a20) (-1)) 7 0), (List.getD (List.set [(List.getD (List.set [y1.q2, y1.q3, y1.q4, y1.q5, y1.q6, y1.q7, y1.q8, y1.q9, y1.q10, y1.q11, y1.q12, y1.q13, y1.q14, y1.q15, y1.q16, y1.q17] (Int.toNat a20) a21) 0 0), (List.getD (List.set [y1.q2, y1.q3, y1.q4, y1.q5, y1.q6, y1.q7, y1.q8, y1.q9, y1.q10, y1.q11, y1.q12, y1.q13, y1.q14, y1.q15, y1.q16, y1.q17] (Int.toNat a20) a21) 1 0), (List.getD (List.set [y1.q2, y1.q3, y1.q4, y1.q5, y1.q6, y1.q7, y1.q8, y1.q9, y1.q10, y1.q11, y1.q12, y1.q13, y1.q14, y1.q15, y1.q16, y1.q17] (Int.toNat a20) a21) 2 0), (List.getD (List.set [y1.q2, y1.q3, y1.q4, y1.q5, y1.q6, y1.q7, y1.q8, y1.q9, y1.q10, y1.q11, y1.q12, y1.q13, y1.q14, y1.q15, y1.q16, y1.q17] (Int.toNat a20) a21) 3 0), (List.getD (List.set [y1.q2, y1.q3, y1.q4, y1.q5, y1.q6, y1.q7, y1.q8, y1.q9, y1.q10, y1.q11, y1.q12, y1.q13, y1.q14, y1.q15, y1.q16, y1.q17] (Int.toNat a20) a21) 4 0), (List.getD (List.set [y1.q2, y1.q3, y1.q4, y1.q5, y1.q6, y1.q7, y1.q8, y1.q9, y1.q10, y1.q11, y1.q12, y1.q13, y1.q14, y1.q15, y1.q16, y1.q17] (Int.toNat a20) a21) 5 0), (List.getD (List.set [y1.q2, y1.q3, y1.q4, y1.q5, y1.q6, y1.q7, y1.q8, y1.q9, y1.q10, y1.q11, y1.q12, y1.q13, y1.q14, y1.q15, y1.q16, y1.q17] (Int.toNat a20) a21) 6 0), (List.getD (List.set [y1.q2, y1.q3, y1.q4, y1.q5, y1.q6, y1.q7, y1.q8, y1.q9, y1.q10, y1.q11, y1.q12, y1.q13, y1.q14, y1.q15, y1.q16, y1.q17] (Int.toNat a20) a21) 7 0), (List.getD (List.set [y1.q2, y1.q3, y1.q4, y1.q5, y1.q6, y1.q7, y1.q8, y1.q9, y1.q10, y1.q11, y1.q12, y1.q13, y1.q14, y1.q15, y1.q16, y1.q17] (Int.toNat a20) a21) 8 0), (List.getD (List.set [y1.q2, y1.q3, y1.q4, y1.q5, y1.q6, y1.q7, y1.q8, y1.q9, y1.q10, y1.q11, y1.q12, y1.q13, y1.q14, y1.q15, y1.q16, y1.q17] (Int.toNat a20) a21) 9 0), (List.getD (List.set [y1.q2, y1.q3, y1.q4, y1.q5, y1.q6, y1.q7, y1.q8, y1.q9, y1.q10, y1.q11, y1.q12, y1.q13, y1.q14, y1.q15, y1.q16, y1.q17] (Int.toNat a20) a21) 10 0), (List.getD (List.set [y1.q2, y1.q3, y1.q4, y1.q5, y1.q6, y1.q7, y1.q8, y1.q9, y1.q10, y1.q11, y1.q12, y1.q13, y1.q14, y1.q15, y1.q16, y1.q17] (Int.toNat a20) a21) 11 0), (List.getD (List.set [y1.q2, y1.q3, y1.q4, y1.q5, y1.q6, y1.q7, y1.q8, y1.q9, y1.q10, y1.q11, y1.q12, y1.q13, y1.q14, y1.q15, y1.q16, y1.q17] (Int.toNat a20) a21) 12 0), (List.getD (List.set [y1.q2, y1.q3, y1.q4, y1.q5, y1.q6, y1.q7, y1.q8, y1.q9, y1.q10, y1.q11, y1.q12, y1.q13, y1.q14, y1.q15, y1.q16, y1.q17] (Int.toNat a20) a21) 13 0), (List.getD (List.set [y1.q2, y1.q3, y1.q4, y1.q5, y1.q6, y1.q7, y1.q8, y1.q9, y1.q10, y1.q11, y1.q12, y1.q13, y1.q14, y1.q15, y1.q16, y1.q17] (Int.toNat a20) a21) 14 0), (List.getD (List.set [y1.q2, y1.q3, y1.q4, y1.q5, y1.q6, y1.q7, y1.q8, y1.q9, y1.q10, y1.q11, y1.q12, y1.q13, y1.q14, y1.q15, y1.q16, y1.q17] (Int.toNat a20) a21) 15 0)] (Int.toNat a20) (-1)) 8 0), (List.getD (List.set [(List.getD (List.set [y1.q2, y1.q3, y1.q4, y1.q5, y1.q6, y1.q7, y1.q8, y1.q9, y1.q10, y1.q11, y1.q12, y1.q13, y1.q14, y1.q15, y1.q16, y1.q17] (Int.toNat a20) a21) 0 0), (List.getD (List.set [y1.q2, y1.q3, y1.q4, y1.q5, y1.q6, y1.q7, y1.q8, y1.q9, y1.q10, y1.q11, y1.q12, y1.q13, y1.q14, y1.q15, y1.q16, y1.q17] (Int.toNat a20) a21) 1 0), (List.getD (List.set [y1.q2, y1.q3, y1.q4, y1.q5, y1.q6, y1.q7, y1.q8, y1.q9, y1.q10, y1.q11, y1.q12, y1.q13, y1.q14, y1.q15, y1.q16, y1.q17] (Int.toNat a20) a21) 2 0), (List.getD (List.set [y1.q2, y1.q3, y1.q4, y1.q5, y1.q6, y1.q7, y1.q8, y1.q9, y1.q10, y1.q11, y1.q12, y1.q13, y1.q14, y1.q15, y1.q16, y1.q17] (Int.toNat a20) a21) 3 0), (List.getD (List.set [y1.q2, y1.q3, y1.q4, y1.q5, y1.q6, y1.q7, y1.q8, y1.q9, y1.q10, y1.q11, y1.q12, y1.q13, y1.q14, y1.q15, y1.q16, y1.q17] (Int.toNat a20) a21) 4 0), (List.getD (List.set [y1.q2, y1.q3, y1.q4, y1.q5, y1.q6, y1.q7, y1.q8, y1.q9, y1.q10, y1.q11, y1.q12, y1.q13, y1.q14, y1.q15, y1.q16, y1.q17] (Int.toNat a20) a21) 5 0), (List.getD (List.set [y1.q2, y1.q3, y1.q4, y1.q5, y1.q6, y1.q7, y1.q8, y1.q9, y1.q10, y1.q11, y1.q12, y1.q13, y1.q14, y1.q15, y1.q16, y1.q17] (Int.toNat a20) a21) 6 0), (List.getD (List.set [y1.q2, y1.q3, y1.q4, y1.q5, y1.q6, y1.q7, y1.q8, y1.q9, y1.q10, y1.q11, y1.q12, y1.q13, y1.q14, y1.q15, y1.q16, y1.q17] (Int.toNat a20) a21) 7 0), (List.getD (List.set [y1.q2, y1.q3, y1.q4, y1.q5, y1.q6, y1.q7, y1.q8, y1.q9, y1.q10, y1.q11, y1.q12, y1.q13, y1.q14, y1.q15, y1.q16, y1.q17] (Int.toNat a20) a21) 8 0), (List.getD (List.set [y1.q2, y1.q3, y1.q4, y1.q5, y1.q6, y1.q7, y1.q8, y1.q9, y1.q10, y1.q11, y1.q12, y1.q13, y1.q14, y1.q15, y1.q16, y1.q17] (Int.toNat a20) a21) 9 0), (List.getD (List.set [y1.q2, y1.q3, y1.q4, y1.q5, y1.q6, y1.q7, y1.q8, y1.q9, y1.q10, y1.q11, y1.q12, y1.q13, y1.q14, y1.q15, y1.q16, y1.q17] (Int.toNat a20) a21) 10 0), (List.getD (List.set [y1.q2, y1.q3, y1.q4, y1.q5, y1.q6, y1.q7, y1.q8, y1.q9, y1.q10, y1.q11, y1.q12, y1.q13, y1.q14, y1.q15, y1.q16, y1.q17] (Int.toNat a20) a21) 11 0), (List.getD (List.set [y1.q2, y1.q3, y1.q4, y1.q5, y1.q6, y1.q7, y1.q8, y1.q9, y1.q10, y1.q11, y1.q12, y1.q13, y1.q14, y1.q15, y1.q16, y1.q17] (Int.toNat a20) a21) 12 0), (List.getD (List.set [y1.q2, y1.q3, y1.q4, y1.q5, y1.q6, y1.q7, y1.q8, y1.q9, y1.q10, y1.q11, y1.q12, y1.q13, y1.q14, y1.q15, y1.q16, y1.q17] (Int.toNat a20) a21) 13 0), (List.getD (List.set [y1.q2, y1.q3, y1.q4, y1.q5, y1.q6, y1.q7, y1.q8, y1.q9, y1.q10, y1.q11, y1.q12, y1.q13, y1.q14, y1.q15, y1.q16, y1.q17] (Int.toNat a20) a21) 14 0), (List.getD (List.set [y1.q2, y1.q3, y1.q4, y1.q5, y1.q6, y1.q7, y1.q8, y1.q9, y1.q10, y1.q11, y1.q12, y1.q13, y1.q14, y1.q15, y1.q16, y1.q17] (Int.toNat a20) a21) 15 0)] (Int.toNat a20) (-1)) 9 0), (List.getD (List.set [(List.getD (List.set [y1.q2, y1.q3, y1.q4, y1.q5, y1.q6, y1.q7, y1.q8, y1.q9, y1.q10, y1.q11, y1.q12, y1.q13, y1.q14, y1.q15, y1.q16, y1.q17] (Int.toNat a20) a21) 0 0), (List.getD (List.set [y1.q2, y1.q3, y1.q4, y1.q5, y1.q6, y1.q7, y1.q8, y1.q9, y1.q10, y1.q11, y1.q12, y1.q13, y1.q14, y1.q15, y1.q16, y1.q17] (Int.toNat a20) a21) 1 0), (List.getD (List.set [y1.q2, y1.q3, y1.q4, y1.q5, y1.q6, y1.q7, y1.q8, y1.q9, y1.q10, y1.q11, y1.q12, y1.q13, y1.q14, y1.q15, y1.q16, y1.q17] (Int.toNat a20) a21) 2 0), (List.getD (List.set [y1.q2, y1.q3, y1.q4, y1.q5, y1.q6, y1.q7, y1.q8, y1.q9, y1.q10, y1.q11, y1.q12, y1.q13, y1.q14, y1.q15, y1.q16, y1.q17] (Int.toNat a20) a21) 3 0), (List.getD (List.set [y1.q2, y1.q3, y1.q4, y1.q5, y1.q6, y1.q7, y1.q8, y1.q9, y1.q10, y1.q11, y1.q12, y1.q13, y1.q14, y1.q15, y1.q16, y1.q17] (Int.toNat a20) a21) 4 0), (List.getD (List.set [y1.q2, y1.q3, y1.q4, y1.q5, y1.q6, y1.q7, y1.q8, y1.q9, y1.q10, y1.q11, y1.q12, y1.q13, y1.q14, y1.q15, y1.q16, y1.q17] (Int.toNat a20) a21) 5 0), (List.getD (List.set [y1.q2, y1.q3, y1.q4, y1.q5, y1.q6, y1.q7, y1.q8, y1.q9, y1.q10, y1.q11, y1.q12, y1.q13, y1.q14, y1.q15, y1.q16, y1.q17] (Int.toNat a20) a21) 6 0), (List.getD (List.set [y1.q2, y1.q3, y1.q4, y1.q5, y1.q6, y1.q7, y1.q8, y1.q9, y1.q10, y1.q11, y1.q12, y1.q13, y1.q14, y1.q15, y1.q16, y1.q17] (Int.toNat a20) a21) 7 0), (List.getD (List.set [y1.q2, y1.q3, y1.q4, y1.q5, y1.q6, y1.q7, y1.q8, y1.q9, y1.q10, y1.q11, y1.q12, y1.q13, y1.q14, y1.q15, y1.q16, y1.q17] (Int.toNat a20) a21) 8 0), (List.getD (List.set [y1.q2, y1.q3, y1.q4, y1.q5, y1.q6, y1.q7, y1.q8, y1.q9, y1.q10, y1.q11, y1.q12, y1.q13, y1.q14, y1.q15, y1.q16, y1.q17] (Int.toNat a20) a21) 9 0), (List.getD (List.set [y1.q2, y1.q3, y1.q4, y1.q5, y1.q6, y1.q7, y1.q8, y1.q9, y1.q10, y1.q11, y1.q12, y1.q13, y1.q14, y1.q15, y1.q16, y1.q17] (Int.toNat a20) a21) 10 0), (List.getD (List.set [y1.q2, y1.q3, y1.q4, y1.q5, y1.q6, y1.q7, y1.q8, y1.q9, y1.q10, y1.q11, y1.q12, y1.q13, y1.q14, y1.q15, y1.q16, y1.q17] (Int.toNat a20) a21) 11 0), (List.getD (List.set [y1.q2, y1.q3, y1.q4, y1.q5, y1.q6, y1.q7, y1.q8, y1.q9, y1.q10, y1.q11, y1.q12, y1.q13, y1.q14, y1.q15, y1.q16, y1.q17] (Int.toNat a20) a21) 12 0), (List.getD (List.set [y1.q2, y1.q3, y1.q4, y1.q5, y1.q6, y1.q7, y1.q8, y1.q9, y1.q10, y1.q11, y1.q12, y1.q13, y1.q14, y1.q15, y1.q16, y1.q17] (Int.toNat a20) a21) 13 0), (List.getD (List.set [y1.q2, y1.q3, y1.q4, y1.q5, y1.q6, y1.q7, y1.q8, y1.q9, y1.q10, y1.q11, y1.q12, y1.q13, y1.q14, y1.q15, y1.q16, y1.q17] (Int.toNat a20) a21) 14 0), (List.getD (List.set [y1.q2, y1.q3, y1.q4, y1.q5, y1.q6, y1.q7, y1.q8, y1.q9, y1.q10, y1.q11, y1.q12, y1.q13, y1.q14, y1.q15, y1.q16, y1.q17] (Int.toNat a20) a21) 15 0)] (Int.toNat a20) (-1)) 10 0), (List.getD (List.set [(List.getD (List.set [y1.q2, y1.q3, y1.q4, y1.q5, y1.q6, y1.q7, y1.q8, y1.q9, y1.q10, y1.q11, y1.q12, y1.q13, y1.q14, y1.q15, y1.q16, y1.q17] (Int.toNat a20) a21) 0 0), (List.getD (List.set [y1.q2, y1.q3, y1.q4, y1.q5, y1.q6, y1.q7, y1.q8, y1.q9, y1.q10, y1.q11, y1.q12, y1.q13, y1.q14, y1.q15, y1.q16, y1.q17] (Int.toNat a20) a21) 1 0), (List.getD (List.set [y1.q2, y1.q3, y1.q4, y1.q5, y1.q6, y1.q7, y1.q8, y1.q9, y1.q10, y1.q11, y1.q12, y1.q13, y1.q14, y1.q15, y1.q16, y1.q17] (Int.toNat a20) a21) 2 0), (List.getD (List.set [y1.q2, y1.q3, y1.q4, y1.q5, y1.q6, y1.q7, y1.q8, y1.q9, y1.q10, y1.q11, y1.q12, y1.q13, y1.q14, y1.q15, y1.q16, y1.q17] (Int.toNat a20) a21) 3 0), (List.getD (List.set [y1.q2, y1.q3, y1.q4, y1.q5, y1.q6, y1.q7, y1.q8, y1.q9, y1.q10, y1.q11, y1.q12, y1.q13, y1.q14, y1.q15, y1.q16, y1.q17] (Int.toNat a20) a21) 4 0), (List.getD (List.set [y1.q2, y1.q3, y1.q4, y1.q5, y1.q6, y1.q7, y1.q8, y1.q9, y1.q10, y1.q11, y1.q12, y1.q13, y1.q14, y1.q15, y1.q16, y1.q17] (Int.toNat a20) a21) 5 0), (List.getD (List.set [y1.q2, y1.q3, y1.q4, y1.q5, y1.q6, y1.q7, y1.q8, y1.q9, y1.q10, y1.q11, y1.q12, y1.q13, y1.q14, y1.q15, y1.q16, y1.q17] (Int.toNat a20) a21) 6 0), (List.getD (List.set [y1.q2, y1.q3, y1.q4, y1.q5, y1.q6, y1.q7, y1.q8, y1.q9, y1.q10, y1.q11, y1.q12, y1.q13, y1.q14, y1.q15, y1.q16, y1.q17] (Int.toNat a20) a21) 7 0), (List.getD (List.set [y1.q2, y1.q3, y1.q4, y1.q5, y1.q6, y1.q7, y1.q8, y1.q9, y1.q10, y1.q11, y1.q12, y1.q13, y1.q14, y1.q15, y1.q16, y1.q17] (Int.toNat a20) a21) 8 0), (List.getD (List.set [y1.q2, y1.q3, y1.q4, y1.q5, y1.q6, y1.q7, y1.q8, y1.q9, y1.q10, y1.q11, y1.q12, y1.q13, y1.q14, y1.q15, y1.q16, y1.q17] (Int.toNat a20) a21) 9 0), (List.getD (List.set [y1.q2, y1.q3, y1.q4, y1.q5, y1.q6, y1.q7, y1.q8, y1.q9, y1.q10, y1.q11, y1.q12, y1.q13, y1.q14, y1.q15, y1.q16, y1.q17] (Int.toNat a20) a21) 10 0), (List.getD (List.set [y1.q2, y1.q3, y1.q4, y1.q5, y1.q6, y1.q7, y1.q8, y1.q9, y1.q10, y1.q11, y1.q12, y1.q13, y1.q14, y1.q15, y1.q16, y1.q17] (Int.toNat a20) a21) 11 0), (List.getD (List.set [y1.q2, y1.q3, y1.q4, y1.q5, y1.q6, y1.q7, y1.q8, y1.q9, y1.q10, y1.q11, y1.q12, y1.q13, y1.q14, y1.q15, y1.q16, y1.q17] (Int.toNat a20) a21) 12 0), (List.getD (List.set [y1.q2, y1.q3, y1.q4, y1.q5, y1.q6, y1.q7, y1.q8, y1.q9, y1.q10, y1.q11, y1.q12, y1.q13, y1.q14, y1.q15, y1.q16, y1.q17] (Int.toNat a20) a21) 13 0), (List.getD (List.set [y1.q2, y1.q3, y1.q4, y1.q5, y1.q6, y1.q7, y1.q8, y1.q9, y1.q10, y1.q11, y1.q12, y1.q13, y1.q14, y1.q15, y1.q16, y1.q17] (Int.toNat a20) a21) 14 0), (List.getD (List.set [y1.q2, y1.q3, y1.q4, y1.q5, y1.q6, y1.q7, y1.q8, y1.q9, y1.q10, y1.q11, y1.q12, y1.q13, y1.q14, y1.q15, y1.q16, y1.q17] (Int.toNat a20) a21) 15 0)] (Int.toNat a20) (-1)) 11 0), (List.getD (List.set [(List.getD (List.set [y1.q2, y1.q3, y1.q4, y1.q5, y1.q6, y1.q7, y1.q8, y1.q9, y1.q10, y1.q11, y1.q12, y1.q13, y1.q14, y1.q15, y1.q16, y1.q17] (Int.toNat a20) a21) 0 0), (List.getD (List.set [y1.q2, y1.q3, y1.q4, y1.q5, y1.q6, y1.q7, y1.q8, y1.q9, y1.q10, y1.q11, y1.q12, y1.q13, y1.q14, y1.q15, y1.q16, y1.q17] (Int.toNat a20) a21) 1 0), (List.getD (List.set [y1.q2, y1.q3, y1.q4, y1.q5, y1.q6, y1.q7, y1.q8, y1.q9, y1.q10, y1.q11, y1.q12, y1.q13, y1.q14, y1.q15, y1.q16, y1.q17] (Int.toNat a20) a21) 2 0), (List.getD (List.set [y1.q2, y1.q3, y1.q4, y1.q5, y1.q6, y1.q7, y1.q8, y1.q9, y1.q10, y1.q11, y1.q12, y1.q13, y1.q14, y1.q15, y1.q16, y1.q17] (Int.toNat a20) a21) 3 0), (List.getD (List.set [y1.q2, y1.q3, y1.q4, y1.q5, y1.q6, y1.q7, y1.q8, y1.q9, y1.q10, y1.q11, y1.q12, y1.q13, y1.q14, y1.q15, y1.q16, y1.q17] (Int.toNat a20) a21) 4 0), (List.getD (List.set [y1.q2, y1.q3, y1.q4, y1.q5, y1.q6, y1.q7, y1.q8, y1.q9, y1.q10, y1.q11, y1.q12, y1.q13, y1.q14, y1.q15, y1.q16, y1.q17] (Int.toNat a20) a21) 5 0), (List.getD (List.set [y1.q2, y1.q3, y1.q4, y1.q5, y1.q6, y1.q7, y1.q8, y1.q9, y1.q10, y1.q11, y1.q12, y1.q13, y1.q14, y1.q15, y1.q16, y1.q17] (Int.toNat a20) a21) 6 0), (List.getD (List.set [y1.q2, y1.q3, y1.q4, y1.q5, y1.q6, y1.q7, y1.q8, y1.q9, y1.q10, y1.q11, y1.q12, y1.q13, y1.q14, y1.q15, y1.q16, y1.q17] (Int.toNat a20) a21) 7 0), (List.getD (List.set [y1.q2, y1.q3, y1.q4, y1.q5, y1.q6, y1.q7, y1.q8, y1.q9, y1.q10, y1.q11, y1.q12, y1.q13, y1.q14, y1.q15, y1.q16, y1.q17] (Int.toNat a20) a21) 8 0), (List.getD (List.set [y1.q2, y1.q3, y1.q4, y1.q5, y1.q6, y1.q7, y1.q8, y1.q9, y1.q10, y1.q11, y1.q12, y1.q13, y1.q14, y1.q15, y1.q16, y1.q17] (Int.toNat a20) a21) 9 0), (List.getD (List.set [y1.q2, y1.q3, y1.q4, y1.q5, y1.q6, y1.q7, y1.q8, y1.q9, y1.q10, y1.q11, y1.q12, y1.q13, y1.q14, y1.q15, y1.q16, y1.q17] (Int.toNat a20) a21) 10 0), (List.getD (List.set [y1.q2, y1.q3, y1.q4, y1.q5, y1.q6, y1.q7, y1.q8, y1.q9, y1.q10, y1.q11, y1.q12, y1.q13, y1.q14, y1.q15, y1.q16, y1.q17] (Int.toNat a20) a21) 11 0), (List.getD (List.set [y1.q2, y1.q3, y1.q4, y1.q5, y1.q6, y1.q7, y1.q8, y1.q9, y1.q10, y1.q11, y1.q12, y1.q13, y1.q14, y1.q15, y1.q16, y1.q17] (Int.toNat a20) a21) 12 0), (List.getD (List.set [y1.q2, y1.q3, y1.q4, y1.q5, y1.q6, y1.q7, y1.q8, y1.q9, y1.q10, y1.q11, y1.q12, y1.q13, y1.q14, y1.q15, y1.q16, y1.q17] (Int.toNat a20) a21) 13 0), (List.getD (List.set [y1.q2, y1.q3, y1.q4, y1.q5, y1.q6, y1.q7, y1.q8, y1.q9, y1.q10, y1.q11, y1.q12, y1.q13, y1.q14, y1.q15, y1.q16, y1.q17] (Int.toNat a20) a21) 14 0), (List.getD (List.set [y1.q2, y1.q3, y1.q4, y1.q5, y1.q6, y1.q7, y1.q8, y1.q9, y1.q10, y1.q11, y1.q12, y1.q13, y1.q14, y1.q15, y1.q16, y1.q17] (Int.toNat a20) a21) 15 0)] (Int.toNat a20) (-1)) 12 0), (List.getD (List.set [(List.getD (List.set [y1.q2, y1.q3, y1.q4, y1.q5, y1.q6, y1.q7, y1.q8, y1.q9, y1.q10, y1.q11, y1.q12, y1.q13, y1.q14, y1.q15, y1.q16, y1.q17] (Int.toNat a20) a21) 0 0), (List.getD (List.set [y1.q2, y1.q3, y1.q4, y1.q5, y1.q6, y1.q7, y1.q8, y1.q9, y1.q10, y1.q11, y1.q12, y1.q13, y1.q14, y1.q15, y1.q16, y1.q17] (Int.toNat a20) a21) 1 0), (List.getD (List.set [y1.q2, y1.q3, y1.q4, y1.q5, y1.q6, y1.q7, y1.q8, y1.q9, y1.q10, y1.q11, y1.q12, y1.q13, y1.q14, y1.q15, y1.q16, y1.q17] (Int.toNat a20) a21) 2 0), (List.getD (List.set [y1.q2, y1.q3, y1.q4, y1.q5, y1.q6, y1.q7, y1.q8, y1.q9, y1.q10, y1.q11, y1.q12, y1.q13, y1.q14, y1.q15, y1.q16, y1.q17] (Int.toNat a20) a21) 3 0), (List.getD (List.set [y1.q2, y1.q3, y1.q4, y1.q5, y1.q6, y1.q7, y1.q8, y1.q9, y1.q10, y1.q11, y1.q12, y1.q13, y1.q14, y1.q15, y1.q16, y1.q17] (Int.toNat a20) a21) 4 0), (List.getD (List.set [y1.q2, y1.q3, y1.q4, y1.q5, y1.q6, y1.q7, y1.q8, y1.q9, y1.q10, y1.q11, y1.q12, y1.q13, y1.q14, y1.q15, y1.q16, y1.q17] (Int.toNat a20) a21) 5 0), (List.getD (List.set [y1.q2, y1.q3, y1.q4, y1.q5, y1.q6, y1.q7, y1.q8, y1.q9, y1.q10, y1.q11, y1.q12, y1.q13, y1.q14, y1.q15, y1.q16, y1.q17] (Int.toNat a20) a21) 6 0), (List.getD (List.set [y1.q2, y1.q3, y1.q4, y1.q5, y1.q6, y1.q7, y1.q8, y1.q9, y1.q10, y1.q11, y1.q12, y1.q13, y1.q14, y1.q15, y1.q16, y1.q17] (Int.toNat a20) a21) 7 0), (List.getD (List.set [y1.q2, y1.q3, y1.q4, y1.q5, y1.q6, y1.q7, y1.q8, y1.q9, y1.q10, y1.q11, y1.q12, y1.q13, y1.q14, y1.q15, y1.q16, y1.q17] (Int.toNat a20) a21) 8 0), (List.getD (List.set [y1.q2, y1.q3, y1.q4, y1.q5, y1.q6, y1.q7, y1.q8, y1.q9, y1.q10, y1.q11, y1.q12, y1.q13, y1.q14, y1.q15, y1.q16, y1.q17] (Int.toNat a20) a21) 9 0), (List.getD (List.set [y1.q2, y1.q3, y1.q4, y1.q5, y1.q6, y1.q7, y1.q8, y1.q9, y1.q10, y1.q11, y1.q12, y1.q13, y1.q14, y1.q15, y1.q16, y1.q17] (Int.toNat a20) a21) 10 0), (List.getD (List.set [y1.q2, y1.q3, y1.q4, y1.q5, y1.q6, y1.q7, y1.q8, y1.q9, y1.q10, y1.q11, y1.q12, y1.q13, y1.q14, y1.q15, y1.q16, y1.q17] (Int.toNat a20) a21) 11 0), (List.getD (List.set [y1.q2, y1.q3, y1.q4, y1.q5, y1.q6, y1.q7, y1.q8, y1.q9, y1.q10, y1.q11, y1.q12, y1.q13, y1.q14, y1.q15, y1.q16, y1.q17] (Int.toNat a20) a21) 12 0), (List.getD (List.set [y1.q2, y1.q3, y1.q4, y1.q5, y1.q6, y1.q7, y1.q8, y1.q9, y1.q10, y1.q11, y1.q12, y1.q13, y1.q14, y1.q15, y1.q16, y1.q17] (Int.toNat a20) a21) 13 0), (List.getD (List.set [y1.q2, y1.q3, y1.q4, y1.q5, y1.q6, y1.q7, y1.q8, y1.q9, y1.q10, y1.q11, y1.q12, y1.q13, y1.q14, y1.q15, y1.q16, y1.q17] (Int.toNat a20) a21) 14 0), (List.getD (List.set [y1.q2, y1.q3, y1.q4, y1.q5, y1.q6, y1.q7, y1.q8, y1.q9, y1.q10, y1.q11, y1.q12, y1.q13, y1.q14, y1.q15, y1.q16, y1.q17] (Int.toNat a20) a21) 15 0)] (Int.toNat a20) (-1)) 13 0), (List.getD (List.set [(List.getD (List.set [y1.q2, y1.q3, y1.q4, y1.q5, y1.q6, y1.q7, y1.q8, y1.q9, y1.q10, y1.q11, y1.q12, y1.q13, y1.q14, y1.q15, y1.q16, y1.q17] (Int.toNat a20) a21) 0 0), (List.getD (List.set [y1.q2, y1.q3, y1.q4, y1.q5, y1.q6, y1.q7, y1.q8, y1.q9, y1.q10, y1.q11, y1.q12, y1.q13, y1.q14, y1.q15, y1.q16, y1.q17] (Int.toNat a20) a21) 1 0), (List.getD (List.set [y1.q2, y1.q3, y1.q4, y1.q5, y1.q6, y1.q7, y1.q8, y1.q9, y1.q10, y1.q11, y1.q12, y1.q13, y1.q14, y1.q15, y1.q16, y1.q17] (Int.toNat a20) a21) 2 0), (List.getD (List.set [y1.q2, y1.q3, y1.q4, y1.q5, y1.q6, y1.q7, y1.q8, y1.q9, y1.q10, y1.q11, y1.q12, y1.q13, y1.q14, y1.q15, y1.q16, y1.q17] (Int.toNat a20) a21) 3 0), (List.getD (List.set [y1.q2, y1.q3, y1.q4, y1.q5, y1.q6, y1.q7, y1.q8, y1.q9, y1.q10, y1.q11, y1.q12, y1.q13, y1.q14, y1.q15, y1.q16, y1.q17] (Int.toNat a20) a21) 4 0), (List.getD (List.set [y1.q2, y1.q3, y1.q4, y1.q5, y1.q6, y1.q7, y1.q8, y1.q9, y1.q10, y1.q11, y1.q12, y1.q13, y1.q14, y1.q15, y1.q16, y1.q17] (Int.toNat a20) a21) 5 0), (List.getD (List.set [y1.q2, y1.q3, y1.q4, y1.q5, y1.q6, y1.q7, y1.q8, y1.q9, y1.q10, y1.q11, y1.q12, y1.q13, y1.q14, y1.q15, y1.q16, y1.q17] (Int.toNat a20) a21) 6 0), (List.getD (List.set [y1.q2, y1.q3, y1.q4, y1.q5, y1.q6, y1.q7, y1.q8, y1.q9, y1.q10, y1.q11, y1.q12, y1.q13, y1.q14, y1.q15, y1.q16, y1.q17] (Int.toNat a20) a21) 7 0), (List.getD (List.set [y1.q2, y1.q3, y1.q4, y1.q5, y1.q6, y1.q7, y1.q8, y1.q9, y1.q10, y1.q11, y1.q12, y1.q13, y1.q14, y1.q15, y1.q16, y1.q17] (Int.toNat a20) a21) 8 0), (List.getD (List.set [y1.q2, y1.q3, y1.q4, y1.q5, y1.q6, y1.q7, y1.q8, y1.q9, y1.q10, y1.q11, y1.q12, y1.q13, y1.q14, y1.q15, y1.q16, y1.q17] (Int.toNat a20) a21) 9 0), (List.getD (List.set [y1.q2, y1.q3, y1.q4, y1.q5, y1.q6, y1.q7, y1.q8, y1.q9, y1.q10, y1.q11, y1.q12, y1.q13, y1.q14, y1.q15, y1.q16, y1.q17] (Int.toNat a20) a21) 10 0), (List.getD (List.set [y1.q2, y1.q3, y1.q4, y1.q5, y1.q6, y1.q7, y1.q8, y1.q9, y1.q10, y1.q11, y1.q12, y1.q13, y1.q14, y1.q15, y1.q16, y1.q17] (Int.toNat a20) a21) 11 0), (List.getD (List.set [y1.q2, y1.q3, y1.q4, y1.q5, y1.q6, y1.q7, y1.q8, y1.q9, y1.q10, y1.q11, y1.q12, y1.q13, y1.q14, y1.q15, y1.q16, y1.q17] (Int.toNat a20) a21) 12 0), (List.getD (List.set [y1.q2, y1.q3, y1.q4, y1.q5, y1.q6, y1.q7, y1.q8, y1.q9, y1.q10, y1.q11, y1.q12, y1.q13, y1.q14, y1.q15, y1.q16, y1.q17] (Int.toNat a20) a21) 13 0), (List.getD (List.set [y1.q2, y1.q3, y1.q4, y1.q5, y1.q6, y1.q7, y1.q8, y1.q9, y1.q10, y1.q11, y1.q12, y1.q13, y1.q14, y1.q15, y1.q16, y1.q17] (Int.toNat a20) a21) 14 0), (List.getD (List.set [y1.q2, y1.q3, y1.q4, y1.q5, y1.q6, y1.q7, y1.q8, y1.q9, y1.q10, y1.q11, y1.q12, y1.q13, y1.q14, y1.q15, y1.q16, y1.q17] (Int.toNat a20) a21) 15 0)] (Int.toNat a20) (-1)) 14 0), (List.getD (List.set [(List.getD (List.set [y1.q2, y1.q3, y1.q4, y1.q5, y1.q6, y1.q7, y1.q8, y1.q9, y1.q10, y1.q11, y1.q12, y1.q13, y1.q14, y1.q15, y1.q16, y1.q17] (Int.toNat a20) a21) 0 0), (List.getD (List.set [y1.q2, y1.q3, y1.q4, y1.q5, y1.q6, y1.q7, y1.q8, y1.q9, y1.q10, y1.q11, y1.q12, y1.q13, y1.q14, y1.q15, y1.q16, y1.q17] (Int.toNat a20) a21) 1 0), (List.getD (List.set [y1.q2, y1.q3, y1.q4, y1.q5, y1.q6, y1.q7, y1.q8, y1.q9, y1.q10, y1.q11, y1.q12, y1.q13, y1.q14, y1.q15, y1.q16, y1.q17] (Int.toNat a20) a21) 2 0), (List.getD (List.set [y1.q2, y1.q3, y1.q4, y1.q5, y1.q6, y1.q7, y1.q8, y1.q9, y1.q10, y1.q11, y1.q12, y1.q13, y1.q14, y1.q15, y1.q16, y1.q17] (Int.toNat a20) a21) 3 0), (List.getD (List.set [y1.q2, y1.q3, y1.q4, y1.q5, y1.q6, y1.q7, y1.q8, y1.q9, y1.q10, y1.q11, y1.q12, y1.q13, y1.q14, y1.q15, y1.q16, y1.q17] (Int.toNat a20) a21) 4 0), (List.getD (List.set [y1.q2, y1.q3, y1.q4, y1.q5, y1.q6, y1.q7, y1.q8, y1.q9, y1.q10, y1.q11, y1.q12, y1.q13, y1.q14, y1.q15, y1.q16, y1.q17] (Int.toNat a20) a21) 5 0), (List.getD (List.set [y1.q2, y1.q3, y1.q4, y1.q5, y1.q6, y1.q7, y1.q8, y1.q9, y1.q10, y1.q11, y1.q12, y1.q13, y1.q14, y1.q15, y1.q16, y1.q17] (Int.toNat a20) a21) 6 0), (List.getD (List.set [y1.q2, y1.q3, y1.q4, y1.q5, y1.q6, y1.q7, y1.q8, y1.q9, y1.q10, y1.q11, y1.q12, y1.q13, y1.q14, y1.q15, y1.q16, y1.q17] (Int.toNat a20) a21) 7 0), (List.getD (List.set [y1.q2, y1.q3, y1.q4, y1.q5, y1.q6, y1.q7, y1.q8, y1.q9, y1.q10, y1.q11, y1.q12, y1.q13, y1.q14, y1.q15, y1.q16, y1.q17] (Int.toNat a20) a21) 8 0), (List.getD (List.set [y1.q2, y1.q3, y1.q4, y1.q5, y1.q6, y1.q7, y1.q8, y1.q9, y1.q10, y1.q11, y1.q12, y1.q13, y1.q14, y1.q15, y1.q16, y1.q17] (Int.toNat a20) a21) 9 0), (List.getD (List.set [y1.q2, y1.q3, y1.q4, y1.q5, y1.q6, y1.q7, y1.q8, y1.q9, y1.q10, y1.q11, y1.q12, y1.q13, y1.q14, y1.q15, y1.q16, y1.q17] (Int.toNat a20) a21) 10 0), (List.getD (List.set [y1.q2, y1.q3, y1.q4, y1.q5, y1.q6, y1.q7, y1.q8, y1.q9, y1.q10, y1.q11, y1.q12, y1.q13, y1.q14, y1.q15, y1.q16, y1.q17] (Int.toNat a20) a21) 11 0), (List.getD (List.set [y1.q2, y1.q3, y1.q4, y1.q5, y1.q6, y1.q7, y1.q8, y1.q9, y1.q10, y1.q11, y1.q12, y1.q13, y1.q14, y1.q15, y1.q16, y1.q17] (Int.toNat a20) a21) 12 0), (List.getD (List.set [y1.q2, y1.q3, y1.q4, y1.q5, y1.q6, y1.q7, y1.q8, y1.q9, y1.q10, y1.q11, y1.q12, y1.q13, y1.q14, y1.q15, y1.q16, y1.q17] (Int.toNat a20) a21) 13 0), (List.getD (List.set [y1.q2, y1.q3, y1.q4, y1.q5, y1.q6, y1.q7, y1.q8, y1.q9, y1.q10, y1.q11, y1.q12, y1.q13, y1.q14, y1.q15, y1.q16, y1.q17] (Int.toNat a20) a21) 14 0), (List.getD (List.set [y1.q2, y1.q3, y1.q4, y1.q5, y1.q6, y1.q7, y1.q8, y1.q9, y1.q10, y1.q11, y1.q12, y1.q13, y1.q14, y1.q15, y1.q16, y1.q17] (Int.toNat a20) a21) 15 0)] (Int.toNat a20) (-1)) 15 0), (0), y1.q18, y1.q19⟩)
         else (none))
        else (none))
       else (some ⟨y1.q0, y1.q1, (List.getD (List.set [y1.q2, y1.q3, y1.q4, y1.q5, y1.q6, y1.q7, y1.q8, y1.q9, y1.q10, y1.q11, y1.q12, y1.q13, y1.q14, y1.q15, y1.q16, y1.q17] (Int.toNat a20) a21) 0 0), (List.getD (List.set [y1.q2, y1.q3, y1.q4, y1.q5, y1.q6, y1.q7, y1.q8, y1.q9, y1.q10, y1.q11, y1.q12, y1.q13, y1.q14, y1.q15, y1.q16, y1.q17] (Int.toNat a20) a21) 1 0), (List.getD (List.set [y1.q2, y1.q3, y1.q4, y1.q5, y1.q6, y1.q7, y1.q8, y1.q9, y1.q10, y1.q11, y1.q12, y1.q13, y1.q14, y1.q15, y1.q16, y1.q17] (Int.toNat a20) a21) 2 0), (List.getD (List.set [y1.q2, y1.q3, y1.q4, y1.q5, y1.q6, y1.q7, y1.q8, y1.q9, y1.q10, y1.q11, y1.q12, y1.q13, y1.q14, y1.q15, y1.q16, y1.q17] (Int.toNat a20) a21) 3 0), (List.getD (List.set [y1.q2, y1.q3, y1.q4, y1.q5, y1.q6, y1.q7, y1.q8, y1.q9, y1.q10, y1.q11, y1.q12, y1.q13, y1.q14, y1.q15, y1.q16, y1.q17] (Int.toNat a20) a21) 4 0), (List.getD (List.set [y1.q2, y1.q3, y1.q4, y1.q5, y1.q6, y1.q7, y1.q8, y1.q9, y1.q10, y1.q11, y1.q12, y1.q13, y1.q14, y1.q15, y1.q16, y1.q17] (Int.toNat a20) a21) 5 0), (List.getD (List.set [y1.q2, y1.q3, y1.q4, y1.q5, y1.q6, y1.q7, y1.q8, y1.q9, y1.q10, y1.q11, y1.q12, y1.q13, y1.q14, y1.q15, y1.q16, y1.q17] (Int.toNat a20) a21) 6 0), (List.getD (List.set [y1.q2, y1.q3, y1.q4, y1.q5, y1.q6, y1.q7, y1.q8, y1.q9, y1.q10, y1.q11, y1.q12, y1.q13, y1.q14, y1.q15, y1.q16, y1.q17] (Int.toNat a20) a21) 7 0), (List.getD (List.set [y1.q2, y1.q3, y1.q4, y1.q5, y1.q6, y1.q7, y1.q8, y1.q9, y1.q10, y1.q11, y1.q12, y1.q13, y1.q14, y1.q15, y1.q16, y1.q17] (Int.toNat a20) a21) 8 0), (List.getD (List.set [y1.q2, y1.q3, y1.q4, y1.q5, y1.q6, y1.q7, y1.q8, y1.q9, y1.q10, y1.q11, y1.q12, y1.q13, y1.q14, y1.q15, y1.q16, y1.q17] (Int.toNat a20) a21) 9 0), (List.getD (List.set [y1.q2, y1.q3, y1.q4, y1.q5, y1.q6, y1.q7, y1.q8, y1.q9, y1.q10, y1.q11, y1.q12, y1.q13, y1.q14, y1.q15, y1.q16, y1.q17] (Int.toNat a20) a21) 10 0), (List.getD (List.set [y1.q2, y1.q3, y1.q4, y1.q5, y1.q6, y1.q7, y1.q8, y1.q9, y1.q10, y1.q11, y1.q12, y1.q13, y1.q14, y1.q15, y1.q16, y1.q17] (Int.toNat a20) a21) 11 0), (List.getD (List.set [y1.q2, y1.q3, y1.q4, y1.q5, y1.q6, y1.q7, y1.q8, y1.q9, y1.q10, y1.q11, y1.q12, y1.q13, y1.q14, y1.q15, y1.q16, y1.q17] (Int.toNat a20) a21) 12 0), (List.getD (List.set [y1.q2, y1.q3, y1.q4, y1.q5, y1.q6, y1.q7, y1.q8, y1.q9, y1.q10, y1.q11, y1.q12, y1.q13, y1.q14, y1.q15, y1.q16, y1.q17] (Int.toNat a20) a21) 13 0), (List.getD (List.set [y1.q2, y1.q3, y1.q4, y1.q5, y1.q6, y1.q7, y1.q8, y1.q9, y1.q10, y1.q11, y1.q12, y1.q13, y1.q14, y1.q15, y1.q16, y1.q17] (Int.toNat a20) a21) 14 0), (List.getD (List.set [y1.q2, y1.q3, y1.q4, y1.q5, y1.q6, y1.q7, y1.q8, y1.q9, y1.q10, y1.q11, y1.q12, y1.q13, y1.q14, y1.q15, y1.q16, y1.q17] (Int.toNat a20) a21) 15 0), (0), y1.q18, y1.q19⟩))
      else (none))
     else (none))))

/-! ### garland/garlandref12.Ints -/
def F38_c0 : Nat → List (Int) → List (Int) → Int → Option (Bool)
  | 0, _, _, _ => none
  | n + 1, x0, x1, x2 => bif (ilt x2 (ofN (List.length x0))) then
    (bif (inb x2 (List.length x0)) then
     (bif (inb x2 (List.length x1)) then
      (bif (ine (List.getD x0 (Int.toNat x2) 0) (List.getD x1 (Int.toNat x2) 0)) then
       (some false)
       else (F38_c0 n x0 x1 (iadd .i64 x2 (1))))
      else (none))
     else (none))
    else (some true)
def F38 (n : Nat) (a0 : List (Int)) (a1 : List (Int)) : Option (Bool) :=
  bif (ine (ofN (List.length a0)) (ofN (List.length a1))) then
  (some false)
  else (F38_c0 n a0 a1 (0))

/-! ### garland/garlandref13.Same -/
def F16 (_n : Nat) (a0 : Int) (a1 : List (Int)) (a2 : List (Int)) (a3 : Int) (a4 : Int) (a5 : Int) (a6 : Int) (a7 : Int) (a8 : Int) (a9 : Int) (a10 : Int) (a11 : Int) (a12 : Int) (a13 : Int) (a14 : Int) (a15 : Int) (a16 : Int) (a17 : Int) (a18 : Int) (a19 : Int) (a20 : Int) (a21 : List (Int)) (a22 : List (Int)) (a23 : Int) (a24 : Int) (a25 : Int) (a26 : Int) (a27 : Int) (a28 : Int) (a29 : Int) (a30 : Int) (a31 : Int) (a32 : Int) (a33 : Int) (a34 : Int) (a35 : Int) (a36 : Int) (a37 : Int) (a38 : Int) (a39 : Int) : Option (Bool) :=
  bif (ieq a0 a20) then
  (Option.bind (F38 FUEL a1 a21) fun y1 =>
   bif y1 then
   (Option.bind (F38 FUEL a2 a22) fun y2 =>
    bif y2 then
    (bif (ieq a3 a23) then
     (some ((ieq a4 a24) && ((ieq a5 a25) && ((ieq a6 a26) && ((ieq a7 a27) && ((ieq a8 a28) && ((ieq a9 a29) && ((ieq a10 a30) && ((ieq a11 a31) && ((ieq a12 a32) && ((ieq a13 a33) && ((ieq a14 a34) && ((ieq a15 a35) && ((ieq a16 a36) && ((ieq a17 a37) && ((ieq a18 a38) && ((ieq a19 a39) && true)))))))))))))))))
     else (some false))
    else (some false))
   else (some false))
  else (some false)

/-! ### garland/garlandref17.Walk -/
structure Si20bl2 where
  q0 : Int
  q1 : Int
  q2 : Int
  q3 : Int
  q4 : Int
  q5 : Int
  q6 : Int
  q7 : Int
  q8 : Int
  q9 : Int
  q10 : Int
  q11 : Int
  q12 : Int
  q13 : Int
  q14 : Int
  q15 : Int
  q16 : Int
  q17 : Int
  q18 : Int
  q19 : Int
  q20 : Bool
  q21 : List (Int)
  q22 : List (Int)
def F18_c0 : Nat → Int → Int → Int → Int → Int → Int → Int → Int → Int → Int → Int → Int → Int → Int → Int → Int → Int → Int → Int → Int → Int → Int → Int → Int → Int → Int → Int → Int → Int → Int → Int → Int → Int → Int → Int → Int → Int → List (Int) → List (Int) → Option (Si20bl2)
  | 0, _, _, _, _, _, _, _, _, _, _, _, _, _, _, _, _, _, _, _, _, _, _, _, _, _, _, _, _, _, _, _, _, _, _, _, _, _, _, _ => none
  | n + 1, x0, x1, x2, x3, x4, x5, x6, x7, x8, x9, x10, x11, x12, x13, x14, x15, x16, x17, x18, x19, x20, x21, x22, x23, x24, x25, x26, x27, x28, x29, x30, x31, x32, x33, x34, x35, x36, x37, x38 => bif (ilt x0 (16)) then
    (Option.bind (F13 FUEL x1 x37 x38 x2 x3 x4 x5 x6 x7 x8 x9 x10 x11 x12 x13 x14 x15 x16 x17 x18 x0) fun y3 =>
     bif (!y3.2) then
     (Option.bind (F25 FUEL x1 x0) fun y4 =>
      some ⟨x1, x2, x3, x4, x5, x6, x7, x8, x9, x10, x11, x12, x13, x14, x15, x16, x17, x18, x0, y4, true, x37, x38⟩)
     else (bif (inb x0 16) then
      (bif (nlt (Int.toNat x0) 16) then
       (F18_c0 n (iadd .i64 x0 (1)) x1 x2 (List.getD (List.set [x3, x4, x5, x6, x7, x8, x9, x10, x11, x12, x13, x14, x15, x16, x17, x18] (Int.toNat x0) y3.1) 0 0) (List.getD (List.set [x3, x4, x5, x6, x7, x8, x9, x10, x11, x12, x13, x14, x15, x16, x17, x18] (Int.toNat x0) y3.1) 1 0) (List.getD (List.set [x3, x4, x5, x6, x7, x8, x9, x10, x11, x12, x13, x14, x15, x16, x17, x18] (Int.toNat x0) y3.1) 2 0) (List.getD (List.set [x3, x4, x5, x6, x7, x8, x9, x10, x11, x12, x13, x14, x15, x16, x17, x18] (Int.toNat x0) y3.1) 3 0) (List.getD (List.set [x3, x4, x5, x6, x7, x8, x9, x10, x11, x12, x13, x14, x15, x16, x17, x18] (Int.toNat x0) y3.1) 4 0) (List.getD (List.set [x3, x4, x5, x6, x7, x8, x9, x10, x11, x12, x13, x14, x15, x16, x17, x18] (Int.toNat x0) y3.1) 5 0) (List.getD (List.set [x3, x4, x5, x6, x7, x8, x9, x10, x11, x12, x13, x14, x15, x16, x17, x18] (Int.toNat x0) y3.1) 6 0) (List.getD (List.set [x3, x4, x5, x6, x7, x8, x9, x10, x11, x12, x13, x14, x15, x16, x17, x18] (Int.toNat x0) y3.1) 7 0) (List.getD (List.set [x3, x4, x5, x6, x7, x8, x9, x10, x11, x12, x13, x14, x15, x16, x17, x18] (Int.toNat x0) y3.1) 8 0) (List.getD (List.set [x3, x4, x5, x6, x7, x8, x9, x10, x11, x12, x13, x14, x15, x16, x17, x18] (Int.toNat x0) y3.1) 9 0) (List.getD (List.set [x3, x4, x5, x6, x7, x8, x9, x10, x11, x12, x13, x14, x15, x16, x17, x18] (Int.toNat x0) y3.1) 10 0) (List.getD (List.set [x3, x4, x5, x6, x7, x8, x9, x10, x11, x12, x13, x14, x15, x16, x17, x18] (Int.toNat x0) y3.1) 11 0) (List.getD (List.set [x3, x4, x5, x6, x7, x8, x9, x10, x11, x12, x13, x14, x15, x16, x17, x18] (Int.toNat x0) y3.1) 12 0) (List.getD (List.set [x3, x4, x5, x6, x7, x8, x9, x10, x11, x12, x13, x14, x15, x16, x17, x18] (Int.toNat x0) y3.1) 13 0) (List.getD (List.set [x3, x4, x5, x6, x7, x8, x9, x10, x11, x12, x13, x14, x15, x16, x17, x18] (Int.toNat x0) y3.1) 14 0) (List.getD (List.set [x3, x4, x5, x6, x7, x8, x9, x10, x11, x12, x13, x14, x15, x16, x17, x18] (Int.toNat x0) y3.1) 15 0) x19 x20 x21 x22 x23 x24 x25 x26 x27 x28 x29 x30 x31 x32 x33 x34 x35 x36 x37 x38)
       else (none))
      else (none)))
    else (some ⟨x1, x2, x3, x4, x5, x6, x7, x8, x9, x10, x11, x12, x13, x14, x15, x16, x17, x18, (0), (0), false, x37, x38⟩)
def F18 (n : Nat) (a0 : Int) (a1 : List (Int)) (a2 : List (Int)) (a3 : Int) (a4 : Int) (a5 : Int) (a6 : Int) (a7 : Int) (a8 : Int) (a9 : Int) (a10 : Int) (a11 : Int) (a12 : Int) (a13 : Int) (a14 : Int) (a15 : Int) (a16 : Int) (a17 : Int) (a18 : Int) (a19 : Int) (a20 : Int) : Option (Si20bl2) :=
  Option.bind (F37 FUEL a0 a1 a2 a3 a4 a5 a6 a7 a8 a9 a10 a11 a12 a13 a14 a15 a16 a17 a18 a19) fun y1 =>
  Option.bind (F21 FUEL y1.q0 y1.q18 y1.q19 y1.q1 y1.q2 y1.q3 y1.q4 y1.q5 y1.q6 y1.q7 y1.q8 y1.q9 y1.q10 y1.q11 y1.q12 y1.q13 y1.q14 y1.q15 y1.q16 y1.q17) fun y2 =>
  bif (!y2) then
  (some ⟨y1.q0, y1.q1, y1.q2, y1.q3, y1.q4, y1.q5, y1.q6, y1.q7, y1.q8, y1.q9, y1.q10, y1.q11, y1.q12, y1.q13, y1.q14, y1.q15, y1.q16, y1.q17, (0), (0), false, y1.q18, y1.q19⟩)
  else (bif (ilt a20 (0)) then
   (F18_c0 n (0) y1.q0 y1.q1 y1.q2 y1.q3 y1.q4 y1.q5 y1.q6 y1.q7 y1.q8 y1.q9 y1.q10 y1.q11 y1.q12 y1.q13 y1.q14 y1.q15 y1.q16 y1.q17 (0) (0) (0) (0) (0) (0) (0) (0) (0) (0) (0) (0) (0) (0) (0) (0) (0) (0) y1.q18 y1.q19)
   else (bif (ige a20 (16)) then
    (F18_c0 n (0) y1.q0 y1.q1 y1.q2 y1.q3 y1.q4 y1.q5 y1.q6 y1.q7 y1.q8 y1.q9 y1.q10 y1.q11 y1.q12 y1.q13 y1.q14 y1.q15 y1.q16 y1.q17 (0) (0) (0) (0) (0) (0) (0) (0) (0) (0) (0) (0) (0) (0) (0) (0) (0) (0) y1.q18 y1.q19)
    else (F18_c0 n a20 y1.q0 y1.q1 y1.q2 y1.q3 y1.q4 y1.q5 y1.q6 y1.q7 y1.q8 y1.q9 y1.q10 y1.q11 y1.q12 y1.q13 y1.q14 y1.q15 y1.q16 y1.q17 (0) (0) (0) (0) (0) (0) (0) (0) (0) (0) (0) (0) (0) (0) (0) (0) (0) (0) y1.q18 y1.q19)))

/-! ### garland/garlandref17.Table -/
mutual
def F20_c0 : Nat → List (Int) → Bool → Int → Int → Int → Int → Int → Int → Int → Int → Int → Int → Int → Int → Int → Int → Int → Int → Int → Int → Int → Int → Int → Int → Int → Int → Int → Int → Int → Int → Int → Int → Int → Int → Int → Int → Int → Int → Int → List (Int) → List (Int) → Option (Si19l2)
  | 0, _, _, _, _, _, _, _, _, _, _, _, _, _, _, _, _, _, _, _, _, _, _, _, _, _, _, _, _, _, _, _, _, _, _, _, _, _, _, _, _, _ => none
  | n + 1, x0, x1, x2, x3, x4, x5, x6, x7, x8, x9, x10, x11, x12, x13, x14, x15, x16, x17, x18, x19, x20, x21, x22, x23, x24, x25, x26, x27, x28, x29, x30, x31, x32, x33, x34, x35, x36, x37, x38, x39, x40 => bif (ilt x2 (ofN (List.length x0))) then
    (bif x1 then
     (bif (inb x2 (List.length x0)) then
      (bif (ige (List.getD x0 (Int.toNat x2) 0) (0)) then
       (bif (inb x2 (List.length x0)) then
        (F20_c0 n x0 (ilt (List.getD x0 (Int.toNat x2) 0) (65536)) (iadd .i64 x2 (1)) x3 x4 x5 x6 x7 x8 x9 x10 x11 x12 x13 x14 x15 x16 x17 x18 x19 x20 x21 x22 x23 x24 x25 x26 x27 x28 x29 x30 x31 x32 x33 x34 x35 x36 x37 x38 x39 x40)
        else (none))
       else (F20_c0 n x0 false (iadd .i64 x2 (1)) x3 x4 x5 x6 x7 x8 x9 x10 x11 x12 x13 x14 x15 x16 x17 x18 x19 x20 x21 x22 x23 x24 x25 x26 x27 x28 x29 x30 x31 x32 x33 x34 x35 x36 x37 x38 x39 x40))
      else (none))
     else (F20_c0 n x0 false (iadd .i64 x2 (1)) x3 x4 x5 x6 x7 x8 x9 x10 x11 x12 x13 x14 x15 x16 x17 x18 x19 x20 x21 x22 x23 x24 x25 x26 x27 x28 x29 x30 x31 x32 x33 x34 x35 x36 x37 x38 x39 x40))
    else (bif (!x1) then
     (some ⟨x3, x4, x5, x6, x7, x8, x9, x10, x11, x12, x13, x14, x15, x16, x17, x18, x19, x20, (2), x39, x40⟩)
     else (F20_c1 n x0 (0) x3 x4 x5 x6 x7 x8 x9 x10 x11 x12 x13 x14 x15 x16 x17 x18 x19 x20 x21 x22 x23 x24 x25 x26 x27 x28 x29 x30 x31 x32 x33 x34 x35 x36 x37 x38 x39 x40))
def F20_c1 : Nat → List (Int) → Int → Int → Int → Int → Int → Int → Int → Int → Int → Int → Int → Int → Int → Int → Int → Int → Int → Int → Int → Int → Int → Int → Int → Int → Int → Int → Int → Int → Int → Int → Int → Int → Int → Int → Int → Int → Int → List (Int) → List (Int) → Option (Si19l2)
  | 0, _, _, _, _, _, _, _, _, _, _, _, _, _, _, _, _, _, _, _, _, _, _, _, _, _, _, _, _, _, _, _, _, _, _, _, _, _, _, _, _ => none
  | n + 1, x0, x1, x2, x3, x4, x5, x6, x7, x8, x9, x10, x11, x12, x13, x14, x15, x16, x17, x18, x19, x20, x21, x22, x23, x24, x25, x26, x27, x28, x29, x30, x31, x32, x33, x34, x35, x36, x37, x38, x39 => bif (ilt x1 (16)) then
    (Option.bind (F25 FUEL x2 x1) fun y3 =>
     Option.bind (F22 FUEL x0 y3) fun y4 =>
     bif (inb x1 16) then
     (bif (nlt (Int.toNat x1) 16) then
      (bif (ieq y4.1 x2) then
       (bif (inb x1 16) then
        (bif (nlt (Int.toNat x1) 16) then
         (F20_c1 n x0 (iadd .i64 x1 (1)) x2 x3 (List.getD (List.set [(List.getD (List.set [x4, x5, x6, x7, x8, x9, x10, x11, x12, x13, x14, x15, x16, x17, x18, x19] (Int.toNat x1) y4.1) 0 0), (List.getD (List.set [x4, x5, x6, x7, x8, x9, x10, x11, x12, x13, x14, x15, x16, x17, x18, x19] (Int.toNat x1) y4.1) 1 0), (List.getD (List.set [x4, x5, x6, x7, x8, x9, x10, x11, x12, x13, x14, x15, x16, x17, x18, x19] (Int.toNat x1) y4.1) 2 0), (List.getD (List.set [x4, x5, x6, x7, x8, x9, x10, x11, x12, x13, x14, x15, x16, x17, x18, x19] (Int.toNat x1) y4.1) 3 0), (List.getD (List.set [x4, x5, x6, x7, x8, x9, x10, x11, x12, x13, x14, x15, x16, x17, x18, x19] (Int.toNat x1) y4.1) 4 0), (List.getD (List.set [x4, x5, x6, x7, x8, x9, x10, x11, x12, x13, x14, x15, x16, x17, x18, x19] (Int.toNat x1) y4.1) 5 0), (List.getD (List.set [x4, x5, x6, x7, x8, x9, x10, x11, x12, x13, x14, x15, x16, x17, x18, x19] (Int.toNat x1) y4.1) 6 0), (List.getD (List.set [x4, x5, x6, x7, x8, x9, x10, x11, x12, x13, x14, x15, x16, x17, x18, x19] (Int.toNat x1) y4.1) 7 0), (List.getD (List.set [x4, x5, x6, x7, x8, x9, x10, x11, x12, x13, x14, x15, x16, x17, x18, x19] (Int.toNat x1) y4.1) 8 0), (List.getD (List.set [x4, x5, x6, x7, x8, x9, x10, x11, x12, x13, x14, x15, x16, x17, x18, x19] (Int.toNat x1) y4.1) 9 0), (List.getD (List.set [x4, x5, x6, x7, x8, x9, x10, x11, x12, x13, x14, x15, x16, x17, x18, x19] (Int.toNat x1) y4.1) 10 0), (List.getD (List.set [x4, x5, x6, x7, x8, x9, x10, x11, x12, x13, x14, x15, x16, x17, x18, x19] (Int.toNat x1) y4.1) 11 0), (List.getD (List.set [x4, x5, x6, x7, x8, x9, x10, x11, x12, x13, x14, x15, x16, x17, x18, x19] (Int.toNat x1) y4.1) 12 0), (List.getD (List.set [x4, x5, x6, x7, x8, x9, x10, x11, x12, x13, x14, x15, x16, x17, x18, x19] (Int.toNat x1) y4.1) 13 0), (List.getD (List.set [x4, x5, x6, x7, x8, x9, x10, x11, x12, x13, x14, x15, x16, x17, x18, x19] (Int.toNat x1) y4.1) 14 0), (List.getD (List.set [x4, x5, x6, x7, x8, x9, x10, x11, x12, x13, x14, x15, x16, x17, x18, x19] (Int.toNat x1) y4.1) 15 0)] (Int.toNat x1) (-1)) 0 0) (List.getD (List.set [(List.getD (List.set [x4, x5, x6, x7, x8, x9, x10, x11, x12, x13, x14, x15, x16, x17, x18, x19] (Int.toNat x1) y4.1) 0 0), (List.getD (List.set [x4, x5, x6, x7, x8, x9, x10, x11, x12, x13, x14, x15, x16, x17, x18, x19] (Int.toNat x1) y4.1) 1 0), (List.getD (List.set [x4, x5, x6, x7, x8, x9, x10, x11, x12, x13, x14, x15, x16, x17, x18, x19] (Int.toNat x1) y4.1) 2 0), (List.getD (List.set [x4, x5, x6, x7, x8, x9, x10, x11, x12, x13, x14, x15, x16, x17, x18, x19] (Int.toNat x1) y4.1) 3 0), (List.getD (List.set [x4, x5, x6, x7, x8, x9, x10, x11, x12, x13, x14, x15, x16, x17, x18, x19] (Int.toNat x1) y4.1) 4 0), (List.getD (List.set [x4, x5, x6, x7, x8, x9, x10, x11, x12, x13, x14, x15, x16, x17, x18, x19] (Int.toNat x1) y4.1) 5 0), (List.getD (List.set [x4, x5, x6, x7, x8, x9, x10, x11, x12, x13, x14, x15, x16, x17, x18, x19] (Int.toNat x1) y4.1) 6 0), (List.getD (List.set [x4, x5, x6, x7, x8, x9, x10, x11, x12, x13, x14, x15, x16, x17, x18, x19] (Int.toNat x1) y4.1) 7 0), (List.getD (List.set [x4, x5, x6, x7, x8, x9, x10, x11, x12, x13, x14, x15, x16, x17, x18, x19] (Int.toNat x1) y4.1) 8 0), (List.getD (List.set [x4, x5, x6, x7, x8, x9, x10, x11, x12, x13, x14, x15, x16, x17, x18, x19] (Int.toNat x1) y4.1) 9 0), (List.getD (List.set [x4, x5, x6, x7, x8, x9, x10, x11, x12, x13, x14, x15, x16, x17, x18, x19] (Int.toNat x1) y4.1) 10 0), (List.getD (List.set [x4, x5, x6, x7, x8, x9, x10, x11, x12, x13, x14, x15, x16, x17, x18, x19] (Int.toNat x1) y4.1) 11 0), (List.getD (List.set [x4, x5, x6, x7, x8, x9, x10, x11, x12, x13, x14, x15, x16, x17, x18, x19] (Int.toNat x1) y4.1) 12 0), (List.getD (List.set [x4, x5, x6, x7, x8, x9, x10, x11, x12, x13, x14, x15, x16, x17, x18, x19] (Int.toNat x1) y4.1) 13 0), (List.getD (List.set [x4, x5, x6, x7, x8, x9, x10, x11, x12, x13, x14, x15, x16, x17, x18, x19] (Int.toNat x1) y4.1) 14 0), (List.getD (List.set [x4, x5, x6, x7, x8, x9, x10, x11, x12, x13, x14, x15, x16, x17, x18, x19] (Int.toNat x1) y4.1) 15 0)] (Int.toNat x1) (-1)) 1 0) (List.getD (List.set [(List.getD (List.set [x4, x5, x6, x7, x8, x9, x10, x11, x12, x13, x14, x15, x16, x17, x18, x19] (Int.toNat x1) y4.1) 0 0), (List.getD (List.set [x4, x5, x6, x7, x8, x9, x10, x11, x12, x13, x14, x15, x16, x17, x18, x19] (Int.toNat x1) y4.1) 1 0), (List.getD (List.set [x4, x5, x6, x7, x8, x9, x10, x11, x12, x13, x14, x15, x16, x17, x18, x19] (Int.toNat x1) y4.1) 2 0), (List.getD (List.set [x4, x5, x6, x7, x8, x9, x10, x11, x12, x13, x14, x15, x16, x17, x18, x19] (Int.toNat x1) y4.1) 3 0), (List.getD (List.set [x4, x5, x6, x7, x8, x9, x10, x11, x12, x13, x14, x15, x16, x17, x18, x19] (Int.toNat x1) y4.1) 4 0), (List.getD (List.set [x4, x5, x6, x7, x8, x9, x10, x11, x12, x13, x14, x15, x16, x17, x18, x19] (Int.toNat x1) y4.1) 5 0), (List.getD (List.set [x4, x5, x6, x7, x8, x9, x10, x11, x12, x13, x14, x15, x16, x17, x18, x19] (Int.toNat x1) y4.1) 6 0), (List.getD (List.set [x4, x5, x6, x7, x8, x9, x10, x11, x12, x13, x14, x15, x16, x17, x18, x19] (Int.toNat x1) y4.1) 7 0), (List.getD (List.set [x4, x5, x6, x7, x8, x9, x10, x11, x12, x13, x14, x15, x16, x17, x18, x19] (Int.toNat x1) y4.1) 8 0), (List.getD (List.set [x4, x5, x6, x7, x8, x9, x10, x11, x12, x13, x14, x15, x16, x17, x18, x19] (Int.toNat x1) y4.1) 9 0), (List.getD (List.set [x4, x5, x6, x7, x8, x9, x10, x11, x12, x13, x14, x15, x16, x17, x18, x19] (Int.toNat x1) y4.1) 10 0), (List.getD (List.set [x4, x5, x6, x7, x8, x9, x10, x11, x12, x13, x14, x15, x16, x17, x18, x19] (Int.toNat x1) y4.1) 11 0), (List.getD (List.set [x4, x5, x6, x7, x8, x9, x10, x11, x12, x13, x14, x15, x16, x17, x18, x19] (Int.toNat x1) y4.1) 12 0), (List.getD (List.set [x4, x5, x6, x7, x8, x9, x10, x11, x12, x13, x14, x15, x16, x17, x18, x19] (Int.toNat x1) y4.1) 13 0), (List.getD (List.set [x4, x5, x6, x7, x8, x9, x10, x11, x12, x13, x14, x15, x16, x17, x18, x19] (Int.toNat x1) y4.1) 14 0), (List.getD (List.set [x4, x5, x6, x7, x8, x9, x10, x11, x12, x13, x14, x15, x16, x17, x18, x19] (Int.toNat x1) y4.1) 15 0)] (Int.toNat x1) (-1)) 2 0) (List.getD (List.set [(List.getD (List.set [x4, x5, x6, x7, x8, x9, x10, x11, x12, x13, x14, x15, x16, x17, x18, x19] (Int.toNat x1) y4.1) 0 0), (List.getD (List.set [x4, x5, x6, x7, x8, x9, x10, x11, x12, x13, x14, x15, x16, x17, x18, x19] (Int.toNat x1) y4.1) 1 0), (List.getD (List.set [x4, x5, x6, x7, x8, x9, x10, x11, x12, x13, x14, x15, x16, x17, x18, x19] (Int.toNat x1) y4.1) 2 0), (List.getD (List.set [x4, x5, x6, x7, x8, x9, x10, x11, x12, x13, x14, x15, x16, x17, x18, x19] (Int.toNat x1) y4.1) 3 0), (List.getD (List.set [x4, x5, x6, x7, x8, x9, x10, x11, x12, x13, x14, x15, x16, x17, x18, x19] (Int.toNat x1) y4.1) 4 0), (List.getD (List.set [x4, x5, x6, x7, x8, x9, x10, x11, x12, x13, x14, x15, x16, x17, x18, x19] (Int.toNat x1) y4.1) 5 0), (List.getD (List.set [x4, x5, x6, x7, x8, x9, x10, x11, x12, x13, x14, x15, x16, x17, x18, x19] (Int.toNat x1) y4.1) 6 0), (List.getD (List.set [x4, x5, x6, x7, x8, x9, x10, x11, x12, x13, x14, x15, x16, x17, x18, x19] (Int.toNat x1) y4.1) 7 0), (List.getD (List.set [x4, x5, x6, x7, x8, x9, x10, x11, x12, x13, x14, x15, x16, x17, x18, x19] (Int.toNat x1) y4.1) 8 0), (List.getD (List.set [x4, x5, x6, x7, x8, x9, x10, x11, x12, x13, x14, x15, x16, x17, x18, x19] (Int.toNat x1) y4.1) 9 0), (List.getD (List.set [x4, x5, x6, x7, x8, x9, x10, x11, x12, x13, x14, x15, x16, x17, x18, x19] (Int.toNat x1) y4.1) 10 0), (List.getD (List.set [x4, x5, x6, x7, x8, x9, x10, x11, x12, x13, x14, x15, x16, x17, x18, x19] (Int.toNat x1) y4.1) 11 0), (List.getD (List.set [x4, x5, x6, x7, x8, x9, x10, x11, x12, x13, x14, x15, x16, x17, x18, x19] (Int.toNat x1) y4.1) 12 0), (List.getD (List.set [x4, x5, x6, x7, x8, x9, x10, x11, x12, x13, x14, x15, x16, x17, x18, x19] (Int.toNat x1) y4.1) 13 0), (List.getD (List.set [x4, x5, x6, x7, x8, x9, x10, x11, x12, x13, x14, x15, x16, x17, x18, x19] (Int.toNat x1) y4.1) 14 0), (List.getD (List.set [x4, x5, x6, x7, x8, x9, x10, x11, x12, x13, x14, x15, x16, x17, x18, x19] (Int.toNat x1) y4.1) 15 0)] (Int.toNat x1) (-1)) 3 0) (List.getD (List.set [(List.getD (List.set [x4, x5, x6, x7, x8, x9, x10, x11, x12, x13, x14, x15, x16, x17, x18, x19] (Int.toNat x1) y4.1) 0 0), (List.getD (List.set [x4, x5, x6, x7, x8, x9, x10, x11, x12, x13, x14, x15, x16, x17, x18, x19] (Int.toNat x1) y4.1) 1 0), (List.getD (List.set [x4, x5, x6, x7, x8, x9, x10, x11, x12, x13, x14, x15, x16, x17, x18, x19] (Int.toNat x1) y4.1) 2 0), (List.getD (List.set [x4, x5, x6, x7, x8, x9, x10, x11, x12, x13, x14, x15, x16, x17, x18, x19] (Int.toNat x1) y4.1) 3 0), (List.getD (List.set [x4, x5, x6, x7, x8, x9, x10, x11, x12, x13, x14, x15, x16, x17, x18, x19] (Int.toNat x1) y4.1) 4 0), (List.getD (List.set [x4, x5, x6, x7, x8, x9, x10, x11, x12, x13, x14, x15, x16, x17, x18, x19] (Int.toNat x1) y4.1) 5 0), (List.getD (List.set [x4, x5, x6, x7, x8, x9, x10, x11, x12, x13, x14, x15, x16, x17, x18, x19] (Int.toNat x1) y4.1) 6 0), (List.getD (List.set [x4, x5, x6, x7, x8, x9, x10, x11, x12, x13, x14, x15, x16, x17, x18, x19] (Int.toNat x1) y4.1) 7 0), (List.getD (List.set [x4, x5, x6, x7, x8, x9, x10, x11, x12, x13, x14, x15, x16, x17, x18, x19] (Int.toNat x1) y4.1) 8 0), (List.getD (List.set [x4, x5, x6, x7, x8, x9, x10, x11, x12, x13, x14, x15, x16, x17, x18, x19] (Int.toNat x1) y4.1) 9 0), (List.getD (List.set [x4, x5, x6, x7, x8, x9, x10, x11, x12, x13, x14, x15, x16, x17, x18, x19] (Int.toNat x1) y4.1) 10 0), (List.getD (List.set [x4, x5, x6, x7, x8, x9, x10, x11, x12, x13, x14, x15, x16, x17, x18, x19] (Int.toNat x1) y4.1) 11 0), (List.getD (List.set [x4, x5, x6, x7, x8, x9, x10, x11, x12, x13, x14, x15, x16, x17, x18, x19] (Int.toNat x1) y4.1) 12 0), (List.getD (List.set [x4, x5, x6, x7, x8, x9, x10, x11, x12, x13, x14, x15, x16, x17, x18, x19] (Int.toNat x1) y4.1) 13 0), (List.getD (List.set [x4, x5, x6, x7, x8, x9, x10, x11, x12, x13, x14, x15, x16, x17, x18, x19] (Int.toNat x1) y4.1) 14 0), (List.getD (List.set [x4, x5, x6, x7, x8, x9, x10, x11, x12, x13, x14, x15, x16, x17, x18, x19] (Int.toNat x1) y4.1) 15 0)] (Int.toNat x1) (-1)) 4 0) (List.getD (List.set [(List.getD (List.set [x4, x5, x6, x7, x8, x9, x10, x11, x12, x13, x14, x15, x16, x17, x18, x19] (Int.toNat x1) y4.1) 0 0), (List.getD (List.set [x4, x5, x6, x7, x8, x9, x10, x11, x12, x13, x14, x15, x16, x17, x18, x19] (Int.toNat x1) y4.1) 1 0), (List.getD (List.set [x4, x5, x6, x7, x8, x9, x10, x11, x12, x13, x14, x15, x16, x17, x18, x19] (Int.toNat x1) y4.1) 2 0), (List.getD (List.set [x4, x5, x6, x7, x8, x9, x10, x11, x12, x13, x14, x15, x16, x17, x18, x19] (Int.toNat x1) y4.1) 3 0), (List.getD (List.set [x4, x5, x6, x7, x8, x9, x10, x11, x12, x13, x14, x15, x16, x17, x18, x19] (Int.toNat x1) y4.1) 4 0), (List.getD (List.set [x4, x5, x6, x7, x8, x9, x10, x11, x12, x13, x14, x15, x16, x17, x18, x19] (Int.toNat x1) y4.1) 5 0), (List.getD (List.set [x4, x5, x6, x7, x8, x9, x10, x11, x12, x13, x14, x15, x16, x17, x18, x19] (Int.toNat x1) y4.1) 6 0), (List.getD (List.set [x4, x5, x6, x7, x8, x9, x10, x11, x12, x13, x14, x15, x16, x17, x18, x19] (Int.toNat x1) y4.1) 7 0), (List.getD (List.set [x4, x5, x6, x7, x8, x9, x10, x11, x12, x13, x14, x15, x16, x17, x18, x19] (Int.toNat x1) y4.1) 8 0), (List.getD (List.set [x4, x5, x6, x7, x8, x9, x10, x11, x12, x13, x14, x15, x16, x17, x18, x19] (Int.toNat x1) y4.1) 9 0), (List.getD (List.set [x4, x5, x6, x7, x8, x9, x10, x11, x12, x13, x14, x15, x16, x17, x18, x19] (Int.toNat x1) y4.1) 10 0), (List.getD (List.set [x4, x5, x6, x7, x8, x9, x10, x11, x12, x13, x14, x15, x16, x17, x18, x19] (Int.toNat x1) y4.1) 11 0), (List.getD (List.set [x4, x5, x6, x7, x8, x9, x10, x11, x12, x13, x14, x15, x16, x17, x18, x19] (Int.toNat x1) y4.1) 12 0), (List.getD (List.set [x4, x5, x6, x7, x8, x9, x10, x11, x12, x13, x14, x15, x16, x17, x18, x19] (Int.toNat x1) y4.1) 13 0), (List.getD (List.set [x4, x5, x6, x7, x8, x9, x10, x11, x12, x13, x14, x15, x16, x17, x18, x19] (Int.toNat x1) y4.1) 14 0), (List.getD (List.set [x4, x5, x6, x7, x8, x9, x10, x11, x12, x13, x14, x15, x16, x17, x18, x19] (Int.toNat x1) y4.1) 15 0)] (Int.toNat x1) (-1)) 5 0) (List.getD (List.set [(List.getD (List.set [x4, x5, x6, x7, x8, x9, x10, x11, x12, x13, x14, x15, x16, x17, x18, x19] (Int.toNat x1) y4.1) 0 0), (List.getD (List.set [x4, x5, x6, x7, x8, x9, x10, x11, x12, x13, x14, x15, x16, x17, x18, x19] (Int.toNat x1) y4.1) 1 0), (List.getD (List.set [x4, x5, x6, x7, x8, x9, x10, x11, x12, x13, x14, x15, x16, x17, x18, x19] (Int.toNat x1) y4.1) 2 0), (List.getD (List.set [x4, x5, x6, x7, x8, x9, x10, x11, x12, x13, x14, x15, x16, x17, x18, x19] (Int.toNat x1) y4.1) 3 0), (List.getD (List.set [x4, x5, x6, x7, x8, x9, x10, x11, x12, x13, x14, x15, x16, x17, x18, x19] (Int.toNat x1) y4.1) 4 0), (List.getD (List.set [x4, x5, x6, x7, x8, x9, x10, x11, x12, x13, x14, x15, x16, x17, x18, x19] (Int.toNat x1) y4.1) 5 0), (List.getD (List.set [x4, x5, x6, x7, x8, x9, x10, x11, x12, x13, x14, x15, x16, x17, x18, x19] (Int.toNat x1) y4.1) 6 0), (List.getD (List.set [x4, x5, x6, x7, x8, x9, x10, x11, x12, x13, x14, x15, x16, x17, x18, x19] (Int.toNat x1) y4.1) 7 0), (List.getD (List.set [x4, x5, x6, x7, x8, x9, x10, x11, x12, x13, x14, x15, x16, x17, x18, x19] (Int.toNat x1) y4.1) 8 0), (List.getD (List.set [x4, x5, x6, x7, x8, x9, x10, x11, x12, x13, x14, x15, x16, x17, x18, x19] (Int.toNat x1) y4.1) 9 0), (List.getD (List.set [x4, x5, x6, x7, x8, x9, x10, x11, x12, x13, x14, x15, x16, x17, x18, x19] (Int.toNat x1) y4.1) 10 0), (List.getD (List.set [x4, x5, x6, x7, x8, x9, x10, x11, x12, x13, x14, x15, x16, x17, x18, x19] (Int.toNat x1) y4.1) 11 0), (List.getD (List.set [x4, x5, x6, x7, x8, x9, x10, x11, x12, x13, x14, x15, x16, x17, x18, x19] (Int.toNat x1) y4.1) 12 0), (List.getD (List.set [x4, x5, x6, x7, x8, x9, x10, x11, x12, x13, x14, x15, x16, x17, x18, x19] (Int.toNat x1) y4.1) 13 0), (List.getD (List.set [x4, x5, x6, x7, x8, x9, x10, x11, x12, x13, x14, x15, x16, x17, x18, x19] (Int.toNat x1) y4.1) 14 0), (List.getD (List.set [x4, x5, x6, x7, x8, x9, x10, x11, x12, x13, x14, x15, x16, x17, x18, x19] (Int.toNat x1) y4.1) 15 0)] (Int.toNat x1) (-1)) 6 0) (List.getD (List.set [(List.getD (List.set [x4, x5, x6, x7, x8, x9, x10, x11, x12, x13, x14, x15, x16, x17, x18, x19] (Int.toNat x1) y4.1) 0 0), (List.getD (List.set [x4, x5, x6, x7, x8, x9, x10, x11, x12, x13, x14, x15, x16, x17, x18, x19] (Int.toNat x1) y4.1) 1 0), (List.getD (List.set [x4, x5, x6, x7, x8, x9, x10, x11, x12, x13, x14, x15, x16, x17, x18, x19] (Int.toNat x1) y4.1) 2 0), (List.getD (List.set [x4, x5, x6, x7, x8, x9, x10, x11, x12, x13, x14, x15, x16, x17, x18, x19] (Int.toNat x1) y4.1) 3 0), (List.getD (List.set [x4, x5, x6, x7, x8, x9, x10, x11, x12, x13, x14, x15, x16, x17, x18, x19] (Int.toNat x1) y4.1) 4 0), (List.getD (List.set [x4, x5, x6, x7, x8, x9, x10, x11, x12, x13, x14, x15, x16, x17, x18, x19] (Int.toNat x1) y4.1) 5 0), (List.getD (List.set [x4, x5, x6, x7, x8, x9, x10, x11, x12, x13, x14, x15, x16, x17, x18, x19] (Int.toNat x1) y4.1) 6 0), (List.getD (List.set [x4, x5, x6, x7, x8, x9, x10, x11, x12, x13, x14, x15, x16, x17, x18, x19] (Int.toNat x1) y4.1) 7 0), (List.getD (List.set [x4, x5, x6, x7, x8, x9, x10, x11, x12, x13, x14, x15, x16, x17, x18, x19] (Int.toNat x1) y4.1) 8 0), (List.getD (List.set [x4, x5, x6, x7, x8, x9, x10, x11, x12, x13, x14, x15, x16, x17, x18, x19] (Int.toNat x1) y4.1) 9 0), (List.getD (List.set [x4, x5, x6, x7, x8, x9, x10, x11, x12, x13, x14, x15, x16, x17, x18, x19] (Int.toNat x1) y4.1) 10 0), (List.getD (List.set [x4, x5, x6, x7, x8, x9, x10, x11, x12, x13, x14, x15, x16, x17, x18, x19] (Int.toNat x1) y4.1) 11 0), (List.getD (List.set [x4, x5, x6, x7, x8, x9, x10, x11, x12, x13, x14, x15, x16, x17, x18, x19] (Int.toNat x1) y4.1) 12 0), (List.getD (List.set [x4, x5, x6, x7, x8, x9, x10, x11, x12, x13, x14, x15, x16, x17, x18, x19] (Int.toNat x1) y4.1) 13 0), (List.getD (List.set [x4, x5, x6, x7, x8, x9, x10, x11, x12, x13, x14, x15, x16, x17, x18, x19] (Int.toNat x1) y4.1) 14 0), (List.getD (List.set [x4, x5, x6, x7, x8, x9, x10, x11, x12, x13, x14, x15, x16, x17, x18, x19] (Int.toNat x1) y4.1) 15 0)] (Int.toNat x1) (-1)) 7 0) (List.getD (List.set [(List.getD (List.set [x4, x5, x6, x7, x8, x9, x10, x11, x12, x13, x14, x15, x16, x17, x18, x19] (Int.toNat x1) y4.1) 0 0), (List.getD (List.set [x4, x5, x6, x7, x8, x9, x10, x11, x12, x13, x14, x15, x16, x17, x18, x19] (Int.toNat x1) y4.1) 1 0), (List.getD (List.set [x4, x5, x6, x7, x8, x9, x10, x11, x12, x13, x14, x15, x16, x17, x18, x19] (Int.toNat x1) y4.1) 2 0), (List.getD (List.set [x4, x5, x6, x7, x8, x9, x10, x11, x12, x13, x14, x15, x16, x17, x18, x19] (Int.toNat x1) y4.1) 3 0), (List.getD (List.set [x4, x5, x6, x7, x8, x9, x10, x11, x12, x13, x14, x15, x16, x17, x18, x19] (Int.toNat x1) y4.1) 4 0), (List.getD (List.set [x4, x5, x6, x7, x8, x9, x10, x11, x12, x13, x14, x15, x16, x17, x18, x19] (Int.toNat x1) y4.1) 5 0), (List.getD (List.set [x4, x5, x6, x7, x8, x9, x10, x11, x12, x13, x14, x15, x16, x17, x18, x19] (Int.toNat x1) y4.1) 6 0), (List.getD (List.set [x4, x5, x6, x7, x8, x9, x10, x11, x12, x13, x14, x15, x16, x17, x18, x19] (Int.toNat x1) y4.1) 7 0), (List.getD (List.set [x4, x5, x6, x7, x8, x9, x10, x11, x12, x13, x14, x15, x16, x17, x18, x19] (Int.toNat x1) y4.1) 8 0), (List.getD (List.set [x4, x5, x6, x7, x8, x9, x10, x11, x12, x13, x14, x15, x16, x17, x18, x19] (Int.toNat x1) y4.1) 9 0), (List.getD (List.set [x4, x5, x6, x7, x8, x9, x10, x11, x12, x13, x14, x15, x16, x17, x18, x19] (Int.toNat x1) y4.1) 10 0), (List.getD (List.set [x4, x5, x6, x7, x8, x9, x10, x11, x12, x13, x14, x15, x16, x17, x18, x19] (Int.toNat x1) y4.1) 11 0), (List.getD (List.set [x4, x5, x6, x7, x8, x9, x10, x11, x12, x13, x14, x15, x16, x17, x18, x19] (Int.toNat x1) y4.1) 12 0), (List.getD (List.set [x4, x5, x6, x7, x8, x9, x10, x11, x12, x13, x14, x15, x16, x17, x18, x19] (Int.toNat x1) y4.1) 13 0), (List.getD (List.set [x4, x5, x6, x7, x8, x9, x10, x11, x12, x13, x14, x15, x16, x17, x18, x19] (Int.toNat x1) y4.1) 14 0), (List.getD (List.set [x4, x5, x6, x7, x8, x9, x10, x11, x12, x13, x14, x15, x16, x17, x18, x19] (Int.toNat x1) y4.1) 15 0)] (Int.toNat x1) (-1)) 8 0) (List.getD (List.set [(List.getD (List.set [x4, x5, x6, x7, x8, x9, x10, x11, x12, x13, x14, x15, x16, x17, x18, x19] (Int.toNat x1) y4.1) 0 0), (List.getD (List.set [x4, x5, x6, x7, x8, x9, x10, x11, x12, x13, x14, x15, x16, x17, x18, x19] (Int.toNat x1) y4.1) 1 0), (List.getD (List.set [x4, x5, x6, x7, x8, x9, x10, x11, x12, x13, x14, x15, x16, x17, x18, x19] (Int.toNat x1) y4.1) 2 0), (List.getD (List.set [x4, x5, x6, x7, x8, x9, x10, x11, x12, x13, x14, x15, x16, x17, x18, x19] (Int.toNat x1) y4.1) 3 0), (List.getD (List.set [x4, x5, x6, x7, x8, x9, x10, x11, x12, x13, x14, x15, x16, x17, x18, x19] (Int.toNat x1) y4.1) 4 0), (List.getD (List.set [x4, x5, x6, x7, x8, x9, x10, x11, x12, x13, x14, x15, x16, x17, x18, x19] (Int.toNat x1) y4.1) 5 0), (List.getD (List.set [x4, x5, x6, x7, x8, x9, x10, x11, x12, x13, x14, x15, x16, x17, x18, x19] (Int.toNat x1) y4.1) 6 0), (List.getD (List.set [x4, x5, x6, x7, x8, x9, x10, x11, x12, x13, x14, x15, x16, x17, x18, x19] (Int.toNat x1) y4.1) 7 0), (List.getD (List.set [x4, x5, x6, x7, x8, x9, x10, x11, x12, x13, x14, x15, x16, x17, x18, x19] (Int.toNat x1) y4.1) 8 0), (List.getD (List.set [x4, x5, x6, x7, x8, x9, x10, x11, x12, x13, x14, x15, x16, x17, x18, x19] (Int.toNat x1) y4.1) 9 0), (List.getD (List.set [x4, x5, x6, x7, x8, x9, x10, x11, x12, x13, x14, x15, x16, x17, x18, x19] (Int.toNat x1) y4.1) 10 0), (List.getD (List.set [x4, x5, x6, x7, x8, x9, x10, x11, x12, x13, x14, x15, x16, x17, x18, x19] (Int.toNat x1) y4.1) 11 0), (List.getD (List.set [x4, x5, x6, x7, x8, x9, x10, x11, x12, x13, x14, x15, x16, x17, x18, x19] (Int.toNat x1) y4.1) 12 0), (List.getD (List.set [x4, x5, x6, x7, x8, x9, x10, x11, x12, x13, x14, x15, x16, x17, x18, x19] (Int.toNat x1) y4.1) 13 0), (List.getD (List.set [x4, x5, x6, x7, x8, x9, x10, x11, x12, x13, x14, x15, x16, x17, x18, x19] (Int.toNat x1) y4.1) 14 0), (List.getD (List.set [x4, x5, x6, x7, x8, x9, x10, x11, x12, x13, x14, x15, x16, x17, x18, x19] (Int.toNat x1) y4.1) 15 0)] (Int.toNat x1) (-1)) 9 0) (List.getD (List.set [(List.getD (List.set [x4, x5, x6, x7, x8, x9, x10, x11, x12, x13, x14, x15, x16, x17, x18, x19] (Int.toNat x1) y4.1) 0 0), (List.getD (List.set [x4, x5, x6, x7, x8, x9, x10, x11, x12, x13, x14, x15, x16, x17, x18, x19] (Int.toNat x1) y4.1) 1 0), (List.getD (List.set [x4, x5, x6, x7, x8, x9, x10, x11, x12, x13, x14, x15, x16, x17, x18, x19] (Int.toNat x1) y4.1) 2 0), (List.getD (List.set [x4, x5, x6, x7, x8, x9, x10, x11, x12, x13, x14, x15, x16, x17, x18, x19] (Int.toNat x1) y4.1) 3 0), (List.getD (List.set [x4, x5, x6, x7, x8, x9, x10, x11, x12, x13, x14, x15, x16, x17, x18, x19] (Int.toNat x1) y4.1) 4 0), (List.getD (List.set [x4, x5, x6, x7, x8, x9, x10, x11, x12, x13, x14, x15, x16, x17, x18, x19] (Int.toNat x1) y4.1) 5 0), (List.getD (List.set [x4, x5, x6, x7, x8, x9, x10, x11, x12, x13, x14, x15, x16, x17, x18, x19] (Int.toNat x1) y4.1) 6 0), (List.getD (List.set [x4, x5, x6, x7, x8, x9, x10, x11, x12, x13, x14, x15, x16, x17, x18, x19] (Int.toNat x1) y4.1) 7 0), (List.getD (List.set [x4, x5, x6, x7, x8, x9, x10, x11, x12, x13, x14, x15, x16, x17, x18, x19] (Int.toNat x1) y4.1) 8 0), (List.getD (List.set [x4, x5, x6, x7, x8, x9, x10, x11, x12, x13, x14, x15, x16, x17, x18, x19] (Int.toNat x1) y4.1) 9 0), (List.getD (List.set [x4, x5, x6, x7, x8, x9, x10, x11, x12, x13, x14, x15, x16, x17, x18, x19] (Int.toNat x1) y4.1) 10 0), (List.getD (List.set [x4, x5, x6, x7, x8, x9, x10, x11, x12, x13, x14, x15, x16, x17, x18, x19] (Int.toNat x1) y4.1) 11 0), (List.getD (List.set [x4, x5, x6, x7, x8, x9, x10, x11, x12, x13, x14, x15, x16, x17, x18, x19] (Int.toNat x1) y4.1) 12 0), (List.getD (List.set [x4, x5, x6, x7, x8, x9, x10, x11, x12, x13, x14, x15, x16, x17, x18, x19] (Int.toNat x1) y4.1) 13 0), (List.getD (List.set [x4, x5, x6, x7, x8, x9, x10, x11, x12, x13, x14, x15, x16, x17, x18, x19] (Int.toNat x1) y4.1) 14 0), (List.getD (List.set [x4, x5, x6, x7, x8, x9, x10, x11, x12, x13, x14, x15, x16, x17, x18, x19] (Int.toNat x1) y4.1) 15 0)] (Int.toNat x1) (-1)) 10 0) (List.getD (List.set [(List.getD (List.set [x4, x5, x6, x7, x8, x9, x10, x11, x12, x13, x14, x15, x16, x17, x18, x19] (Int.toNat x1) y4.1) 0 0), (List.getD (List.set [x4, x5, x6, x7, x8, x9, x10, x11, x12, x13, x14, x15, x16, x17, x18, x19] (Int.toNat x1) y4.1) 1 0), (List.getD (List.set [x4, x5, x6, x7, x8, x9, x10, x11, x12, x13, x14, x15, x16, x17, x18, x19] (Int.toNat x1) y4.1) 2 0), (List.getD (List.set [x4, x5, x6, x7, x8, x9, x10, x11, x12, x13, x14, x15, x16, x17, x18, x19] (Int.toNat x1) y4.1) 3 0), (List.getD (List.set [x4, x5, x6, x7, x8, x9, x10, x11, x12, x13, x14, x15, x16, x17, x18, x19] (Int.toNat x1) y4.1) 4 0), (List.getD (List.set [x4, x5, x6, x7, x8, x9, x10, x11, x12, x13, x14, x15, x16, x17, x18, x19] (Int.toNat x1) y4.1) 5 0), (List.getD (List.set [x4, x5, x6, x7, x8, x9, x10, x11, x12, x13, x14, x15, x16, x17, x18, x19] (Int.toNat x1) y4.1) 6 0), (List.getD (List.set [x4, x5, x6, x7, x8, x9, x10, x11, x12, x13, x14, x15, x16, x17, x18, x19] (Int.toNat x1) y4.1) 7 0), (List.getD (List.set [x4, x5, x6, x7, x8, x9, x10, x11, x12, x13, x14, x15, x16, x17, x18, x19] (Int.toNat x1) y4.1) 8 0), (List.getD (List.set [x4, x5, x6, x7, x8, x9, x10, x11, x12, x13, x14, x15, x16, x17, x18, x19] (Int.toNat x1) y4.1) 9 0), (List.getD (List.set [x4, x5, x6, x7, x8, x9, x10, x11, x12, x13, x14, x15, x16, x17, x18, x19] (Int.toNat x1) y4.1) 10 0), (List.getD (List.set [x4, x5, x6, x7, x8, x9, x10, x11, x12, x13, x14, x15, x16, x17, x18, x19] (Int.toNat x1) y4.1) 11 0), (List.getD (List.set [x4, x5, x6, x7, x8, x9, x10, x11, x12, x13, x14, x15, x16, x17, x18, x19] (Int.toNat x1) y4.1) 12 0), (List.getD (List.set [x4, x5, x6, x7, x8, x9, x10, x11, x12, x13, x14, x15, x16, x17, x18, x19] (Int.toNat x1) y4.1) 13 0), (List.getD (List.set [x4, x5, x6, x7, x8, x9, x10, x11, x12, x13, x14, x15, x16, x17, x18, x19] (Int.toNat x1) y4.1) 14 0), (List.getD (List.set [x4, x5, x6, x7, x8, x9, x10, x11, x12, x13, x14, x15, x16, x17, x18, x19] (Int.toNat x1) y4.1) 15 0)] (Int.toNat x1) (-1)) 11 0) (List.getD (List.set [(List.getD (List.set [x4, x5, x6, x7, x8, x9, x10, x11, x12, x13, x14, x15, x16, x17, x18, x19] (Int.toNat x1) y4.1) 0 0), (List.getD (List.set [x4, x5, x6, x7, x8, x9, x10, x11, x12, x13, x14, x15, x16, x17, x18, x19] (Int.toNat x1) y4.1) 1 0), (List.getD (List.set [x4, x5, x6, x7, x8, x9, x10, x11, x12, x13, x14, x15, x16, x17, x18, x19] (Int.toNat x1) y4.1) 2 0), (List.getD (List.set [x4, x5, x6, x7, x8, x9, x10, x11, x12, x13, x14, x15, x16, x17, x18, x19] (Int.toNat x1) y4.1) 3 0), (List.getD (List.set [x4, x5, x6, x7, x8, x9, x10, x11, x12, x13, x14, x15, x16, x17, x18, x19] (Int.toNat x1) y4.1) 4 0), (List.getD (List.set [x4, x5, x6, x7, x8, x9, x10, x11, x12, x13, x14, x15, x16, x17, x18, x19] (Int.toNat x1) y4.1) 5 0), (List.getD (List.set [x4, x5, x6, x7, x8, x9, x10, x11, x12, x13, x14, x15, x16, x17, x18, x19] (Int.toNat x1) y4.1) 6 0), (List.getD (List.set [x4, x5, x6, x7, x8, x9, x10, x11, x12, x13, x14, x15, x16, x17, x18, x19] (Int.toNat x1) y4.1) 7 0), (List.getD (List.set [x4, x5, x6, x7, x8, x9, x10, x11, x12, x13, x14, x15, x16, x17, x18, x19] (Int.toNat x1) y4.1) 8 0), (List.getD (List.set [x4, x5, x6, x7, x8, x9, x10, x11, x12, x13, x14, x15, x16, x17, x18, x19] (Int.toNat x1) y4.1) 9 0), (List.getD (List.set [x4, x5, x6, x7, x8, x9, x10, x11, x12, x13, x14, x15, x16, x17, x18, x19] (Int.toNat x1) y4.1) 10 0), (List.getD (List.set [x4, x5, x6, x7, x8, x9, x10, x11, x12, x13, x14, x15, x16, x17, x18, x19] (Int.toNat x1) y4.1) 11 0), (List.getD (List.set [x4, x5, x6, x7, x8, x9, x10, x11, x12, x13, x14, x15, x16, x17, x18, x19] (Int.toNat x1) y4.1) 12 0), (List.getD (List.set [x4, x5, x6, x7, x8, x9, x10, x11, x12, x13, x14, x15, x16, x17, x18, x19] (Int.toNat x1) y4.1) 13 0), (List.getD (List.set [x4, x5, x6, x7, x8, x9, x10, x11, x12, x13, x14, x15, x16, x17, x18, x19] (Int.toNat x1) y4.1) 14 0), (List.getD (List.set [x4, x5, x6, x7, x8, x9, x10, x11, x12, x13, x14, x15, x16, x17, x18, x19] (Int.toNat x1) y4.1) 15 0)] (Int.toNat x1) (-1)) 12 0) (List.getD (List.set [(List.getD (List.set [x4, x5, x6, x7, x8, x9, x10, x11, x12, x13, x14, x15, x16, x17, x18, x19] (Int.toNat x1) y4.1) 0 0), (List.getD (List.set [x4, x5, x6, x7, x8, x9, x10, x11, x12, x13, x14, x15, x16, x17, x18, x19] (Int.toNat x1) y4.1) 1 0), (List.getD (List.set [x4, x5, x6, x7, x8, x9, x10, x11, x12, x13, x14, x15, x16, x17, x18, x19] (Int.toNat x1) y4.1) 2 0), (List.getD (List.set [x4, x5, x6, x7, x8, x9, x10, x11, x12, x13, x14, x15, x16, x17, x18, x19] (Int.toNat x1) y4.1) 3 0), (List.getD (List.set [x4, x5, x6, x7, x8, x9, x10, x11, x12, x13, x14, x15, x16, x17, x18, x19] (Int.toNat x1) y4.1) 4 0), (List.getD (List.set [x4, x5, x6, x7, x8, x9, x10, x11, x12, x13, x14, x15, x16, x17, x18, x19] (Int.toNat x1) y4.1) 5 0), (List.getD (List.set [x4, x5, x6, x7, x8, x9, x10, x11, x12, x13, x14, x15, x16, x17, x18, x19] (Int.toNat x1) y4.1) 6 0), (List.getD (List.set [x4, x5, x6, x7, x8, x9, x10, x11, x12, x13, x14, x15, x16, x17, x18, x19] (Int.toNat x1) y4.1) 7 0), (List.getD (List.set [x4, x5, x6, x7, x8, x9, x10, x11, x12, x13, x14, x15, x16, x17, x18, x19] (Int.toNat x1) y4.1) 8 0), (List.getD (List.set [x4, x5, x6, x7, x8, x9, x10, x11, x12, x13, x14, x15, x16, x17, x18, x19] (Int.toNat x1) y4.1) 9 0), (List.getD (List.set [x4, x5, x6, x7, x8, x9, x10, x11, x12, x13, x14, x15, x16, x17, x18, x19] (Int.toNat x1) y4.1) 10 0), (List.getD (List.set [x4, x5, x6, x7, x8, x9, x10, x11, x12, x13, x14, x15, x16, x17, x18, x19] (Int.toNat x1) y4.1) 11 0), (List.getD (List.set [x4, x5, x6, x7, x8, x9, x10, x11, x12, x13, x14, x15, x16, x17, x18, x19] (Int.toNat x1) y4.1) 12 0), (List.getD (List.set [x4, x5, x6, x7, x8, x9, x10, x11, x12, x13, x14, x15, x16, x17, x18, x19] (Int.toNat x1) y4.1) 13 0), (List.getD (List.set [x4, x5, x6, x7, x8, x9, x10, x11, x12, x13, x14, x15, x16, x17, x18, x19] (Int.toNat x1) y4.1) 14 0), (List.getD (List.set [x4, x5, x6, x7, x8, x9, x10, x11, x12, x13, x14, x15, x16, x17, x18, x19] (Int.toNat x1) y4.1) 15 0)] (Int.toNat x1) (-1)) 13 0) (List.getD (List.set [(List.getD (List.set [x4, x5, x6, x7, x8, x9, x10, x11, x12, x13, x14, x15, x16, x17, x18, x19] (Int.toNat x1) y4.1) 0 0), (List.getD (List.set [x4, x5, x6, x7, x8, x9, x10, x11, x12, x13, x14, x15, x16, x17, x18, x19] (Int.toNat x1) y4.1) 1 0), (List.getD (List.set [x4, x5, x6, x7, x8, x9, x10, x11, x12, x13, x14, x15, x16, x17, x18, x19] (Int.toNat x1) y4.1) 2 0), (List.getD (List.set [x4, x5, x6, x7, x8, x9, x10, x11, x12, x13, x14, x15, x16, x17, x18, x19] (Int.toNat x1) y4.1) 3 0), (List.getD (List.set [x4, x5, x6, x7, x8, x9, x10, x11, x12, x13, x14, x15, x16, x17, x18, x19] (Int.toNat x1) y4.1) 4 0), (List.getD (List.set [x4, x5, x6, x7, x8, x9, x10, x11, x12, x13, x14, x15, x16, x17, x18, x19] (Int.toNat x1) y4.1) 5 0), (List.getD (List.set [x4, x5, x6, x7, x8, x9, x10, x11, x12, x13, x14, x15, x16, x17, x18, x19] (Int.toNat x1) y4.1) 6 0), (List.getD (List.set [x4, x5, x6, x7, x8, x9, x10, x11, x12, x13, x14, x15, x16, x17, x18, x19] (Int.toNat x1) y4.1) 7 0), (List.getD (List.set [x4, x5, x6, x7, x8, x9, x10, x11, x12, x13, x14, x15, x16, x17, x18, x19] (Int.toNat x1) y4.1) 8 0), (List.getD (List.set [x4, x5, x6, x7, x8, x9, x10, x11, x12, x13, x14, x15, x16, x17, x18, x19] (Int.toNat x1) y4.1) 9 0), (List.getD (List.set [x4, x5, x6, x7, x8, x9, x10, x11, x12, x13, x14, x15, x16, x17, x18, x19] (Int.toNat x1) y4.1) 10 0), (List.getD (List.set [x4, x5, x6, x7, x8, x9, x10, x11, x12, x13, x14, x15, x16, x17, x18, x19] (Int.toNat x1) y4.1) 11 0), (List.getD (List.set [x4, x5, x6, x7, x8, x9, x10, x11, x12, x13, x14, x15, x16, x17, x18, x19] (Int.toNat x1) y4.1) 12 0), (List.getD (List.set [x4, x5, x6, x7, x8, x9, x10, x11, x12, x13, x14, x15, x16, x17, x18, x19] (Int.toNat x1) y4.1) 13 0), (List.getD (List.set [x4, x5, x6, x7, x8, x9, x10, x11, x12, x13, x14, x15, x16, x17, x18, x19] (Int.toNat x1) y4.1) 14 0), (List.getD (List.set [x4, x5, x6, x7, x8, x9, x10, x11, x12, x13, x14, x15, x16, x17, x18, x19] (Int.toNat x1) y4.1) 15 0)] (Int.toNat x1) (-1)) 14 0) (List.getD (List.set [(List.getD (List.set [x4, x5, x6, x7, x8, x9, x10, x11, x12, x13, x14, x15, x16, x17, x18, x19] (Int.toNat x1) y4.1) 0 0), (List.getD (List.set [x4, x5, x6, x7, x8, x9, x10, x11, x12, x13, x14, x15, x16, x17, x18, x19] (Int.toNat x1) y4.1) 1 0), (List.getD (List.set [x4, x5, x6, x7, x8, x9, x10, x11, x12, x13, x14, x15, x16, x17, x18, x19] (Int.toNat x1) y4.1) 2 0), (List.getD (List.set [x4, x5, x6, x7, x8, x9, x10, x11, x12, x13, x14, x15, x16, x17, x18, x19] (Int.toNat x1) y4.1) 3 0), (List.getD (List.set [x4, x5, x6, x7, x8, x9, x10, x11, x12, x13, x14, x15, x16, x17, x18, x19] (Int.toNat x1) y4.1) 4 0), (List.getD (List.set [x4, x5, x6, x7, x8, x9, x10, x11, x12, x13, x14, x15, x16, x17, x18, x19] (Int.toNat x1) y4.1) 5 0), (List.getD (List.set [x4, x5, x6, x7, x8, x9, x10, x11, x12, x13, x14, x15, x16, x17, x18, x19] (Int.toNat x1) y4.1) 6 0), (List.getD (List.set [x4, x5, x6, x7, x8, x9, x10, x11, x12, x13, x14, x15, x16, x17, x18, x19] (Int.toNat x1) y4.1) 7 0), (List.getD (List.set [x4, x5, x6, x7, x8, x9, x10, x11, x12, x13, x14, x15, x16, x17, x18, x19] (Int.toNat x1) y4.1) 8 0), (List.getD (List.set [x4, x5, x6, x7, x8, x9, x10, x11, x12, x13, x14, x15, x16, x17, x18, x19] (Int.toNat x1) y4.1) 9 0), (List.getD (List.set [x4, x5, x6, x7, x8, x9, x10, x11, x12, x13, x14, x15, x16, x17, x18, x19] (Int.toNat x1) y4.1) 10 0), (List.getD (List.set [x4, x5, x6, x7, x8, x9, x10, x11, x12, x13, x14, x15, x16, x17, x18, x19] (Int.toNat x1) y4.1) 11 0), (List.getD (List.set [x4, x5, x6, x7, x8, x9, x10, x11, x12, x13, x14, x15, x16, x17, x18, x19] (Int.toNat x1) y4.1) 12 0), (List.getD (List.set [x4, x5, x6, x7, x8, x9, x10, x11, x12, x13, x14, x15, x16, x17, x18, x19] (Int.toNat x1) y4.1) 13 0), (List.getD (List.set [x4, x5, x6, x7, x8, x9, x10, x11, x12, x13, x14, x15, x16, x17, x18, x19] (Int.toNat x1) y4.1) 14 0), (List.getD (List.set [x4, x5, x6, x7, x8, x9, x10, x11, x12, x13, x14, x15, x16, x17, x18, x19] (Int.toNat x1) y4.1) 15 0)] (Int.toNat x1) (-1)) 15 0) x20 x21 x22 x23 x24 x25 x26 x27 x28 x29 x30 x31 x32 x33 x34 x35 x36 x37 x38 x39)
         else (none))
        else (none))
       else (F20_c1 n x0 (iadd .i64 x1 (1)) x2 x3 (List.getD (List.set [x4, x5, x6, x7, x8, x9, x10, x11, x12, x13, x14, x15, x16, x17, x18, x19] (Int.toNat x1) y4.1) 0 0) (List.getD (List.set [x4, x5, x6, x7, x8, x9, x10, x11, x12, x13, x14, x15, x16, x17, x18, x19] (Int.toNat x1) y4.1) 1 0) (List.getD (List.set [x4, x5, x6, x7, x8, x9, x10, x11, x12, x13, x14, x15, x16, x17, x18, x19] (Int.toNat x1) y4.1) 2 0) (List.getD (List.set [x4, x5, x6, x7, x8, x9, x10, x11, x12, x13, x14, x15, x16, x17, x18, x19] (Int.toNat x1) y4.1) 3 0) (List.getD (List.set [x4, x5, x6, x7, x8, x9, x10, x11, x12, x13, x14, x15, x16, x17, x18, x19] (Int.toNat x1) y4.1) 4 0) (List.getD (List.set [x4, x5, x6, x7, x8, x9, x10, x11, x12, x13, x14, x15, x16, x17, x18, x19] (Int.toNat x1) y4.1) 5 0) (List.getD (List.set [x4, x5, x6, x7, x8, x9, x10, x11, x12, x13, x14, x15, x16, x17, x18, x19] (Int.toNat x1) y4.1) 6 0) (List.getD (List.set [x4, x5, x6, x7, x8, x9, x10, x11, x12, x13, x14, x15, x16, x17, x18, x19] (Int.toNat x1) y4.1) 7 0) (List.getD (List.set [x4, x5, x6, x7, x8, x9, x10, x11, x12, x13, x14, x15, x16, x17, x18, x19] (Int.toNat x1) y4.1) 8 0) (List.getD (List.set [x4, x5, x6, x7, x8, x9, x10, x11, x12, x13, x14, x15, x16, x17, x18, x19] (Int.toNat x1) y4.1) 9 0) (List.getD (List.set [x4, x5, x6, x7, x8, x9, x10, x11, x12, x13, x14, x15, x16, x17, x18, x19] (Int.toNat x1) y4.1) 10 0) (List.getD (List.set [x4, x5, x6, x7, x8, x9, x10, x11, x12, x13, x14, x15, x16, x17, x18, x19] (Int.toNat x1) y4.1) 11 0) (List.getD (List.set [x4, x5, x6, x7, x8, x9, x10, x11, x12, x13, x14, x15, x16, x17, x18, x19] (Int.toNat x1) y4.1) 12 0) (List.getD (List.set [x4, x5, x6, x7, x8, x9, x10, x11, x12, x13, x14, x15, x16, x17, x18, x19] (Int.toNat x1) y4.1) 13 0) (List.getD (List.set [x4, x5, x6, x7, x8, x9, x10, x11, x12, x13, x14, x15, x16, x17, x18, x19] (Int.toNat x1) y4.1) 14 0) (List.getD (List.set [x4, x5, x6, x7, x8, x9, x10, x11, x12, x13, x14, x15, x16, x17, x18, x19] (Int.toNat x1) y4.1) 15 0) x20 x21 x22 x23 x24 x25 x26 x27 x28 x29 x30 x31 x32 x33 x34 x35 x36 x37 x38 x39))
      else (none))
     else (none))
    else (some ⟨x2, x3, x4, x5, x6, x7, x8, x9, x10, x11, x12, x13, x14, x15, x16, x17, x18, x19, (0), x38, x39⟩)
end
def F20 (n : Nat) (a0 : Int) (a1 : List (Int)) (a2 : List (Int)) (a3 : Int) (a4 : Int) (a5 : Int) (a6 : Int) (a7 : Int) (a8 : Int) (a9 : Int) (a10 : Int) (a11 : Int) (a12 : Int) (a13 : Int) (a14 : Int) (a15 : Int) (a16 : Int) (a17 : Int) (a18 : Int) (a19 : Int) (a20 : List (Int)) : Option (Si19l2) :=
  Option.bind (F37 FUEL a0 a1 a2 a3 a4 a5 a6 a7 a8 a9 a10 a11 a12 a13 a14 a15 a16 a17 a18 a19) fun y1 =>
  Option.bind (F21 FUEL y1.q0 y1.q18 y1.q19 y1.q1 y1.q2 y1.q3 y1.q4 y1.q5 y1.q6 y1.q7 y1.q8 y1.q9 y1.q10 y1.q11 y1.q12 y1.q13 y1.q14 y1.q15 y1.q16 y1.q17) fun y2 =>
  bif y2 then
  (F20_c0 n a20 (igt (ofN (List.length a20)) (0)) (0) y1.q0 y1.q1 y1.q2 y1.q3 y1.q4 y1.q5 y1.q6 y1.q7 y1.q8 y1.q9 y1.q10 y1.q11 y1.q12 y1.q13 y1.q14 y1.q15 y1.q16 y1.q17 (0) (0) (0) (0) (0) (0) (0) (0) (0) (0) (0) (0) (0) (0) (0) (0) (0) (0) y1.q18 y1.q19)
  else (F20_c0 n a20 false (0) y1.q0 y1.q1 y1.q2 y1.q3 y1.q4 y1.q5 y1.q6 y1.q7 y1.q8 y1.q9 y1.q10 y1.q11 y1.q12 y1.q13 y1.q14 y1.q15 y1.q16 y1.q17 (0) (0) (0) (0) (0) (0) (0) (0) (0) (0) (0) (0) (0) (0) (0) (0) (0) (0) y1.q18 y1.q19)

/-! ### garland/garlandlaw17.FingerTells -/
def F3 (_n : Nat) (a0 : Int) (a1 : List (Int)) (a2 : List (Int)) (a3 : Int) (a4 : Int) (a5 : Int) (a6 : Int) (a7 : Int) (a8 : Int) (a9 : Int) (a10 : Int) (a11 : Int) (a12 : Int) (a13 : Int) (a14 : Int) (a15 : Int) (a16 : Int) (a17 : Int) (a18 : Int) (a19 : Int) (a20 : Int) (a21 : Int) (a22 : List (Int)) : Option (Bool) :=
  Option.bind (F8 FUEL a0 a1 a2 a3 a4 a5 a6 a7 a8 a9 a10 a11 a12 a13 a14 a15 a16 a17 a18 a19) fun y1 =>
  bif y1 then
  (Option.bind (F9 FUEL) fun y2 =>
   some y2)
  else (bif (igt (ofN (List.length a22)) (60)) then
   (Option.bind (F9 FUEL) fun y3 =>
    some y3)
   else (Option.bind (F10 FUEL a0 a1 a2 a3 a4 a5 a6 a7 a8 a9 a10 a11 a12 a13 a14 a15 a16 a17 a18 a19 a20) fun y4 =>
    Option.bind (F11 FUEL a0 a1 a2 a3 a4 a5 a6 a7 a8 a9 a10 a11 a12 a13 a14 a15 a16 a17 a18 a19 a20) fun y5 =>
    Option.bind (F12 FUEL a0 a1 a2 a3 a4 a5 a6 a7 a8 a9 a10 a11 a12 a13 a14 a15 a16 a17 a18 a19 a20) fun y6 =>
    Option.bind (F13 FUEL a0 a1 a2 a3 a4 a5 a6 a7 a8 a9 a10 a11 a12 a13 a14 a15 a16 a17 a18 a19 a20) fun y7 =>
    Option.bind (F14 FUEL a0 a1 a2 a3 a4 a5 a6 a7 a8 a9 a10 a11 a12 a13 a14 a15 a16 a17 a18 a19 a20 a21) fun y8 =>
    Option.bind (F15 FUEL a0 a1 a2 a3 a4 a5 a6 a7 a8 a9 a10 a11 a12 a13 a14 a15 a16 a17 a18 a19 a20 a21) fun y9 =>
    bif (ine y4.1 y5.1) then
    (some false)
    else (bif (ine y4.2 y5.2) then
     (some false)
     else (bif (ine y6.1 y7.1) then
      (some false)
      else (bif (bneb y6.2 y7.2) then
       (some false)
       else (Option.bind (F16 FUEL y8.q0 y8.q19 y8.q20 y8.q1 y8.q2 y8.q3 y8.q4 y8.q5 y8.q6 y8.q7 y8.q8 y8.q9 y8.q10 y8.q11 y8.q12 y8.q13 y8.q14 y8.q15 y8.q16 y8.q17 y9.q0 y9.q19 y9.q20 y9.q1 y9.q2 y9.q3 y9.q4 y9.q5 y9.q6 y9.q7 y9.q8 y9.q9 y9.q10 y9.q11 y9.q12 y9.q13 y9.q14 y9.q15 y9.q16 y9.q17) fun y10 =>
        bif (!y10) then
        (some false)
        else (bif (ine y8.q18 y9.q18) then
         (some false)
         else (Option.bind (F17 FUEL a0 a1 a2 a3 a4 a5 a6 a7 a8 a9 a10 a11 a12 a13 a14 a15 a16 a17 a18 a19 a20) fun y11 =>
          Option.bind (F18 FUEL a0 a1 a2 a3 a4 a5 a6 a7 a8 a9 a10 a11 a12 a13 a14 a15 a16 a17 a18 a19 a20) fun y12 =>
          Option.bind (F19 FUEL a0 a1 a2 a3 a4 a5 a6 a7 a8 a9 a10 a11 a12 a13 a14 a15 a16 a17 a18 a19 a22) fun y13 =>
          Option.bind (F20 FUEL a0 a1 a2 a3 a4 a5 a6 a7 a8 a9 a10 a11 a12 a13 a14 a15 a16 a17 a18 a19 a22) fun y14 =>
          Option.bind (F16 FUEL y11.q0 y11.q1 y11.q2 y11.q3 y11.q4 y11.q5 y11.q6 y11.q7 y11.q8 y11.q9 y11.q10 y11.q11 y11.q12 y11.q13 y11.q14 y11.q15 y11.q16 y11.q17 y11.q18 y11.q19 y12.q0 y12.q21 y12.q22 y12.q1 y12.q2 y12.q3 y12.q4 y12.q5 y12.q6 y12.q7 y12.q8 y12.q9 y12.q10 y12.q11 y12.q12 y12.q13 y12.q14 y12.q15 y12.q16 y12.q17) fun y15 =>
          bif y15 then
          (bif (ieq y11.q20 y12.q18) then
           (bif (ieq y11.q21 y12.q19) then
            (bif (beqb y11.q22 y12.q20) then
             (Option.bind (F16 FUEL y13.q0 y13.q19 y13.q20 y13.q1 y13.q2 y13.q3 y13.q4 y13.q5 y13.q6 y13.q7 y13.q8 y13.q9 y13.q10 y13.q11 y13.q12 y13.q13 y13.q14 y13.q15 y13.q16 y13.q17 y14.q0 y14.q19 y14.q20 y14.q1 y14.q2 y14.q3 y14.q4 y14.q5 y14.q6 y14.q7 y14.q8 y14.q9 y14.q10 y14.q11 y14.q12 y14.q13 y14.q14 y14.q15 y14.q16 y14.q17) fun y16 =>
              bif y16 then
              (bif (ieq y13.q18 y14.q18) then
               (Option.bind (F9 FUEL) fun y17 =>
                some y17)
               else (some false))
              else (some false))
             else (some false))
            else (some false))
           else (some false))
          else (some false)))))))))

/-! ### garland/garlandref13.Listed -/
def F23 (_n : Nat) (a0 : Int) (a1 : List (Int)) (a2 : List (Int)) (a3 : Int) (a4 : Int) (a5 : Int) (a6 : Int) (a7 : Int) (a8 : Int) (a9 : Int) (a10 : Int) (a11 : Int) (a12 : Int) (a13 : Int) (a14 : Int) (a15 : Int) (a16 : Int) (a17 : Int) (a18 : Int) (a19 : Int) (a20 : List (Int)) : Option (Si18l2) :=
  Option.bind (F37 FUEL a0 a1 a2 a3 a4 a5 a6 a7 a8 a9 a10 a11 a12 a13 a14 a15 a16 a17 a18 a19) fun y1 =>
  Option.bind (F21 FUEL y1.q0 y1.q18 y1.q19 y1.q1 y1.q2 y1.q3 y1.q4 y1.q5 y1.q6 y1.q7 y1.q8 y1.q9 y1.q10 y1.q11 y1.q12 y1.q13 y1.q14 y1.q15 y1.q16 y1.q17) fun y2 =>
  bif y2 then
  (Option.bind (F42 FUEL y1.q0 a20) fun y3 =>
   bif y3 then
   (bif (room (0 + List.length a20) 8) then
    (some ⟨y1.q0, y1.q1, y1.q2, y1.q3, y1.q4, y1.q5, y1.q6, y1.q7, y1.q8, y1.q9, y1.q10, y1.q11, y1.q12, y1.q13, y1.q14, y1.q15, y1.q16, y1.q17, y1.q18, ([] ++ a20)⟩)
    else (none))
   else (some ⟨y1.q0, y1.q1, y1.q2, y1.q3, y1.q4, y1.q5, y1.q6, y1.q7, y1.q8, y1.q9, y1.q10, y1.q11, y1.q12, y1.q13, y1.q14, y1.q15, y1.q16, y1.q17, y1.q18, y1.q19⟩))
  else (some ⟨y1.q0, y1.q1, y1.q2, y1.q3, y1.q4, y1.q5, y1.q6, y1.q7, y1.q8, y1.q9, y1.q10, y1.q11, y1.q12, y1.q13, y1.q14, y1.q15, y1.q16, y1.q17, y1.q18, y1.q19⟩)

/-! ### garland/garlandlaw17.FingerWalk -/
mutual
def F4_c0 : Nat → List (Int) → Int → Int → List (Int) → List (Int) → Int → Int → Int → Int → Int → Int → Int → Int → Int → Int → Int → Int → Int → Int → Int → Int → Int → Option (Bool)
  | 0, _, _, _, _, _, _, _, _, _, _, _, _, _, _, _, _, _, _, _, _, _, _ => none
  | n + 1, x0, x1, x2, x3, x4, x5, x6, x7, x8, x9, x10, x11, x12, x13, x14, x15, x16, x17, x18, x19, x20, x21 => bif (ilt x1 (ofN (List.length x0))) then
    (bif (inb x1 (List.length x0)) then
     (bif (ilt (List.getD x0 (Int.toNat x1) 0) (0)) then
      (Option.bind (F9 FUEL) fun y7 =>
       some y7)
      else (bif (inb x1 (List.length x0)) then
       (bif (ige (List.getD x0 (Int.toNat x1) 0) (65536)) then
        (Option.bind (F9 FUEL) fun y8 =>
         some y8)
        else (F4_c0 n x0 (iadd .i64 x1 (1)) x2 x3 x4 x5 x6 x7 x8 x9 x10 x11 x12 x13 x14 x15 x16 x17 x18 x19 x20 x21))
       else (none)))
     else (none))
    else (Option.bind (F22 FUEL x0 (iadd .i64 x2 (1))) fun y9 =>
     bif (ieq y9.1 x2) then
     (Option.bind (F9 FUEL) fun y10 =>
      some y10)
     else (Option.bind (F23 FUEL x2 x3 x4 x5 x6 x7 x8 x9 x10 x11 x12 x13 x14 x15 x16 x17 x18 x19 x20 x21 [y9.1]) fun y11 =>
      Option.bind (F19 FUEL y11.q0 y11.q18 y11.q19 y11.q1 y11.q2 y11.q3 y11.q4 y11.q5 y11.q6 y11.q7 y11.q8 y11.q9 y11.q10 y11.q11 y11.q12 y11.q13 y11.q14 y11.q15 y11.q16 y11.q17 x0) fun y12 =>
      bif (ine y12.q18 (0)) then
      (some false)
      else (Option.bind (F24 FUEL y11.q0 y11.q18 y11.q19 y11.q1 y11.q2 y11.q3 y11.q4 y11.q5 y11.q6 y11.q7 y11.q8 y11.q9 y11.q10 y11.q11 y11.q12 y11.q13 y11.q14 y11.q15 y11.q16 y11.q17) fun y13 =>
       bif (ine y13 y9.1) then
       (some false)
       else (Option.bind (F17 FUEL y11.q0 y11.q18 y11.q19 y11.q1 y11.q2 y11.q3 y11.q4 y11.q5 y11.q6 y11.q7 y11.q8 y11.q9 y11.q10 y11.q11 y11.q12 y11.q13 y11.q14 y11.q15 y11.q16 y11.q17 (0)) fun y14 =>
        F4_c1 n x0 y14.q20 y14.q21 y14.q22 (0) y11.q0 y11.q1 y11.q2 y11.q3 y11.q4 y11.q5 y11.q6 y11.q7 y11.q8 y11.q9 y11.q10 y11.q11 y11.q12 y11.q13 y11.q14 y11.q15 y11.q16 y11.q17 y12.q0 y12.q1 y12.q2 y12.q3 y12.q4 y12.q5 y12.q6 y12.q7 y12.q8 y12.q9 y12.q10 y12.q11 y12.q12 y12.q13 y12.q14 y12.q15 y12.q16 y12.q17 y14.q0 y14.q1 y14.q2 y14.q3 y14.q4 y14.q5 y14.q6 y14.q7 y14.q8 y14.q9 y14.q10 y14.q11 y14.q12 y14.q13 y14.q14 y14.q15 y14.q16 y14.q17 y14.q18 y14.q19 y11.q18 y11.q19 y12.q19 y12.q20))))
def F4_c1 : Nat → List (Int) → Int → Int → Bool → Int → Int → Int → Int → Int → Int → Int → Int → Int → Int → Int → Int → Int → Int → Int → Int → Int → Int → Int → Int → Int → Int → Int → Int → Int → Int → Int → Int → Int → Int → Int → Int → Int → Int → Int → Int → Int → Int → List (Int) → List (Int) → Int → Int → Int → Int → Int → Int → Int → Int → Int → Int → Int → Int → Int → Int → Int → Int → Int → List (Int) → List (Int) → List (Int) → List (Int) → Option (Bool)
  | 0, _, _, _, _, _, _, _, _, _, _, _, _, _, _, _, _, _, _, _, _, _, _, _, _, _, _, _, _, _, _, _, _, _, _, _, _, _, _, _, _, _, _, _, _, _, _, _, _, _, _, _, _, _, _, _, _, _, _, _, _, _, _, _, _, _ => none
  | n + 1, x0, x1, x2, x3, x4, x5, x6, x7, x8, x9, x10, x11, x12, x13, x14, x15, x16, x17, x18, x19, x20, x21, x22, x23, x24, x25, x26, x27, x28, x29, x30, x31, x32, x33, x34, x35, x36, x37, x38, x39, x40, x41, x42, x43, x44, x45, x46, x47, x48, x49, x50, x51, x52, x53, x54, x55, x56, x57, x58, x59, x60, x61, x62, x63, x64 => bif x3 then
    (bif (ile x4 (16)) then
     (Option.bind (F22 FUEL x0 x2) fun y15 =>
      Option.bind (F14 FUEL x41 x42 x43 x44 x45 x46 x47 x48 x49 x50 x51 x52 x53 x54 x55 x56 x57 x58 x59 x60 x1 y15.1) fun y16 =>
      bif (ine y16.q18 (0)) then
      (some false)
      else (Option.bind (F25 FUEL x5 x1) fun y17 =>
       bif (ine x2 y17) then
       (some false)
       else (bif (ieq x1 (15)) then
        (bif (ile (iadd .i64 x4 (1)) (16)) then
         (Option.bind (F16 FUEL y16.q0 y16.q19 y16.q20 y16.q1 y16.q2 y16.q3 y16.q4 y16.q5 y16.q6 y16.q7 y16.q8 y16.q9 y16.q10 y16.q11 y16.q12 y16.q13 y16.q14 y16.q15 y16.q16 y16.q17 x23 x63 x64 x24 x25 x26 x27 x28 x29 x30 x31 x32 x33 x34 x35 x36 x37 x38 x39 x40) fun y18 =>
          bif y18 then
          (Option.bind (F9 FUEL) fun y19 =>
           some y19)
          else (some false))
         else (some false))
        else (Option.bind (F17 FUEL y16.q0 y16.q19 y16.q20 y16.q1 y16.q2 y16.q3 y16.q4 y16.q5 y16.q6 y16.q7 y16.q8 y16.q9 y16.q10 y16.q11 y16.q12 y16.q13 y16.q14 y16.q15 y16.q16 y16.q17 (iadd .i64 x1 (1))) fun y20 =>
         F4_c1 n x0 y20.q20 y20.q21 y20.q22 (iadd .i64 x4 (1)) x5 x6 x7 x8 x9 x10 x11 x12 x13 x14 x15 x16 x17 x18 x19 x20 x21 x22 x23 x24 x25 x26 x27 x28 x29 x30 x31 x32 x33 x34 x35 x36 x37 x38 x39 x40 y20.q0 y20.q1 y20.q2 y20.q3 y20.q4 y20.q5 y20.q6 y20.q7 y20.q8 y20.q9 y20.q10 y20.q11 y20.q12 y20.q13 y20.q14 y20.q15 y20.q16 y20.q17 y20.q18 y20.q19 x61 x62 x63 x64))))
     else (bif (!x3) then
      (bif (ile x4 (16)) then
       (Option.bind (F16 FUEL x41 x42 x43 x44 x45 x46 x47 x48 x49 x50 x51 x52 x53 x54 x55 x56 x57 x58 x59 x60 x23 x63 x64 x24 x25 x26 x27 x28 x29 x30 x31 x32 x33 x34 x35 x36 x37 x38 x39 x40) fun y21 =>
        bif y21 then
        (Option.bind (F9 FUEL) fun y22 =>
         some y22)
        else (some false))
       else (some false))
      else (some false)))
    else (bif (!x3) then
     (bif (ile x4 (16)) then
      (Option.bind (F16 FUEL x41 x42 x43 x44 x45 x46 x47 x48 x49 x50 x51 x52 x53 x54 x55 x56 x57 x58 x59 x60 x23 x63 x64 x24 x25 x26 x27 x28 x29 x30 x31 x32 x33 x34 x35 x36 x37 x38 x39 x40) fun y23 =>
       bif y23 then
       (Option.bind (F9 FUEL) fun y24 =>
        some y24)
       else (some false))
      else (some false))
     else (some false))
end
def F4 (n : Nat) (a0 : Int) (a1 : List (Int)) (a2 : List (Int)) (a3 : Int) (a4 : Int) (a5 : Int) (a6 : Int) (a7 : Int) (a8 : Int) (a9 : Int) (a10 : Int) (a11 : Int) (a12 : Int) (a13 : Int) (a14 : Int) (a15 : Int) (a16 : Int) (a17 : Int) (a18 : Int) (a19 : Int) (a20 : List (Int)) : Option (Bool) :=
  Option.bind (F8 FUEL a0 a1 a2 a3 a4 a5 a6 a7 a8 a9 a10 a11 a12 a13 a14 a15 a16 a17 a18 a19) fun y1 =>
  bif y1 then
  (Option.bind (F9 FUEL) fun y2 =>
   some y2)
  else (Option.bind (F21 FUEL a0 a1 a2 a3 a4 a5 a6 a7 a8 a9 a10 a11 a12 a13 a14 a15 a16 a17 a18 a19) fun y3 =>
   bif (!y3) then
   (Option.bind (F9 FUEL) fun y4 =>
    some y4)
   else (bif (ilt (ofN (List.length a20)) (1)) then
    (Option.bind (F9 FUEL) fun y5 =>
     some y5)
    else (bif (igt (ofN (List.length a20)) (60)) then
     (Option.bind (F9 FUEL) fun y6 =>
      some y6)
     else (F4_c0 n a20 (0) a0 a1 a2 a3 a4 a5 a6 a7 a8 a9 a10 a11 a12 a13 a14 a15 a16 a17 a18 a19))))

/-! ### garland/garlandlaw17.FingerOnce -/
def F5_c0 : Nat → Int → Int → Bool → Int → Int → List (Int) → List (Int) → Int → Int → Int → Int → Int → Int → Int → Int → Int → Int → Int → Int → Int → Int → Int → Int → Int → Option (Bool)
  | 0, _, _, _, _, _, _, _, _, _, _, _, _, _, _, _, _, _, _, _, _, _, _, _, _ => none
  | n + 1, x0, x1, x2, x3, x4, x5, x6, x7, x8, x9, x10, x11, x12, x13, x14, x15, x16, x17, x18, x19, x20, x21, x22, x23 => bif (ilt x3 x0) then
    (bif x2 then
     (Option.bind (F12 FUEL x4 x5 x6 x7 x8 x9 x10 x11 x12 x13 x14 x15 x16 x17 x18 x19 x20 x21 x22 x23 x3) fun y12 =>
      bif (!y12.2) then
      (some false)
      else (bif (ine y12.1 x1) then
       (some false)
       else (F5_c0 n x0 x1 x2 (iadd .i64 x3 (1)) x4 x5 x6 x7 x8 x9 x10 x11 x12 x13 x14 x15 x16 x17 x18 x19 x20 x21 x22 x23)))
     else (Option.bind (F17 FUEL x4 x5 x6 x7 x8 x9 x10 x11 x12 x13 x14 x15 x16 x17 x18 x19 x20 x21 x22 x23 x0) fun y13 =>
      bif y13.q22 then
      (Option.bind (F12 FUEL x4 x5 x6 x7 x8 x9 x10 x11 x12 x13 x14 x15 x16 x17 x18 x19 x20 x21 x22 x23 y13.q20) fun y14 =>
       bif (!y14.2) then
       (bif (ige y13.q20 x0) then
        (Option.bind (F25 FUEL x4 y13.q20) fun y15 =>
         bif (ieq y13.q21 y15) then
         (Option.bind (F9 FUEL) fun y16 =>
          some y16)
         else (some false))
        else (some false))
       else (some false))
      else (bif (ieq y13.q20 (0)) then
       (bif (ieq y13.q21 (0)) then
        (bif (inb (15) 16) then
         (bif (nlt (Int.toNat (15)) 16) then
          (bif (ieq (List.getD [y13.q4, y13.q5, y13.q6, y13.q7, y13.q8, y13.q9, y13.q10, y13.q11, y13.q12, y13.q13, y13.q14, y13.q15, y13.q16, y13.q17, y13.q18, y13.q19] (Int.toNat (15)) 0) x1) then
           (Option.bind (F9 FUEL) fun y17 =>
            some y17)
           else (some false))
          else (none))
         else (none))
        else (some false))
       else (some false))))
    else (Option.bind (F17 FUEL x4 x5 x6 x7 x8 x9 x10 x11 x12 x13 x14 x15 x16 x17 x18 x19 x20 x21 x22 x23 x0) fun y18 =>
     bif y18.q22 then
     (Option.bind (F12 FUEL x4 x5 x6 x7 x8 x9 x10 x11 x12 x13 x14 x15 x16 x17 x18 x19 x20 x21 x22 x23 y18.q20) fun y19 =>
      bif (!y19.2) then
      (bif (ige y18.q20 x0) then
       (Option.bind (F25 FUEL x4 y18.q20) fun y20 =>
        bif (ieq y18.q21 y20) then
        (Option.bind (F9 FUEL) fun y21 =>
         some y21)
        else (some false))
       else (some false))
      else (some false))
     else (bif (ieq y18.q20 (0)) then
      (bif (ieq y18.q21 (0)) then
       (bif (inb (15) 16) then
        (bif (nlt (Int.toNat (15)) 16) then
         (bif (ieq (List.getD [y18.q4, y18.q5, y18.q6, y18.q7, y18.q8, y18.q9, y18.q10, y18.q11, y18.q12, y18.q13, y18.q14, y18.q15, y18.q16, y18.q17, y18.q18, y18.q19] (Int.toNat (15)) 0) x1) then
          (Option.bind (F9 FUEL) fun y22 =>
           some y22)
          else (some false))
         else (none))
        else (none))
       else (some false))
      else (some false)))
def F5 (n : Nat) (a0 : Int) (a1 : List (Int)) (a2 : List (Int)) (a3 : Int) (a4 : Int) (a5 : Int) (a6 : Int) (a7 : Int) (a8 : Int) (a9 : Int) (a10 : Int) (a11 : Int) (a12 : Int) (a13 : Int) (a14 : Int) (a15 : Int) (a16 : Int) (a17 : Int) (a18 : Int) (a19 : Int) (a20 : Int) : Option (Bool) :=
  Option.bind (F8 FUEL a0 a1 a2 a3 a4 a5 a6 a7 a8 a9 a10 a11 a12 a13 a14 a15 a16 a17 a18 a19) fun y1 =>
  bif y1 then
  (Option.bind (F9 FUEL) fun y2 =>
   some y2)
  else (Option.bind (F21 FUEL a0 a1 a2 a3 a4 a5 a6 a7 a8 a9 a10 a11 a12 a13 a14 a15 a16 a17 a18 a19) fun y3 =>
   bif (!y3) then
   (Option.bind (F9 FUEL) fun y4 =>
    some y4)
   else (bif (ilt a20 (0)) then
    (Option.bind (F9 FUEL) fun y5 =>
     some y5)
    else (bif (ige a20 (16)) then
     (Option.bind (F9 FUEL) fun y6 =>
      some y6)
     else (Option.bind (F24 FUEL a0 a1 a2 a3 a4 a5 a6 a7 a8 a9 a10 a11 a12 a13 a14 a15 a16 a17 a18 a19) fun y7 =>
      Option.bind (F12 FUEL a0 a1 a2 a3 a4 a5 a6 a7 a8 a9 a10 a11 a12 a13 a14 a15 a16 a17 a18 a19 a20) fun y8 =>
      Option.bind (F10 FUEL a0 a1 a2 a3 a4 a5 a6 a7 a8 a9 a10 a11 a12 a13 a14 a15 a16 a17 a18 a19 a20) fun y9 =>
      bif (ine y9.2 (0)) then
      (some false)
      else (Option.bind (F26 FUEL a0 y9.1) fun y10 =>
       Option.bind (F26 FUEL a0 y7) fun y11 =>
       bif (bneb y8.2 (ile y10 y11)) then
       (some false)
       else (bif y8.2 then
        (bif (ine y8.1 y7) then
         (some false)
         else (bif (!y8.2) then
          (bif (ine y8.1 (0)) then
           (some false)
           else (F5_c0 n a20 y7 y8.2 (0) a0 a1 a2 a3 a4 a5 a6 a7 a8 a9 a10 a11 a12 a13 a14 a15 a16 a17 a18 a19))
          else (F5_c0 n a20 y7 y8.2 (0) a0 a1 a2 a3 a4 a5 a6 a7 a8 a9 a10 a11 a12 a13 a14 a15 a16 a17 a18 a19)))
        else (bif (!y8.2) then
         (bif (ine y8.1 (0)) then
          (some false)
          else (F5_c0 n a20 y7 y8.2 (0) a0 a1 a2 a3 a4 a5 a6 a7 a8 a9 a10 a11 a12 a13 a14 a15 a16 a17 a18 a19))
         else (F5_c0 n a20 y7 y8.2 (0) a0 a1 a2 a3 a4 a5 a6 a7 a8 a9 a10 a11 a12 a13 a14 a15 a16 a17 a18 a19))))))))

/-! ### garland/garlandlaw17.FingerSets -/
def F6 (_n : Nat) (a0 : Int) (a1 : List (Int)) (a2 : List (Int)) (a3 : Int) (a4 : Int) (a5 : Int) (a6 : Int) (a7 : Int) (a8 : Int) (a9 : Int) (a10 : Int) (a11 : Int) (a12 : Int) (a13 : Int) (a14 : Int) (a15 : Int) (a16 : Int) (a17 : Int) (a18 : Int) (a19 : Int) (a20 : Int) (a21 : Int) : Option (Bool) :=
  Option.bind (F8 FUEL a0 a1 a2 a3 a4 a5 a6 a7 a8 a9 a10 a11 a12 a13 a14 a15 a16 a17 a18 a19) fun y1 =>
  bif y1 then
  (Option.bind (F9 FUEL) fun y2 =>
   some y2)
  else (Option.bind (F21 FUEL a0 a1 a2 a3 a4 a5 a6 a7 a8 a9 a10 a11 a12 a13 a14 a15 a16 a17 a18 a19) fun y3 =>
   bif (!y3) then
   (Option.bind (F9 FUEL) fun y4 =>
    some y4)
   else (Option.bind (F14 FUEL a0 a1 a2 a3 a4 a5 a6 a7 a8 a9 a10 a11 a12 a13 a14 a15 a16 a17 a18 a19 a20 a21) fun y5 =>
    bif (ilt a20 (0)) then
    (bif (ieq y5.q18 (2)) then
     (Option.bind (F16 FUEL y5.q0 y5.q19 y5.q20 y5.q1 y5.q2 y5.q3 y5.q4 y5.q5 y5.q6 y5.q7 y5.q8 y5.q9 y5.q10 y5.q11 y5.q12 y5.q13 y5.q14 y5.q15 y5.q16 y5.q17 a0 a1 a2 a3 a4 a5 a6 a7 a8 a9 a10 a11 a12 a13 a14 a15 a16 a17 a18 a19) fun y6 =>
      bif y6 then
      (Option.bind (F9 FUEL) fun y7 =>
       some y7)
      else (some false))
     else (some false))
    else (bif (ige a20 (16)) then
     (bif (ieq y5.q18 (2)) then
      (Option.bind (F16 FUEL y5.q0 y5.q19 y5.q20 y5.q1 y5.q2 y5.q3 y5.q4 y5.q5 y5.q6 y5.q7 y5.q8 y5.q9 y5.q10 y5.q11 y5.q12 y5.q13 y5.q14 y5.q15 y5.q16 y5.q17 a0 a1 a2 a3 a4 a5 a6 a7 a8 a9 a10 a11 a12 a13 a14 a15 a16 a17 a18 a19) fun y8 =>
       bif y8 then
       (Option.bind (F9 FUEL) fun y9 =>
        some y9)
       else (some false))
      else (some false))
     else (bif (ilt a21 (0)) then
      (bif (ieq y5.q18 (2)) then
       (Option.bind (F16 FUEL y5.q0 y5.q19 y5.q20 y5.q1 y5.q2 y5.q3 y5.q4 y5.q5 y5.q6 y5.q7 y5.q8 y5.q9 y5.q10 y5.q11 y5.q12 y5.q13 y5.q14 y5.q15 y5.q16 y5.q17 a0 a1 a2 a3 a4 a5 a6 a7 a8 a9 a10 a11 a12 a13 a14 a15 a16 a17 a18 a19) fun y10 =>
        bif y10 then
        (Option.bind (F9 FUEL) fun y11 =>
         some y11)
        else (some false))
       else (some false))
      else (bif (ige a21 (65536)) then
       (bif (ieq y5.q18 (2)) then
        (Option.bind (F16 FUEL y5.q0 y5.q19 y5.q20 y5.q1 y5.q2 y5.q3 y5.q4 y5.q5 y5.q6 y5.q7 y5.q8 y5.q9 y5.q10 y5.q11 y5.q12 y5.q13 y5.q14 y5.q15 y5.q16 y5.q17 a0 a1 a2 a3 a4 a5 a6 a7 a8 a9 a10 a11 a12 a13 a14 a15 a16 a17 a18 a19) fun y12 =>
         bif y12 then
         (Option.bind (F9 FUEL) fun y13 =>
          some y13)
         else (some false))
        else (some false))
       else (bif (inb a20 16) then
        (bif (nlt (Int.toNat a20) 16) then
         (bif (inb a20 16) then
          (bif (nlt (Int.toNat a20) 16) then
           (bif (inb a20 16) then
            (bif (nlt (Int.toNat a20) 16) then
             (bif (ieq y5.q18 (0)) then
              (Option.bind (F16 FUEL y5.q0 y5.q19 y5.q20 y5.q1 (List.getD (List.set [y5.q2, y5.q3, y5.q4, y5.q5, y5.q6, y5.q7, y5.q8, y5.q9, y5.q10, y5.q11, y5.q12, y5.q13, y5.q14, y5.q15, y5.q16, y5.q17] (Int.toNat a20) (List.getD [a4, a5, a6, a7, a8, a9, a10, a11, a12, a13, a14, a15, a16, a17, a18, a19] (Int.toNat a20) 0)) 0 0) (List.getD (List.set [y5.q2, y5.q3, y5.q4, y5.q5, y5.q6, y5.q7, y5.q8, y5.q9, y5.q10, y5.q11, y5.q12, y5.q13, y5.q14, y5.q15, y5.q16, y5.q17] (Int.toNat a20) (List.getD [a4, a5, a6, a7, a8, a9, a10, a11, a12, a13, a14, a15, a16, a17, a18, a19] (Int.toNat a20) 0)) 1 0) (List.getD (List.set [y5.q2, y5.q3, y5.q4, y5.q5, y5.q6, y5.q7, y5.q8, y5.q9, y5.q10, y5.q11, y5.q12, y5.q13, y5.q14, y5.q15, y5.q16, y5.q17] (Int.toNat a20) (List.getD [a4, a5, a6, a7, a8, a9, a10, a11, a12, a13, a14, a15, a16, a17, a18, a19] (Int.toNat a20) 0)) 2 0) (List.getD (List.set [y5.q2, y5.q3, y5.q4, y5.q5, y5.q6, y5.q7, y5.q8, y5.q9, y5.q10, y5.q11, y5.q12, y5.q13, y5.q14, y5.q15, y5.q16, y5.q17] (Int.toNat a20) (List.getD [a4, a5, a6, a7, a8, a9, a10, a11, a12, a13, a14, a15, a16, a17, a18, a19] (Int.toNat a20) 0)) 3 0) (List.getD (List.set [y5.q2, y5.q3, y5.q4, y5.q5, y5.q6, y5.q7, y5.q8, y5.q9, y5.q10, y5.q11, y5.q12, y5.q13, y5.q14, y5.q15, y5.q16, y5.q17] (Int.toNat a20) (List.getD [a4, a5, a6, a7, a8, a9, a10, a11, a12, a13, a14, a15, a16, a17, a18, a19] (Int.toNat a20) 0)) 4 0) (List.getD (List.set [y5.q2, y5.q3, y5.q4, y5.q5, y5.q6, y5.q7, y5.q8, y5.q9, y5.q10, y5.q11, y5.q12, y5.q13, y5.q14, y5.q15, y5.q16, y5.q17] (Int.toNat a20) (List.getD [a4, a5, a6, a7, a8, a9, a10, a11, a12, a13, a14, a15, a16, a17, a18, a19] (Int.toNat a20) 0)) 5 0) (List.getD (List.set [y5.q2, y5.q3, y5.q4, y5.q5, y5.q6, y5.q7, y5.q8, y5.q9, y5.q10, y5.q11, y5.q12, y5.q13, y5.q14, y5.q15, y5.q16, y5.q17] (Int.toNat a20) (List.getD [a4, a5, a6, a7, a8, a9, a10, a11, a12, a13, a14, a15, a16, a17, a18, a19] (Int.toNat a20) 0)) 6 0) (List.getD (List.set [y5.q2, y5.q3, y5.q4, y5.q5, y5.q6, y5.q7, y5.q8, y5.q9, y5.q10, y5.q11, y5.q12, y5.q13, y5.q14, y5.q15, y5.q16, y5.q17] (Int.toNat a20) (List.getD [a4, a5, a6, a7, a8, a9, a10, a11, a12, a13, a14, a15, a16, a17, a18, a19] (Int.toNat a20) 0)) 7 0) (List.getD (List.set [y5.q2, y5.q3, y5.q4, y5.q5, y5.q6, y5.q7, y5.q8, y5.q9, y5.q10, y5.q11, y5.q12, y5.q13, y5.q14, y5.q15, y5.q16, y5.q17] (Int.toNat a20) (List.getD [a4, a5, a6, a7, a8, a9, a10, a11, a12, a13, a14, a15, a16, a17, a18, a19] (Int.toNat a20) 0)) 8 0) (List.getD (List.set [y5.q2, y5.q3, y5.q4, y5.q5, y5.q6, y5.q7, y5.q8, y5.q9, y5.q10, y5.q11, y5.q12, y5.q13, y5.q14, y5.q15, y5.q16, y5.q17] (Int.toNat a20) (List.getD [a4, a5, a6, a7, a8, a9, a10, a11, a12, a13, a14, a15, a16, a17, a18, a19] (Int.toNat a20) 0)) 9 0) (List.getD (List.set [y5.q2, y5.q3, y5.q4, y5.q5, y5.q6, y5.q7, y5.q8, y5.q9, y5.q10, y5.q11, y5.q12, y5.q13, y5.q14, y5.q15, y5.q16, y5.q17] (Int.toNat a20) (List.getD [a4, a5, a6, a7, a8, a9, a10, a11, a12, a13, a14, a15, a16, a17, a18, a19] (Int.toNat a20) 0)) 10 0) (List.getD (List.set [y5.q2, y5.q3, y5.q4, y5.q5, y5.q6, y5.q7, y5.q8, y5.q9, y5.q10, y5.q11, y5.q12, y5.q13, y5.q14, y5.q15, y5.q16, y5.q17] (Int.toNat a20) (List.getD [a4, a5, a6, a7, a8, a9, a10, a11, a12, a13, a14, a15, a16, a17, a18, a19] (Int.toNat a20) 0)) 11 0) (List.getD (List.set [y5.q2, y5.q3, y5.q4, y5.q5, y5.q6, y5.q7, y5.q8, y5.q9, y5.q10, y5.q11, y5.q12, y5.q13, y5.q14, y5.q15, y5.q16, y5.q17] (Int.toNat a20) (List.getD [a4, a5, a6, a7, a8, a9, a10, a11, a12, a13, a14, a15, a16, a17, a18, a19] (Int.toNat a20) 0)) 12 0) (List.getD (List.set [y5.q2, y5.q3, y5.q4, y5.q5, y5.q6, y5.q7, y5.q8, y5.q9, y5.q10, y5.q11, y5.q12, y5.q13, y5.q14, y5.q15, y5.q16, y5.q17] (Int.toNat a20) (List.getD [a4, a5, a6, a7, a8, a9, a10, a11, a12, a13, a14, a15, a16, a17, a18, a19] (Int.toNat a20) 0)) 13 0) (List.getD (List.set [y5.q2, y5.q3, y5.q4, y5.q5, y5.q6, y5.q7, y5.q8, y5.q9, y5.q10, y5.q11, y5.q12, y5.q13, y5.q14, y5.q15, y5.q16, y5.q17] (Int.toNat a20) (List.getD [a4, a5, a6, a7, a8, a9, a10, a11, a12, a13, a14, a15, a16, a17, a18, a19] (Int.toNat a20) 0)) 14 0) (List.getD (List.set [y5.q2, y5.q3, y5.q4, y5.q5, y5.q6, y5.q7, y5.q8, y5.q9, y5.q10, y5.q11, y5.q12, y5.q13, y5.q14, y5.q15, y5.q16, y5.q17] (Int.toNat a20) (List.getD [a4, a5, a6, a7, a8, a9, a10, a11, a12, a13, a14, a15, a16, a17, a18, a19] (Int.toNat a20) 0)) 15 0) a0 a1 a2 a3 a4 a5 a6 a7 a8 a9 a10 a11 a12 a13 a14 a15 a16 a17 a18 a19) fun y14 =>
               bif y14 then
               (bif (ieq (List.getD [y5.q2, y5.q3, y5.q4, y5.q5, y5.q6, y5.q7, y5.q8, y5.q9, y5.q10, y5.q11, y5.q12, y5.q13, y5.q14, y5.q15, y5.q16, y5.q17] (Int.toNat a20) 0) a21) then
                (bif (ine a21 a0) then
                 (Option.bind (F9 FUEL) fun y15 =>
                  some y15)
                 else (bif (ieq (List.getD [y5.q2, y5.q3, y5.q4, y5.q5, y5.q6, y5.q7, y5.q8, y5.q9, y5.q10, y5.q11, y5.q12, y5.q13, y5.q14, y5.q15, y5.q16, y5.q17] (Int.toNat a20) 0) (-1)) then
                  (bif (ieq a21 a0) then
                   (Option.bind (F9 FUEL) fun y16 =>
                    some y16)
                   else (some false))
                  else (some false)))
                else (bif (ieq (List.getD [y5.q2, y5.q3, y5.q4, y5.q5, y5.q6, y5.q7, y5.q8, y5.q9, y5.q10, y5.q11, y5.q12, y5.q13, y5.q14, y5.q15, y5.q16, y5.q17] (Int.toNat a20) 0) (-1)) then
                 (bif (ieq a21 a0) then
                  (Option.bind (F9 FUEL) fun y17 =>
                   some y17)
                  else (some false))
                 else (some false)))
               else (some false))
              else (some false))
             else (none))
            else (none))
           else (none))
          else (none))
         else (none))
        else (none)))))))

/-! ### garland/garlandlaw17.FingerTable -/
mutual
def F7_c0 : Nat → List (Int) → Int → Int → List (Int) → List (Int) → Int → Int → Int → Int → Int → Int → Int → Int → Int → Int → Int → Int → Int → Int → Int → Int → Int → List (Int) → Option (Bool)
  | 0, _, _, _, _, _, _, _, _, _, _, _, _, _, _, _, _, _, _, _, _, _, _, _ => none
  | n + 1, x0, x1, x2, x3, x4, x5, x6, x7, x8, x9, x10, x11, x12, x13, x14, x15, x16, x17, x18, x19, x20, x21, x22 => bif (ilt x1 (ofN (List.length x0))) then
    (bif (inb x1 (List.length x0)) then
     (bif (ilt (List.getD x0 (Int.toNat x1) 0) (0)) then
      (Option.bind (F19 FUEL x2 x3 x4 x5 x6 x7 x8 x9 x10 x11 x12 x13 x14 x15 x16 x17 x18 x19 x20 x21 x0) fun y7 =>
       bif (ieq y7.q18 (2)) then
       (Option.bind (F9 FUEL) fun y8 =>
        some y8)
       else (some false))
      else (bif (inb x1 (List.length x0)) then
       (bif (ige (List.getD x0 (Int.toNat x1) 0) (65536)) then
        (Option.bind (F19 FUEL x2 x3 x4 x5 x6 x7 x8 x9 x10 x11 x12 x13 x14 x15 x16 x17 x18 x19 x20 x21 x0) fun y9 =>
         bif (ieq y9.q18 (2)) then
         (Option.bind (F9 FUEL) fun y10 =>
          some y10)
         else (some false))
        else (bif (inb x1 (List.length x0)) then
         (bif (room (List.length [(List.getD x0 (Int.toNat x1) 0)] + List.length x22) 8) then
          (F7_c0 n x0 (iadd .i64 x1 (1)) x2 x3 x4 x5 x6 x7 x8 x9 x10 x11 x12 x13 x14 x15 x16 x17 x18 x19 x20 x21 ([(List.getD x0 (Int.toNat x1) 0)] ++ x22))
          else (none))
         else (none)))
       else (none)))
     else (none))
    else (Option.bind (F19 FUEL x2 x3 x4 x5 x6 x7 x8 x9 x10 x11 x12 x13 x14 x15 x16 x17 x18 x19 x20 x21 x0) fun y11 =>
     Option.bind (F19 FUEL x2 x3 x4 x5 x6 x7 x8 x9 x10 x11 x12 x13 x14 x15 x16 x17 x18 x19 x20 x21 x22) fun y12 =>
     bif (ine y11.q18 (0)) then
     (some false)
     else (bif (ine y12.q18 (0)) then
      (some false)
      else (Option.bind (F16 FUEL y11.q0 y11.q19 y11.q20 y11.q1 y11.q2 y11.q3 y11.q4 y11.q5 y11.q6 y11.q7 y11.q8 y11.q9 y11.q10 y11.q11 y11.q12 y11.q13 y11.q14 y11.q15 y11.q16 y11.q17 y12.q0 y12.q19 y12.q20 y12.q1 y12.q2 y12.q3 y12.q4 y12.q5 y12.q6 y12.q7 y12.q8 y12.q9 y12.q10 y12.q11 y12.q12 y12.q13 y12.q14 y12.q15 y12.q16 y12.q17) fun y13 =>
       bif (!y13) then
       (some false)
       else (F7_c1 n x0 (0) x2 x3 x4 x5 x6 x7 x8 x9 x10 x11 x12 x13 x14 x15 x16 x17 x18 x19 x20 x21 y11.q0 y11.q1 y11.q2 y11.q3 y11.q4 y11.q5 y11.q6 y11.q7 y11.q8 y11.q9 y11.q10 y11.q11 y11.q12 y11.q13 y11.q14 y11.q15 y11.q16 y11.q17 y11.q19 y11.q20))))
def F7_c1 : Nat → List (Int) → Int → Int → List (Int) → List (Int) → Int → Int → Int → Int → Int → Int → Int → Int → Int → Int → Int → Int → Int → Int → Int → Int → Int → Int → Int → Int → Int → Int → Int → Int → Int → Int → Int → Int → Int → Int → Int → Int → Int → Int → Int → List (Int) → List (Int) → Option (Bool)
  | 0, _, _, _, _, _, _, _, _, _, _, _, _, _, _, _, _, _, _, _, _, _, _, _, _, _, _, _, _, _, _, _, _, _, _, _, _, _, _, _, _, _, _ => none
  | n + 1, x0, x1, x2, x3, x4, x5, x6, x7, x8, x9, x10, x11, x12, x13, x14, x15, x16, x17, x18, x19, x20, x21, x22, x23, x24, x25, x26, x27, x28, x29, x30, x31, x32, x33, x34, x35, x36, x37, x38, x39, x40, x41 => bif (ilt x1 (16)) then
    (bif (inb x1 16) then
     (bif (nlt (Int.toNat x1) 16) then
      (Option.bind (F25 FUEL x2 x1) fun y14 =>
       bif (ilt (List.getD [x24, x25, x26, x27, x28, x29, x30, x31, x32, x33, x34, x35, x36, x37, x38, x39] (Int.toNat x1) 0) (0)) then
       (F7_c2 n x0 x1 x2 y14 false (0) x2 x3 x4 x5 x6 x7 x8 x9 x10 x11 x12 x13 x14 x15 x16 x17 x18 x19 x20 x21 x22 x23 x24 x25 x26 x27 x28 x29 x30 x31 x32 x33 x34 x35 x36 x37 x38 x39 x40 x41)
       else (F7_c2 n x0 x1 (List.getD [x24, x25, x26, x27, x28, x29, x30, x31, x32, x33, x34, x35, x36, x37, x38, x39] (Int.toNat x1) 0) y14 false (0) x2 x3 x4 x5 x6 x7 x8 x9 x10 x11 x12 x13 x14 x15 x16 x17 x18 x19 x20 x21 x22 x23 x24 x25 x26 x27 x28 x29 x30 x31 x32 x33 x34 x35 x36 x37 x38 x39 x40 x41))
      else (none))
     else (none))
    else (Option.bind (F9 FUEL) fun y15 =>
     some y15)
def F7_c2 : Nat → List (Int) → Int → Int → Int → Bool → Int → Int → List (Int) → List (Int) → Int → Int → Int → Int → Int → Int → Int → Int → Int → Int → Int → Int → Int → Int → Int → Int → Int → Int → Int → Int → Int → Int → Int → Int → Int → Int → Int → Int → Int → Int → Int → Int → Int → Int → Int → List (Int) → List (Int) → Option (Bool)
  | 0, _, _, _, _, _, _, _, _, _, _, _, _, _, _, _, _, _, _, _, _, _, _, _, _, _, _, _, _, _, _, _, _, _, _, _, _, _, _, _, _, _, _, _, _, _, _ => none
  | n + 1, x0, x1, x2, x3, x4, x5, x6, x7, x8, x9, x10, x11, x12, x13, x14, x15, x16, x17, x18, x19, x20, x21, x22, x23, x24, x25, x26, x27, x28, x29, x30, x31, x32, x33, x34, x35, x36, x37, x38, x39, x40, x41, x42, x43, x44, x45 => bif (ilt x5 (ofN (List.length x0))) then
    (bif x4 then
     (bif (inb x5 (List.length x0)) then
      (Option.bind (F26 FUEL x3 (List.getD x0 (Int.toNat x5) 0)) fun y16 =>
       Option.bind (F26 FUEL x3 x2) fun y17 =>
       bif (ilt y16 y17) then
       (some false)
       else (F7_c2 n x0 x1 x2 x3 true (iadd .i64 x5 (1)) x6 x7 x8 x9 x10 x11 x12 x13 x14 x15 x16 x17 x18 x19 x20 x21 x22 x23 x24 x25 x26 x27 x28 x29 x30 x31 x32 x33 x34 x35 x36 x37 x38 x39 x40 x41 x42 x43 x44 x45))
      else (none))
     else (bif (inb x5 (List.length x0)) then
      (bif (inb x5 (List.length x0)) then
       (Option.bind (F26 FUEL x3 (List.getD x0 (Int.toNat x5) 0)) fun y18 =>
        Option.bind (F26 FUEL x3 x2) fun y19 =>
        bif (ilt y18 y19) then
        (some false)
        else (F7_c2 n x0 x1 x2 x3 (ieq (List.getD x0 (Int.toNat x5) 0) x2) (iadd .i64 x5 (1)) x6 x7 x8 x9 x10 x11 x12 x13 x14 x15 x16 x17 x18 x19 x20 x21 x22 x23 x24 x25 x26 x27 x28 x29 x30 x31 x32 x33 x34 x35 x36 x37 x38 x39 x40 x41 x42 x43 x44 x45))
       else (none))
      else (none)))
    else (bif (!x4) then
     (some false)
     else (F7_c1 n x0 (iadd .i64 x1 (1)) x6 x7 x8 x9 x10 x11 x12 x13 x14 x15 x16 x17 x18 x19 x20 x21 x22 x23 x24 x25 x26 x27 x28 x29 x30 x31 x32 x33 x34 x35 x36 x37 x38 x39 x40 x41 x42 x43 x44 x45))
end
def F7 (n : Nat) (a0 : Int) (a1 : List (Int)) (a2 : List (Int)) (a3 : Int) (a4 : Int) (a5 : Int) (a6 : Int) (a7 : Int) (a8 : Int) (a9 : Int) (a10 : Int) (a11 : Int) (a12 : Int) (a13 : Int) (a14 : Int) (a15 : Int) (a16 : Int) (a17 : Int) (a18 : Int) (a19 : Int) (a20 : List (Int)) : Option (Bool) :=
  Option.bind (F8 FUEL a0 a1 a2 a3 a4 a5 a6 a7 a8 a9 a10 a11 a12 a13 a14 a15 a16 a17 a18 a19) fun y1 =>
  bif y1 then
  (Option.bind (F9 FUEL) fun y2 =>
   some y2)
  else (Option.bind (F21 FUEL a0 a1 a2 a3 a4 a5 a6 a7 a8 a9 a10 a11 a12 a13 a14 a15 a16 a17 a18 a19) fun y3 =>
   bif (!y3) then
   (Option.bind (F9 FUEL) fun y4 =>
    some y4)
   else (bif (ilt (ofN (List.length a20)) (1)) then
    (Option.bind (F9 FUEL) fun y5 =>
     some y5)
    else (bif (igt (ofN (List.length a20)) (60)) then
     (Option.bind (F9 FUEL) fun y6 =>
      some y6)
     else (F7_c0 n a20 (0) a0 a1 a2 a3 a4 a5 a6 a7 a8 a9 a10 a11 a12 a13 a14 a15 a16 a17 a18 a19 []))))

end Go.Proofs.YtomgapihddmafaaDoor
