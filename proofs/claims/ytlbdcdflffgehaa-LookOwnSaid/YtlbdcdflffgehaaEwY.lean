/-
  What the functions of this program compute, in plain words.
-/
import Derived.Test.YtlbdcdflffgehaaEvR
namespace Go.Proofs.Ytlbdcdflffgehaa
open Go Go.RowKit
set_option maxRecDepth 100000


/-! ### garland/garlandref13.Great -/
def F13 (_n : Nat) (_a0 : Int) (a1 : List (Int)) (a2 : List (Int)) (_a3 : Int) (_a4 : Int) (_a5 : Int) (_a6 : Int) (_a7 : Int) (_a8 : Int) (_a9 : Int) (_a10 : Int) (_a11 : Int) (_a12 : Int) (_a13 : Int) (_a14 : Int) (_a15 : Int) (_a16 : Int) (_a17 : Int) (_a18 : Int) (_a19 : Int) : Option (Bool) :=
  bif (igt (ofN (List.length a1)) (20)) then
  (some true)
  else (some (igt (ofN (List.length a2)) (20)))

/-! ### garland/garlandlaw18.great -/
def F29 (_n : Nat) (a0 : Int) (a1 : List (Int)) (a2 : List (Int)) (a3 : Int) (a4 : Int) (a5 : Int) (a6 : Int) (a7 : Int) (a8 : Int) (a9 : Int) (a10 : Int) (a11 : Int) (a12 : Int) (a13 : Int) (a14 : Int) (a15 : Int) (a16 : Int) (a17 : Int) (a18 : Int) (a19 : Int) (_a20 : Int) (_a21 : Int) (_a22 : Int) (_a23 : Int) (_a24 : Int) (_a25 : Bool) (_a26 : Bool) (_a27 : Int) (_a28 : Int) (a29 : List (Int)) (a30 : ByteArray) (_a31 : Int) (_a32 : Int) (_a33 : Bool) (_a34 : Int) : Option (Bool) :=
  Option.bind (F13 FUEL a0 a1 a2 a3 a4 a5 a6 a7 a8 a9 a10 a11 a12 a13 a14 a15 a16 a17 a18 a19) fun y1 =>
  bif y1 then
  (some true)
  else (bif (igt (ofN (List.length a29)) (20)) then
   (some true)
   else (some (igt (stlen a30) (100))))

/-! ### garland/garlandref13.place -/
def F57 (_n : Nat) (a0 : Int) : Option (Bool) :=
  bif (ige a0 (0)) then
  (some (ilt a0 (65536)))
  else (some false)

/-! ### garland/garlandref12.place -/
def F90 (_n : Nat) (a0 : Int) : Option (Bool) :=
  bif (ige a0 (0)) then
  (some (ilt a0 (65536)))
  else (some false)

/-! ### garland/garlandref03.Place -/
def F27 (_n : Nat) (a0 : Int) : Option (Int) :=
  bif (inz (65536)) then
  (bif (inz (65536)) then
   (some (irem (iadd .i64 (irem a0 (65536)) (65536)) (65536)))
   else (none))
  else (none)

/-! ### garland/garlandref03.Far -/
def F26 (_n : Nat) (a0 : Int) (a1 : Int) : Option (Int) :=
  Option.bind (F27 FUEL a1) fun y1 =>
  Option.bind (F27 FUEL a0) fun y2 =>
  Option.bind (F27 FUEL (isub .i64 y1 y2)) fun y3 =>
  some y3

/-! ### garland/garlandref12.farther -/
def F91 (_n : Nat) (a0 : Int) (a1 : Int) (a2 : Int) : Option (Bool) :=
  Option.bind (F26 FUEL a0 a2) fun y1 =>
  Option.bind (F26 FUEL a0 a1) fun y2 =>
  some (igt y1 y2)

/-! ### garland/garlandref12.Right -/
def F58_c0 : Nat → Int → List (Int) → Int → Option (Bool)
  | 0, _, _, _ => none
  | n + 1, x0, x1, x2 => bif (ilt x2 (ofN (List.length x1))) then
    (bif (inb x2 (List.length x1)) then
     (Option.bind (F90 FUEL (List.getD x1 (Int.toNat x2) 0)) fun y1 =>
      bif (!y1) then
      (some false)
      else (bif (inb x2 (List.length x1)) then
       (Option.bind (F27 FUEL x0) fun y2 =>
        bif (ieq (List.getD x1 (Int.toNat x2) 0) y2) then
        (some false)
        else (bif (igt x2 (0)) then
         (bif (inb (isub .i64 x2 (1)) (List.length x1)) then
          (bif (inb x2 (List.length x1)) then
           (Option.bind (F91 FUEL x0 (List.getD x1 (Int.toNat (isub .i64 x2 (1))) 0) (List.getD x1 (Int.toNat x2) 0)) fun y3 =>
            bif (!y3) then
            (some false)
            else (F58_c0 n x0 x1 (iadd .i64 x2 (1))))
           else (none))
          else (none))
         else (F58_c0 n x0 x1 (iadd .i64 x2 (1)))))
       else (none)))
     else (none))
    else (some (ile (ofN (List.length x1)) (3)))
def F58 (n : Nat) (a0 : Int) (a1 : List (Int)) : Option (Bool) :=
  F58_c0 n a0 a1 (0)

/-! ### garland/garlandref13.other -/
def F59 (_n : Nat) (a0 : Int) (_a1 : List (Int)) (_a2 : List (Int)) (_a3 : Int) (_a4 : Int) (_a5 : Int) (_a6 : Int) (_a7 : Int) (_a8 : Int) (_a9 : Int) (_a10 : Int) (_a11 : Int) (_a12 : Int) (_a13 : Int) (_a14 : Int) (_a15 : Int) (_a16 : Int) (_a17 : Int) (_a18 : Int) (_a19 : Int) (a20 : Int) : Option (Bool) :=
  bif (ieq a20 (-1)) then
  (some true)
  else (Option.bind (F57 FUEL a20) fun y1 =>
   bif y1 then
   (some (ine a20 a0))
   else (some false))

/-! ### garland/garlandref13.Right -/
mutual
def F24_c0 : Nat → Int → Int → List (Int) → List (Int) → Int → Int → Int → Int → Int → Int → Int → Int → Int → Int → Int → Int → Int → Int → Int → Int → Int → Option (Bool)
  | 0, _, _, _, _, _, _, _, _, _, _, _, _, _, _, _, _, _, _, _, _, _ => none
  | n + 1, x0, x1, x2, x3, x4, x5, x6, x7, x8, x9, x10, x11, x12, x13, x14, x15, x16, x17, x18, x19, x20 => bif (ilt x0 (ofN (List.length x2))) then
    (bif (inb x0 (List.length x2)) then
     (Option.bind (F57 FUEL (List.getD x2 (Int.toNat x0) 0)) fun y4 =>
      bif (!y4) then
      (some false)
      else (bif (igt x0 (0)) then
       (bif (inb x0 (List.length x2)) then
        (bif (inb (isub .i64 x0 (1)) (List.length x2)) then
         (bif (ile (List.getD x2 (Int.toNat x0) 0) (List.getD x2 (Int.toNat (isub .i64 x0 (1))) 0)) then
          (some false)
          else (F24_c0 n (iadd .i64 x0 (1)) x1 x2 x3 x4 x5 x6 x7 x8 x9 x10 x11 x12 x13 x14 x15 x16 x17 x18 x19 x20))
         else (none))
        else (none))
       else (F24_c0 n (iadd .i64 x0 (1)) x1 x2 x3 x4 x5 x6 x7 x8 x9 x10 x11 x12 x13 x14 x15 x16 x17 x18 x19 x20)))
     else (none))
    else (F24_c1 n (0) x1 x2 x3 x4 x5 x6 x7 x8 x9 x10 x11 x12 x13 x14 x15 x16 x17 x18 x19 x20)
def F24_c1 : Nat → Int → Int → List (Int) → List (Int) → Int → Int → Int → Int → Int → Int → Int → Int → Int → Int → Int → Int → Int → Int → Int → Int → Int → Option (Bool)
  | 0, _, _, _, _, _, _, _, _, _, _, _, _, _, _, _, _, _, _, _, _, _ => none
  | n + 1, x0, x1, x2, x3, x4, x5, x6, x7, x8, x9, x10, x11, x12, x13, x14, x15, x16, x17, x18, x19, x20 => bif (ilt x0 (16)) then
    (bif (inb x0 16) then
     (bif (nlt (Int.toNat x0) 16) then
      (Option.bind (F59 FUEL x1 x2 x3 x4 x5 x6 x7 x8 x9 x10 x11 x12 x13 x14 x15 x16 x17 x18 x19 x20 (List.getD [x5, x6, x7, x8, x9, x10, x11, x12, x13, x14, x15, x16, x17, x18, x19, x20] (Int.toNat x0) 0)) fun y5 =>
       bif (!y5) then
       (some false)
       else (F24_c1 n (iadd .i64 x0 (1)) x1 x2 x3 x4 x5 x6 x7 x8 x9 x10 x11 x12 x13 x14 x15 x16 x17 x18 x19 x20))
      else (none))
     else (none))
    else (some true)
end
def F24 (n : Nat) (a0 : Int) (a1 : List (Int)) (a2 : List (Int)) (a3 : Int) (a4 : Int) (a5 : Int) (a6 : Int) (a7 : Int) (a8 : Int) (a9 : Int) (a10 : Int) (a11 : Int) (a12 : Int) (a13 : Int) (a14 : Int) (a15 : Int) (a16 : Int) (a17 : Int) (a18 : Int) (a19 : Int) : Option (Bool) :=
  Option.bind (F57 FUEL a0) fun y1 =>
  bif (!y1) then
  (some false)
  else (bif (ilt (ofN (List.length a1)) (2)) then
   (some false)
   else (bif (igt (ofN (List.length a1)) (4)) then
    (some false)
    else (Option.bind (F58 FUEL a0 a2) fun y2 =>
     bif (!y2) then
     (some false)
     else (Option.bind (F59 FUEL a0 a1 a2 a3 a4 a5 a6 a7 a8 a9 a10 a11 a12 a13 a14 a15 a16 a17 a18 a19 a3) fun y3 =>
      bif (!y3) then
      (some false)
      else (F24_c0 n (0) a0 a1 a2 a3 a4 a5 a6 a7 a8 a9 a10 a11 a12 a13 a14 a15 a16 a17 a18 a19)))))

/-! ### garland/garlandref13.New -/
structure Si19l where
  q0 : Int
  q1 : Int
  q2 : Int
  q3 : Int
  q4 : Int
  q5 : Int
  q6 : Int
  q7 : Int
  q8 : Int
  q9 : Int
  q10 : Int
  q11 : Int
  q12 : Int
  q13 : Int
  q14 : Int
  q15 : Int
  q16 : Int
  q17 : Int
  q18 : Int
  q19 : List (Int)
def F44_c0 : Nat → Int → Int → Int → Int → Int → Int → Int → Int → Int → Int → Int → Int → Int → Int → Int → Int → Int → Int → Int → Int → Int → Int → Int → Int → Int → Int → Int → Int → Int → Int → Int → Int → Int → Int → Int → Int → Int → List (Int) → Option (Si19l)
  | 0, _, _, _, _, _, _, _, _, _, _, _, _, _, _, _, _, _, _, _, _, _, _, _, _, _, _, _, _, _, _, _, _, _, _, _, _, _, _ => none
  | n + 1, x0, x1, x2, x3, x4, x5, x6, x7, x8, x9, x10, x11, x12, x13, x14, x15, x16, x17, x18, x19, x20, x21, x22, x23, x24, x25, x26, x27, x28, x29, x30, x31, x32, x33, x34, x35, x36, x37 => bif (ilt x0 (16)) then
    (bif (inb x0 16) then
     (bif (nlt (Int.toNat x0) 16) then
      (F44_c0 n (iadd .i64 x0 (1)) x1 x2 x3 x4 x5 x6 x7 x8 x9 x10 x11 x12 x13 x14 x15 x16 x17 x18 x19 x20 (List.getD (List.set [x21, x22, x23, x24, x25, x26, x27, x28, x29, x30, x31, x32, x33, x34, x35, x36] (Int.toNat x0) (-1)) 0 0) (List.getD (List.set [x21, x22, x23, x24, x25, x26, x27, x28, x29, x30, x31, x32, x33, x34, x35, x36] (Int.toNat x0) (-1)) 1 0) (List.getD (List.set [x21, x22, x23, x24, x25, x26, x27, x28, x29, x30, x31, x32, x33, x34, x35, x36] (Int.toNat x0) (-1)) 2 0) (List.getD (List.set [x21, x22, x23, x24, x25, x26, x27, x28, x29, x30, x31, x32, x33, x34, x35, x36] (Int.toNat x0) (-1)) 3 0) (List.getD (List.set [x21, x22, x23, x24, x25, x26, x27, x28, x29, x30, x31, x32, x33, x34, x35, x36] (Int.toNat x0) (-1)) 4 0) (List.getD (List.set [x21, x22, x23, x24, x25, x26, x27, x28, x29, x30, x31, x32, x33, x34, x35, x36] (Int.toNat x0) (-1)) 5 0) (List.getD (List.set [x21, x22, x23, x24, x25, x26, x27, x28, x29, x30, x31, x32, x33, x34, x35, x36] (Int.toNat x0) (-1)) 6 0) (List.getD (List.set [x21, x22, x23, x24, x25, x26, x27, x28, x29, x30, x31, x32, x33, x34, x35, x36] (Int.toNat x0) (-1)) 7 0) (List.getD (List.set [x21, x22, x23, x24, x25, x26, x27, x28, x29, x30, x31, x32, x33, x34, x35, x36] (Int.toNat x0) (-1)) 8 0) (List.getD (List.set [x21, x22, x23, x24, x25, x26, x27, x28, x29, x30, x31, x32, x33, x34, x35, x36] (Int.toNat x0) (-1)) 9 0) (List.getD (List.set [x21, x22, x23, x24, x25, x26, x27, x28, x29, x30, x31, x32, x33, x34, x35, x36] (Int.toNat x0) (-1)) 10 0) (List.getD (List.set [x21, x22, x23, x24, x25, x26, x27, x28, x29, x30, x31, x32, x33, x34, x35, x36] (Int.toNat x0) (-1)) 11 0) (List.getD (List.set [x21, x22, x23, x24, x25, x26, x27, x28, x29, x30, x31, x32, x33, x34, x35, x36] (Int.toNat x0) (-1)) 12 0) (List.getD (List.set [x21, x22, x23, x24, x25, x26, x27, x28, x29, x30, x31, x32, x33, x34, x35, x36] (Int.toNat x0) (-1)) 13 0) (List.getD (List.set [x21, x22, x23, x24, x25, x26, x27, x28, x29, x30, x31, x32, x33, x34, x35, x36] (Int.toNat x0) (-1)) 14 0) (List.getD (List.set [x21, x22, x23, x24, x25, x26, x27, x28, x29, x30, x31, x32, x33, x34, x35, x36] (Int.toNat x0) (-1)) 15 0) x37)
      else (none))
     else (none))
    else (Option.bind (F24 FUEL x19 x37 [] x20 x21 x22 x23 x24 x25 x26 x27 x28 x29 x30 x31 x32 x33 x34 x35 x36) fun y1 =>
     bif (!y1) then
     (some ⟨(0), (0), (0), (0), (0), (0), (0), (0), (0), (0), (0), (0), (0), (0), (0), (0), (0), (0), (2), []⟩)
     else (some ⟨x19, x20, x21, x22, x23, x24, x25, x26, x27, x28, x29, x30, x31, x32, x33, x34, x35, x36, (0), x37⟩))
def F44 (n : Nat) (a0 : Int) (a1 : List (Int)) : Option (Si19l) :=
  bif (room (0 + List.length a1) 8) then
  (F44_c0 n (0) (0) (0) (0) (0) (0) (0) (0) (0) (0) (0) (0) (0) (0) (0) (0) (0) (0) (0) a0 (-1) (0) (0) (0) (0) (0) (0) (0) (0) (0) (0) (0) (0) (0) (0) (0) (0) ([] ++ a1))
  else (none)

/-! ### garland/view.isPlace -/
def F71 (_n : Nat) (a0 : Int) : Option (Bool) :=
  bif (ige a0 (0)) then
  (some (ilt a0 (65536)))
  else (some false)

/-! ### garland/view.rightBase -/
def F72_c0 : Nat → List (Int) → List (Int) → Int → Int → Option (Bool)
  | 0, _, _, _, _ => none
  | n + 1, x0, x1, x2, x3 => bif (ilt x3 x2) then
    (bif (inb x3 (List.length x1)) then
     (Option.bind (F71 FUEL (List.getD x1 (Int.toNat x3) 0)) fun y1 =>
      bif (!y1) then
      (some false)
      else (bif (igt x3 (0)) then
       (bif (inb (isub .i64 x3 (1)) (List.length x0)) then
        (bif (ile (List.getD x1 (Int.toNat x3) 0) (List.getD x0 (Int.toNat (isub .i64 x3 (1))) 0)) then
         (some false)
         else (F72_c0 n x0 x1 x2 (iadd .i64 x3 (1))))
        else (none))
       else (F72_c0 n x0 x1 x2 (iadd .i64 x3 (1)))))
     else (none))
    else (some true)
def F72 (n : Nat) (a0 : List (Int)) : Option (Bool) :=
  bif (ilt (ofN (List.length a0)) (2)) then
  (some false)
  else (bif (igt (ofN (List.length a0)) (4)) then
   (some false)
   else (F72_c0 n a0 a0 (ofN (List.length a0)) (0)))

/-! ### garland/arc.Place -/
def F65 (_n : Nat) (a0 : Int) : Option (Int) :=
  some (bits .and .i64 a0 (65535))

/-! ### garland/list.isPlace -/
def F98 (_n : Nat) (a0 : Int) : Option (Bool) :=
  bif (ige a0 (0)) then
  (some (ilt a0 (65536)))
  else (some false)

/-! ### garland/arc.Far -/
def F79 (_n : Nat) (a0 : Int) (a1 : Int) : Option (Int) :=
  Option.bind (F65 FUEL a1) fun y1 =>
  Option.bind (F65 FUEL a0) fun y2 =>
  Option.bind (F65 FUEL (isub .i64 y1 y2)) fun y3 =>
  some y3

/-! ### garland/list.Right -/
def F73_c0 : Nat → Int → List (Int) → Int → Int → Int → Bool → Option (Bool)
  | 0, _, _, _, _, _, _ => none
  | n + 1, x0, x1, x2, x3, x4, x5 => bif (ilt x3 x2) then
    (bif (inb x3 (List.length x1)) then
     (Option.bind (F98 FUEL (List.getD x1 (Int.toNat x3) 0)) fun y2 =>
      bif (!y2) then
      (some false)
      else (Option.bind (F79 FUEL x4 (List.getD x1 (Int.toNat x3) 0)) fun y3 =>
       Option.bind (F79 FUEL x4 x0) fun y4 =>
       bif (ile y3 y4) then
       (some false)
       else (F73_c0 n (List.getD x1 (Int.toNat x3) 0) x1 x2 (iadd .i64 x3 (1)) x4 x5)))
     else (none))
    else (some true)
def F73 (n : Nat) (a0 : Int) (a1 : List (Int)) : Option (Bool) :=
  bif (igt (ofN (List.length a1)) (3)) then
  (some false)
  else (Option.bind (F65 FUEL a0) fun y1 =>
   F73_c0 n y1 a1 (ofN (List.length a1)) (0) y1 false)

/-! ### garland/view.Right -/
mutual
def F45_c0 : Nat → Option (Bool)
  | 0 => none
  | _ + 1 => some false
def F45_c1 : Nat → Int → Int → Int → Int → Int → Int → Int → Int → Int → Int → Int → Int → Int → Int → Int → Int → Int → Int → List (Int) → List (Int) → Int → Int → Int → Int → Int → Int → Int → Int → Int → Int → Int → Int → Int → Int → Int → Int → Int → Option (Bool)
  | 0, _, _, _, _, _, _, _, _, _, _, _, _, _, _, _, _, _, _, _, _, _, _, _, _, _, _, _, _, _, _, _, _, _, _, _, _, _ => none
  | n + 1, x0, x1, x2, x3, x4, x5, x6, x7, x8, x9, x10, x11, x12, x13, x14, x15, x16, x17, x18, x19, x20, x21, x22, x23, x24, x25, x26, x27, x28, x29, x30, x31, x32, x33, x34, x35, x36 => bif (ilt x16 (16)) then
    (bif (inb x16 16) then
     (bif (ine (List.getD [x0, x1, x2, x3, x4, x5, x6, x7, x8, x9, x10, x11, x12, x13, x14, x15] (Int.toNat x16) 0) (-1)) then
      (Option.bind (F71 FUEL (List.getD [x0, x1, x2, x3, x4, x5, x6, x7, x8, x9, x10, x11, x12, x13, x14, x15] (Int.toNat x16) 0)) fun y5 =>
       bif (!y5) then
       (F45_c0 n )
       else (bif (ieq (List.getD [x0, x1, x2, x3, x4, x5, x6, x7, x8, x9, x10, x11, x12, x13, x14, x15] (Int.toNat x16) 0) x17) then
        (F45_c0 n )
        else (F45_c1 n x0 x1 x2 x3 x4 x5 x6 x7 x8 x9 x10 x11 x12 x13 x14 x15 (iadd .i64 x16 (1)) x17 x18 x19 x20 x21 x22 x23 x24 x25 x26 x27 x28 x29 x30 x31 x32 x33 x34 x35 x36)))
      else (F45_c1 n x0 x1 x2 x3 x4 x5 x6 x7 x8 x9 x10 x11 x12 x13 x14 x15 (iadd .i64 x16 (1)) x17 x18 x19 x20 x21 x22 x23 x24 x25 x26 x27 x28 x29 x30 x31 x32 x33 x34 x35 x36))
     else (none))
    else (some true)
end
def F45 (n : Nat) (a0 : Int) (a1 : List (Int)) (a2 : List (Int)) (a3 : Int) (a4 : Int) (a5 : Int) (a6 : Int) (a7 : Int) (a8 : Int) (a9 : Int) (a10 : Int) (a11 : Int) (a12 : Int) (a13 : Int) (a14 : Int) (a15 : Int) (a16 : Int) (a17 : Int) (a18 : Int) (a19 : Int) : Option (Bool) :=
  Option.bind (F71 FUEL a0) fun y1 =>
  bif (!y1) then
  (F45_c0 n )
  else (Option.bind (F72 FUEL a1) fun y2 =>
   bif (!y2) then
   (F45_c0 n )
   else (Option.bind (F73 FUEL a0 a2) fun y3 =>
    bif (!y3) then
    (F45_c0 n )
    else (bif (ine a3 (-1)) then
     (Option.bind (F71 FUEL a3) fun y4 =>
      bif (!y4) then
      (F45_c0 n )
      else (bif (ieq a3 a0) then
       (F45_c0 n )
       else (F45_c1 n a4 a5 a6 a7 a8 a9 a10 a11 a12 a13 a14 a15 a16 a17 a18 a19 (0) a0 a1 a2 a3 a4 a5 a6 a7 a8 a9 a10 a11 a12 a13 a14 a15 a16 a17 a18 a19)))
     else (F45_c1 n a4 a5 a6 a7 a8 a9 a10 a11 a12 a13 a14 a15 a16 a17 a18 a19 (0) a0 a1 a2 a3 a4 a5 a6 a7 a8 a9 a10 a11 a12 a13 a14 a15 a16 a17 a18 a19))))

/-! ### garland/list.First -/
def F75_c0 : Nat → List (Int) → Int → Int → Int → Bool → Option (Int × Bool)
  | 0, _, _, _, _, _ => none
  | _ + 1, x0, x1, x2, _, _ => bif (ilt x2 x1) then
    (bif (inb x2 (List.length x0)) then
     (some ((List.getD x0 (Int.toNat x2) 0), true))
     else (none))
    else (some ((0), false))
def F75 (n : Nat) (a0 : List (Int)) : Option (Int × Bool) :=
  F75_c0 n a0 (ofN (List.length a0)) (0) (0) false

/-! ### garland/view.anchor -/
def F76_c0 : Nat → Int → List (Int) → Int → Int → Int → List (Int) → List (Int) → Int → Int → Int → Int → Int → Int → Int → Int → Int → Int → Int → Int → Int → Int → Int → Int → Int → Option (Int)
  | 0, _, _, _, _, _, _, _, _, _, _, _, _, _, _, _, _, _, _, _, _, _, _, _, _ => none
  | n + 1, x0, x1, x2, x3, x4, x5, x6, x7, x8, x9, x10, x11, x12, x13, x14, x15, x16, x17, x18, x19, x20, x21, x22, x23 => bif (ilt x3 x2) then
    (bif (inb x3 (List.length x1)) then
     (bif (ine (List.getD x1 (Int.toNat x3) 0) x4) then
      (bif (ilt x0 (0)) then
       (F76_c0 n (List.getD x1 (Int.toNat x3) 0) x1 x2 (iadd .i64 x3 (1)) x4 x5 x6 x7 x8 x9 x10 x11 x12 x13 x14 x15 x16 x17 x18 x19 x20 x21 x22 x23)
       else (Option.bind (F79 FUEL x4 (List.getD x1 (Int.toNat x3) 0)) fun y1 =>
        Option.bind (F79 FUEL x4 x0) fun y2 =>
        bif (ilt y1 y2) then
        (F76_c0 n (List.getD x1 (Int.toNat x3) 0) x1 x2 (iadd .i64 x3 (1)) x4 x5 x6 x7 x8 x9 x10 x11 x12 x13 x14 x15 x16 x17 x18 x19 x20 x21 x22 x23)
        else (F76_c0 n x0 x1 x2 (iadd .i64 x3 (1)) x4 x5 x6 x7 x8 x9 x10 x11 x12 x13 x14 x15 x16 x17 x18 x19 x20 x21 x22 x23)))
      else (F76_c0 n x0 x1 x2 (iadd .i64 x3 (1)) x4 x5 x6 x7 x8 x9 x10 x11 x12 x13 x14 x15 x16 x17 x18 x19 x20 x21 x22 x23))
     else (none))
    else (some x0)
def F76 (n : Nat) (a0 : Int) (a1 : List (Int)) (a2 : List (Int)) (a3 : Int) (a4 : Int) (a5 : Int) (a6 : Int) (a7 : Int) (a8 : Int) (a9 : Int) (a10 : Int) (a11 : Int) (a12 : Int) (a13 : Int) (a14 : Int) (a15 : Int) (a16 : Int) (a17 : Int) (a18 : Int) (a19 : Int) : Option (Int) :=
  F76_c0 n (-1) a1 (ofN (List.length a1)) (0) a0 a1 a2 a3 a4 a5 a6 a7 a8 a9 a10 a11 a12 a13 a14 a15 a16 a17 a18 a19

/-! ### garland/view.First -/
def F46 (_n : Nat) (a0 : Int) (a1 : List (Int)) (a2 : List (Int)) (a3 : Int) (a4 : Int) (a5 : Int) (a6 : Int) (a7 : Int) (a8 : Int) (a9 : Int) (a10 : Int) (a11 : Int) (a12 : Int) (a13 : Int) (a14 : Int) (a15 : Int) (a16 : Int) (a17 : Int) (a18 : Int) (a19 : Int) : Option (Int) :=
  Option.bind (F45 FUEL a0 a1 a2 a3 a4 a5 a6 a7 a8 a9 a10 a11 a12 a13 a14 a15 a16 a17 a18 a19) fun y1 =>
  bif (!y1) then
  (some (-1))
  else (Option.bind (F75 FUEL a2) fun y2 =>
   bif y2.2 then
   (some y2.1)
   else (Option.bind (F76 FUEL a0 a1 a2 a3 a4 a5 a6 a7 a8 a9 a10 a11 a12 a13 a14 a15 a16 a17 a18 a19) fun y3 =>
    some y3))

/-! ### garland/arc.In -/
def F77 (_n : Nat) (a0 : Int) (a1 : Int) (a2 : Int) : Option (Bool) :=
  Option.bind (F79 FUEL a0 a1) fun y1 =>
  Option.bind (F79 FUEL a0 a2) fun y2 =>
  bif (ieq y2 (0)) then
  (some (igt y1 (0)))
  else (bif (igt y1 (0)) then
   (some (ilt y1 y2))
   else (some false))

/-! ### garland/arc.UpTo -/
def F47 (_n : Nat) (a0 : Int) (a1 : Int) (a2 : Int) : Option (Bool) :=
  Option.bind (F77 FUEL a0 a1 a2) fun y1 =>
  bif y1 then
  (some true)
  else (Option.bind (F65 FUEL a1) fun y2 =>
   Option.bind (F65 FUEL a2) fun y3 =>
   some (ieq y2 y3))

/-! ### garland/hop.Next -/
mutual
def F15_c0 : Nat → List (Int) → Int → Int → Int → List (Int) → List (Int) → Int → Int → Int → Int → Int → Int → Int → Int → Int → Int → Int → Int → Int → Int → Int → Int → Int → Int → Int → Int → Option (Int × Bool)
  | 0, _, _, _, _, _, _, _, _, _, _, _, _, _, _, _, _, _, _, _, _, _, _, _, _, _, _ => none
  | n + 1, x0, x1, x2, x3, x4, x5, x6, x7, x8, x9, x10, x11, x12, x13, x14, x15, x16, x17, x18, x19, x20, x21, x22, x23, x24, x25 => bif (ilt x2 x1) then
    (bif (inb x2 (List.length x0)) then
     (Option.bind (F77 FUEL x24 (List.getD x0 (Int.toNat x2) 0) x25) fun y8 =>
      bif y8 then
      (Option.bind (F79 FUEL x24 (List.getD x0 (Int.toNat x2) 0)) fun y9 =>
       Option.bind (F79 FUEL x24 x23) fun y10 =>
       bif (igt y9 y10) then
       (F15_c0 n x0 x1 (iadd .i64 x2 (1)) x3 x4 x5 x6 x7 x8 x9 x10 x11 x12 x13 x14 x15 x16 x17 x18 x19 x20 x21 x22 (List.getD x0 (Int.toNat x2) 0) x24 x25)
       else (F15_c0 n x0 x1 (iadd .i64 x2 (1)) x3 x4 x5 x6 x7 x8 x9 x10 x11 x12 x13 x14 x15 x16 x17 x18 x19 x20 x21 x22 x23 x24 x25))
      else (F15_c0 n x0 x1 (iadd .i64 x2 (1)) x3 x4 x5 x6 x7 x8 x9 x10 x11 x12 x13 x14 x15 x16 x17 x18 x19 x20 x21 x22 x23 x24 x25))
     else (none))
    else (F15_c1 n x7 x8 x9 x10 x11 x12 x13 x14 x15 x16 x17 x18 x19 x20 x21 x22 (0) x23 x24 x25)
def F15_c1 : Nat → Int → Int → Int → Int → Int → Int → Int → Int → Int → Int → Int → Int → Int → Int → Int → Int → Int → Int → Int → Int → Option (Int × Bool)
  | 0, _, _, _, _, _, _, _, _, _, _, _, _, _, _, _, _, _, _, _, _ => none
  | n + 1, x0, x1, x2, x3, x4, x5, x6, x7, x8, x9, x10, x11, x12, x13, x14, x15, x16, x17, x18, x19 => bif (ilt x16 (16)) then
    (bif (inb x16 16) then
     (bif (ine (List.getD [x0, x1, x2, x3, x4, x5, x6, x7, x8, x9, x10, x11, x12, x13, x14, x15] (Int.toNat x16) 0) (-1)) then
      (Option.bind (F77 FUEL x18 (List.getD [x0, x1, x2, x3, x4, x5, x6, x7, x8, x9, x10, x11, x12, x13, x14, x15] (Int.toNat x16) 0) x19) fun y11 =>
       bif y11 then
       (Option.bind (F79 FUEL x18 (List.getD [x0, x1, x2, x3, x4, x5, x6, x7, x8, x9, x10, x11, x12, x13, x14, x15] (Int.toNat x16) 0)) fun y12 =>
        Option.bind (F79 FUEL x18 x17) fun y13 =>
        bif (igt y12 y13) then
        (F15_c1 n x0 x1 x2 x3 x4 x5 x6 x7 x8 x9 x10 x11 x12 x13 x14 x15 (iadd .i64 x16 (1)) (List.getD [x0, x1, x2, x3, x4, x5, x6, x7, x8, x9, x10, x11, x12, x13, x14, x15] (Int.toNat x16) 0) x18 x19)
        else (F15_c1 n x0 x1 x2 x3 x4 x5 x6 x7 x8 x9 x10 x11 x12 x13 x14 x15 (iadd .i64 x16 (1)) x17 x18 x19))
       else (F15_c1 n x0 x1 x2 x3 x4 x5 x6 x7 x8 x9 x10 x11 x12 x13 x14 x15 (iadd .i64 x16 (1)) x17 x18 x19))
      else (F15_c1 n x0 x1 x2 x3 x4 x5 x6 x7 x8 x9 x10 x11 x12 x13 x14 x15 (iadd .i64 x16 (1)) x17 x18 x19))
     else (none))
    else (some (x17, false))
end
def F15 (n : Nat) (a0 : Int) (a1 : List (Int)) (a2 : List (Int)) (a3 : Int) (a4 : Int) (a5 : Int) (a6 : Int) (a7 : Int) (a8 : Int) (a9 : Int) (a10 : Int) (a11 : Int) (a12 : Int) (a13 : Int) (a14 : Int) (a15 : Int) (a16 : Int) (a17 : Int) (a18 : Int) (a19 : Int) (a20 : Int) (a21 : Bool) : Option (Int × Bool) :=
  Option.bind (F45 FUEL a0 a1 a2 a3 a4 a5 a6 a7 a8 a9 a10 a11 a12 a13 a14 a15 a16 a17 a18 a19) fun y1 =>
  bif (!y1) then
  (some ((-1), false))
  else (Option.bind (F46 FUEL a0 a1 a2 a3 a4 a5 a6 a7 a8 a9 a10 a11 a12 a13 a14 a15 a16 a17 a18 a19) fun y2 =>
   Option.bind (F47 FUEL a0 a20 y2) fun y3 =>
   bif y3 then
   (some (y2, true))
   else (bif a21 then
    (some (y2, false))
    else (Option.bind (F46 FUEL a0 a1 a2 a3 a4 a5 a6 a7 a8 a9 a10 a11 a12 a13 a14 a15 a16 a17 a18 a19) fun y4 =>
     Option.bind (F77 FUEL a0 y4 a20) fun y5 =>
     bif y5 then
     (Option.bind (F79 FUEL a0 y4) fun y6 =>
      Option.bind (F79 FUEL a0 y2) fun y7 =>
      bif (igt y6 y7) then
      (F15_c0 n a2 (ofN (List.length a2)) (0) a0 a1 a2 a3 a4 a5 a6 a7 a8 a9 a10 a11 a12 a13 a14 a15 a16 a17 a18 a19 y4 a0 a20)
      else (F15_c0 n a2 (ofN (List.length a2)) (0) a0 a1 a2 a3 a4 a5 a6 a7 a8 a9 a10 a11 a12 a13 a14 a15 a16 a17 a18 a19 y2 a0 a20))
     else (F15_c0 n a2 (ofN (List.length a2)) (0) a0 a1 a2 a3 a4 a5 a6 a7 a8 a9 a10 a11 a12 a13 a14 a15 a16 a17 a18 a19 y2 a0 a20))))

/-! ### garland/look.Begin -/
structure Si3b2i where
  q0 : Int
  q1 : Int
  q2 : Int
  q3 : Bool
  q4 : Bool
  q5 : Int
def F33 (_n : Nat) (a0 : Int) (a1 : List (Int)) (a2 : List (Int)) (a3 : Int) (a4 : Int) (a5 : Int) (a6 : Int) (a7 : Int) (a8 : Int) (a9 : Int) (a10 : Int) (a11 : Int) (a12 : Int) (a13 : Int) (a14 : Int) (a15 : Int) (a16 : Int) (a17 : Int) (a18 : Int) (a19 : Int) (a20 : Int) : Option (Si3b2i) :=
  Option.bind (F45 FUEL a0 a1 a2 a3 a4 a5 a6 a7 a8 a9 a10 a11 a12 a13 a14 a15 a16 a17 a18 a19) fun y1 =>
  bif (!y1) then
  (some ⟨(0), (0), (0), false, false, (0)⟩)
  else (Option.bind (F65 FUEL a20) fun y2 =>
   Option.bind (F15 FUEL a0 a1 a2 a3 a4 a5 a6 a7 a8 a9 a10 a11 a12 a13 a14 a15 a16 a17 a18 a19 y2 false) fun y3 =>
   some ⟨y2, y3.1, (0), false, y3.2, (0)⟩)

/-! ### garland/look.Over -/
def F41 (_n : Nat) (_a0 : Int) (_a1 : Int) (_a2 : Int) (_a3 : Bool) (a4 : Bool) (a5 : Int) : Option (Bool) :=
  bif a4 then
  (some true)
  else (some (ine a5 (0)))

/-! ### garland/look.isPlace -/
def F70 (_n : Nat) (a0 : Int) : Option (Bool) :=
  bif (ige a0 (0)) then
  (some (ilt a0 (65536)))
  else (some false)

/-! ### garland/look.Right -/
def F39 (_n : Nat) (a0 : Int) (a1 : Int) (a2 : Int) (_a3 : Bool) (a4 : Bool) (a5 : Int) : Option (Bool) :=
  Option.bind (F70 FUEL a0) fun y1 =>
  bif (!y1) then
  (some false)
  else (Option.bind (F70 FUEL a1) fun y2 =>
   bif (!y2) then
   (some false)
   else (bif (ilt a2 (0)) then
    (some false)
    else (bif (igt a2 (41)) then
     (some false)
     else (bif (igt a2 (40)) then
      (bif (ieq a5 (211)) then
       (some (!a4))
       else (some false))
      else (some (ieq a5 (0)))))))

/-! ### garland/look.Ask -/
structure Si5b2i2si2bib where
  q0 : Int
  q1 : Int
  q2 : Int
  q3 : Int
  q4 : Int
  q5 : Bool
  q6 : Bool
  q7 : Int
  q8 : Int
  q9 : ByteArray
  q10 : Int
  q11 : Int
  q12 : Bool
  q13 : Int
  q14 : Bool
def F31 (_n : Nat) (a0 : Int) (a1 : Int) (a2 : Int) (a3 : Bool) (a4 : Bool) (a5 : Int) : Option (Si5b2i2si2bib) :=
  Option.bind (F41 FUEL a0 a1 a2 a3 a4 a5) fun y1 =>
  bif y1 then
  (some ⟨(0), (0), (0), (0), (0), false, false, (0), (0), ByteArray.empty, (0), (0), false, (0), false⟩)
  else (Option.bind (F39 FUEL a0 a1 a2 a3 a4 a5) fun y2 =>
   bif (!y2) then
   (some ⟨(0), (0), (0), (0), (0), false, false, (0), (0), ByteArray.empty, (0), (0), false, (0), false⟩)
   else (some ⟨(4), (0), (0), a1, a0, a3, false, (0), (0), ByteArray.empty, (0), (0), false, (0), true⟩))

/-! ### garland/garlandlaw18.tell -/
structure Si5b2i2si2bi where
  q0 : Int
  q1 : Int
  q2 : Int
  q3 : Int
  q4 : Int
  q5 : Bool
  q6 : Bool
  q7 : Int
  q8 : Int
  q9 : ByteArray
  q10 : Int
  q11 : Int
  q12 : Bool
  q13 : Int
def F43 (_n : Nat) (a0 : Int) (a1 : Int) (a2 : Int) (a3 : Bool) : Option (Si5b2i2si2bi) :=
  some ⟨(10), (iadd .i64 (imul .i64 a1 (1048576)) (1)), a0, a1, (0), false, a3, a2, (0), ByteArray.empty, (0), (0), false, (0)⟩

/-! ### garland/msg.isKey -/
def F102 (_n : Nat) (a0 : ByteArray) : Option (Bool) :=
  bif (ige (stlen a0) (1)) then
  (some (ile (stlen a0) (20)))
  else (some false)

/-! ### garland/msg.isValue -/
def F108 (_n : Nat) (a0 : Int) : Option (Bool) :=
  bif (ige a0 (0)) then
  (some (ile a0 (1048576)))
  else (some false)

/-! ### garland/msg.Pair -/
def F101 (_n : Nat) (a0 : ByteArray) (a1 : Int) (a2 : Int) (_a3 : Bool) : Option (Bool) :=
  Option.bind (F102 FUEL a0) fun y1 =>
  bif y1 then
  (Option.bind (F108 FUEL a1) fun y2 =>
   bif y2 then
   (Option.bind (F108 FUEL a2) fun y3 =>
    some y3)
   else (some false))
  else (some false)

/-! ### slices.Index[[]int,int] -/
def F110_c0 : Nat → List (Int) → Int → Int → Int → Option (Int)
  | 0, _, _, _, _ => none
  | n + 1, x0, x1, x2, x3 => bif (ilt x3 x2) then
    (bif (inb x3 (List.length x0)) then
     (bif (ieq x1 (List.getD x0 (Int.toNat x3) 0)) then
      (some x3)
      else (F110_c0 n x0 x1 x2 (iadd .i64 x3 (1))))
     else (none))
    else (some (-1))
def F110 (n : Nat) (a0 : List (Int)) (a1 : Int) : Option (Int) :=
  F110_c0 n a0 a1 (ofN (List.length a0)) (0)

/-! ### slices.Contains[[]int,int] -/
def F109 (_n : Nat) (a0 : List (Int)) (a1 : Int) : Option (Bool) :=
  Option.bind (F110 FUEL a0 a1) fun y1 =>
  some (ige y1 (0))

/-! ### garland/msg.apart -/
def F103_c0 : Nat → Int → List (Int) → List (Int) → Int → Int → Option (Bool)
  | 0, _, _, _, _, _ => none
  | n + 1, x0, x1, x2, x3, x4 => bif (ilt x4 x3) then
    (bif (inb x4 (List.length x2)) then
     (bif (ieq (List.getD x2 (Int.toNat x4) 0) x0) then
      (some false)
      else (bif ((inn x4) && (inbs 0 (Int.toNat x4) (List.length x1))) then
       (Option.bind (F109 FUEL (List.drop 0 (List.take (Int.toNat x4) x1)) (List.getD x2 (Int.toNat x4) 0)) fun y1 =>
        bif y1 then
        (some false)
        else (F103_c0 n x0 x1 x2 x3 (iadd .i64 x4 (1))))
       else (none)))
     else (none))
    else (some true)
def F103 (n : Nat) (a0 : Int) (a1 : List (Int)) : Option (Bool) :=
  F103_c0 n a0 a1 a1 (ofN (List.length a1)) (0)

/-! ### garland/msg.holds -/
def F81 (_n : Nat) (a0 : Int) (_a1 : Int) (a2 : Int) (_a3 : Int) (_a4 : Int) (_a5 : Bool) (_a6 : Bool) (_a7 : Int) (_a8 : Int) (a9 : List (Int)) (a10 : ByteArray) (a11 : Int) (a12 : Int) (a13 : Bool) (a14 : Int) : Option (Bool) :=
  bif (ieq a0 (5)) then
  (Option.bind (F101 FUEL a10 a11 a12 a13) fun y1 =>
   some y1)
  else (bif (ieq a0 (6)) then
   (Option.bind (F102 FUEL a10) fun y2 =>
    some y2)
   else (bif (ieq a0 (7)) then
    (bif (ile (ofN (List.length a9)) (3)) then
     (Option.bind (F103 FUEL a2 a9) fun y3 =>
      some y3)
     else (some false))
    else (bif (ieq a0 (11)) then
     (bif (ieq a14 (0)) then
      (some true)
      else (some (ieq a14 (200))))
     else (bif (ieq a0 (12)) then
      (bif (ieq a14 (0)) then
       (Option.bind (F101 FUEL a10 a11 a12 a13) fun y4 =>
        bif y4 then
        (some true)
        else (bif (ieq a14 (201)) then
         (some ((steq a10 ByteArray.empty) && ((ieq a11 (0)) && ((ieq a12 (0)) && ((beqb a13 false) && true)))))
         else (some false)))
       else (bif (ieq a14 (201)) then
        (some ((steq a10 ByteArray.empty) && ((ieq a11 (0)) && ((ieq a12 (0)) && ((beqb a13 false) && true)))))
        else (some false)))
      else (some true)))))

/-! ### garland/msg.isPlace -/
def F83 (_n : Nat) (a0 : Int) : Option (Bool) :=
  bif (ige a0 (0)) then
  (some (ilt a0 (65536)))
  else (some false)

/-! ### garland/msg.Asks -/
def F88 (_n : Nat) (a0 : Int) (_a1 : Int) (_a2 : Int) (_a3 : Int) (_a4 : Int) (_a5 : Bool) (_a6 : Bool) (_a7 : Int) (_a8 : Int) (_a9 : List (Int)) (_a10 : ByteArray) (_a11 : Int) (_a12 : Int) (_a13 : Bool) (_a14 : Int) : Option (Bool) :=
  bif (ige a0 (1)) then
  (some (ile a0 (6)))
  else (some false)

/-! ### garland/msg.Asker -/
def F85 (_n : Nat) (a0 : Int) (a1 : Int) (a2 : Int) (a3 : Int) (a4 : Int) (a5 : Bool) (a6 : Bool) (a7 : Int) (a8 : Int) (a9 : List (Int)) (a10 : ByteArray) (a11 : Int) (a12 : Int) (a13 : Bool) (a14 : Int) : Option (Int) :=
  Option.bind (F88 FUEL a0 a1 a2 a3 a4 a5 a6 a7 a8 a9 a10 a11 a12 a13 a14) fun y1 =>
  bif y1 then
  (some a2)
  else (some a3)

/-! ### garland/msg.isCall -/
def F84 (_n : Nat) (a0 : Int) (a1 : Int) : Option (Bool) :=
  bif (igt a1 (imul .i64 a0 (1048576))) then
  (some (ile a1 (imul .i64 (iadd .i64 a0 (1)) (1048576))))
  else (some false)

/-! ### garland/msg.beside -/
structure Sbi5b2i2si2bi where
  q0 : Bool
  q1 : Int
  q2 : Int
  q3 : Int
  q4 : Int
  q5 : Int
  q6 : Bool
  q7 : Bool
  q8 : Int
  q9 : Int
  q10 : ByteArray
  q11 : Int
  q12 : Int
  q13 : Bool
  q14 : Int
def F87 (_n : Nat) (a0 : Int) (_a1 : Int) (_a2 : Int) (_a3 : Int) (a4 : Int) (a5 : Bool) (a6 : Bool) (a7 : Int) (a8 : Int) (a9 : ByteArray) (a10 : Int) (a11 : Int) (a12 : Bool) (a13 : Int) : Option (Sbi5b2i2si2bi) :=
  bif (ieq a0 (4)) then
  (some ⟨true, (0), (0), (0), (0), (0), false, a6, a7, a8, a9, a10, a11, a12, a13⟩)
  else (bif (ieq a0 (5)) then
   (some ⟨true, (0), (0), (0), (0), a4, a5, a6, a7, a8, ByteArray.empty, (0), (0), false, a13⟩)
   else (bif (ieq a0 (6)) then
    (some ⟨true, (0), (0), (0), (0), a4, a5, a6, a7, a8, ByteArray.empty, a10, a11, a12, a13⟩)
    else (bif (ieq a0 (7)) then
     (some ⟨false, (0), (0), (0), (0), a4, a5, a6, a7, (0), a9, a10, a11, a12, a13⟩)
     else (bif (ieq a0 (10)) then
      (some ⟨true, (0), (0), (0), (0), a4, a5, false, (0), a8, a9, a10, a11, a12, a13⟩)
      else (bif (ieq a0 (11)) then
       (some ⟨true, (0), (0), (0), (0), a4, a5, a6, a7, a8, a9, a10, a11, a12, (0)⟩)
       else (bif (ieq a0 (12)) then
        (some ⟨true, (0), (0), (0), (0), a4, a5, a6, a7, a8, ByteArray.empty, (0), (0), false, (0)⟩)
        else (some ⟨true, (0), (0), (0), (0), a4, a5, a6, a7, a8, a9, a10, a11, a12, a13⟩)))))))

/-! ### slices.Equal[[]int,int] -/
def F105_c0 : Nat → List (Int) → List (Int) → Int → Int → Option (Bool)
  | 0, _, _, _, _ => none
  | n + 1, x0, x1, x2, x3 => bif (ilt x3 x2) then
    (bif (inb x3 (List.length x0)) then
     (bif (inb x3 (List.length x1)) then
      (bif (ine (List.getD x0 (Int.toNat x3) 0) (List.getD x1 (Int.toNat x3) 0)) then
       (some false)
       else (F105_c0 n x0 x1 x2 (iadd .i64 x3 (1))))
      else (none))
     else (none))
    else (some true)
def F105 (n : Nat) (a0 : List (Int)) (a1 : List (Int)) : Option (Bool) :=
  bif (ine (ofN (List.length a0)) (ofN (List.length a1))) then
  (some false)
  else (F105_c0 n a0 a1 (ofN (List.length a0)) (0))

/-! ### garland/msg.Same -/
def F86 (_n : Nat) (a0 : Int) (a1 : Int) (a2 : Int) (a3 : Int) (a4 : Int) (a5 : Bool) (a6 : Bool) (a7 : Int) (a8 : Int) (a9 : List (Int)) (a10 : ByteArray) (a11 : Int) (a12 : Int) (a13 : Bool) (a14 : Int) (a15 : Int) (a16 : Int) (a17 : Int) (a18 : Int) (a19 : Int) (a20 : Bool) (a21 : Bool) (a22 : Int) (a23 : Int) (a24 : List (Int)) (a25 : ByteArray) (a26 : Int) (a27 : Int) (a28 : Bool) (a29 : Int) : Option (Bool) :=
  bif (ieq a0 a15) then
  (bif (ieq a1 a16) then
   (bif (ieq a2 a17) then
    (bif (ieq a3 a18) then
     (bif (ieq a4 a19) then
      (bif (beqb a5 a20) then
       (bif (beqb a6 a21) then
        (bif (ieq a7 a22) then
         (bif (ieq a8 a23) then
          (Option.bind (F105 FUEL a9 a24) fun y1 =>
           bif y1 then
           (bif ((steq a10 a25) && ((ieq a11 a26) && ((ieq a12 a27) && ((beqb a13 a28) && true)))) then
            (some (ieq a14 a29))
            else (some false))
           else (some false))
          else (some false))
         else (some false))
        else (some false))
       else (some false))
      else (some false))
     else (some false))
    else (some false))
   else (some false))
  else (some false)

/-! ### garland/msg.Right -/
mutual
def F54_c0 : Nat → Option (Bool)
  | 0 => none
  | _ + 1 => some false
def F54_c1 : Nat → List (Int) → Int → Int → Int → Int → Int → Int → Int → Bool → Bool → Int → Int → List (Int) → ByteArray → Int → Int → Bool → Int → Option (Bool)
  | 0, _, _, _, _, _, _, _, _, _, _, _, _, _, _, _, _, _, _ => none
  | n + 1, x0, x1, x2, x3, x4, x5, x6, x7, x8, x9, x10, x11, x12, x13, x14, x15, x16, x17 => bif (ilt x2 x1) then
    (bif (inb x2 (List.length x0)) then
     (Option.bind (F83 FUEL (List.getD x0 (Int.toNat x2) 0)) fun y22 =>
      bif (!y22) then
      (F54_c0 n )
      else (F54_c1 n x0 x1 (iadd .i64 x2 (1)) x3 x4 x5 x6 x7 x8 x9 x10 x11 x12 x13 x14 x15 x16 x17))
     else (none))
    else (bif (ieq x5 x6) then
     (F54_c0 n )
     else (Option.bind (F85 FUEL x3 x4 x5 x6 x7 x8 x9 x10 x11 x12 x13 x14 x15 x16 x17) fun y23 =>
      Option.bind (F84 FUEL y23 x4) fun y24 =>
      bif (!y24) then
      (F54_c0 n )
      else (Option.bind (F87 FUEL x3 x4 x5 x6 x7 x8 x9 x10 x11 x13 x14 x15 x16 x17) fun y25 =>
       bif y25.q0 then
       (Option.bind (F86 FUEL y25.q1 y25.q2 y25.q3 y25.q4 y25.q5 y25.q6 y25.q7 y25.q8 y25.q9 x12 y25.q10 y25.q11 y25.q12 y25.q13 y25.q14 (0) (0) (0) (0) (0) false false (0) (0) [] ByteArray.empty (0) (0) false (0)) fun y26 =>
        some y26)
       else (Option.bind (F86 FUEL y25.q1 y25.q2 y25.q3 y25.q4 y25.q5 y25.q6 y25.q7 y25.q8 y25.q9 [] y25.q10 y25.q11 y25.q12 y25.q13 y25.q14 (0) (0) (0) (0) (0) false false (0) (0) [] ByteArray.empty (0) (0) false (0)) fun y27 =>
        some y27))))
end
def F54 (n : Nat) (a0 : Int) (a1 : Int) (a2 : Int) (a3 : Int) (a4 : Int) (a5 : Bool) (a6 : Bool) (a7 : Int) (a8 : Int) (a9 : List (Int)) (a10 : ByteArray) (a11 : Int) (a12 : Int) (a13 : Bool) (a14 : Int) : Option (Bool) :=
  bif (ilt a0 (1)) then
  (F54_c0 n )
  else (bif (ige a0 (13)) then
   (F54_c0 n )
   else (Option.bind (F81 FUEL a0 a1 a2 a3 a4 a5 a6 a7 a8 a9 a10 a11 a12 a13 a14) fun y1 =>
    bif (!y1) then
    (F54_c0 n )
    else (Option.bind (F83 FUEL a2) fun y2 =>
     bif (!y2) then
     (F54_c0 n )
     else (Option.bind (F83 FUEL a3) fun y3 =>
      bif (!y3) then
      (F54_c0 n )
      else (bif (ieq a0 (4)) then
       (Option.bind (F83 FUEL a4) fun y4 =>
        bif (!y4) then
        (F54_c0 n )
        else (bif (ieq a2 a3) then
         (F54_c0 n )
         else (Option.bind (F85 FUEL a0 a1 a2 a3 a4 a5 a6 a7 a8 a9 a10 a11 a12 a13 a14) fun y5 =>
          Option.bind (F84 FUEL y5 a1) fun y6 =>
          bif (!y6) then
          (F54_c0 n )
          else (Option.bind (F87 FUEL a0 a1 a2 a3 a4 a5 a6 a7 a8 a10 a11 a12 a13 a14) fun y7 =>
           bif y7.q0 then
           (Option.bind (F86 FUEL y7.q1 y7.q2 y7.q3 y7.q4 y7.q5 y7.q6 y7.q7 y7.q8 y7.q9 a9 y7.q10 y7.q11 y7.q12 y7.q13 y7.q14 (0) (0) (0) (0) (0) false false (0) (0) [] ByteArray.empty (0) (0) false (0)) fun y8 =>
            some y8)
           else (Option.bind (F86 FUEL y7.q1 y7.q2 y7.q3 y7.q4 y7.q5 y7.q6 y7.q7 y7.q8 y7.q9 [] y7.q10 y7.q11 y7.q12 y7.q13 y7.q14 (0) (0) (0) (0) (0) false false (0) (0) [] ByteArray.empty (0) (0) false (0)) fun y9 =>
            some y9)))))
       else (bif (ieq a0 (10)) then
        (Option.bind (F83 FUEL a7) fun y10 =>
         bif (!y10) then
         (F54_c0 n )
         else (bif (ieq a2 a3) then
          (F54_c0 n )
          else (Option.bind (F85 FUEL a0 a1 a2 a3 a4 a5 a6 a7 a8 a9 a10 a11 a12 a13 a14) fun y11 =>
           Option.bind (F84 FUEL y11 a1) fun y12 =>
           bif (!y12) then
           (F54_c0 n )
           else (Option.bind (F87 FUEL a0 a1 a2 a3 a4 a5 a6 a7 a8 a10 a11 a12 a13 a14) fun y13 =>
            bif y13.q0 then
            (Option.bind (F86 FUEL y13.q1 y13.q2 y13.q3 y13.q4 y13.q5 y13.q6 y13.q7 y13.q8 y13.q9 a9 y13.q10 y13.q11 y13.q12 y13.q13 y13.q14 (0) (0) (0) (0) (0) false false (0) (0) [] ByteArray.empty (0) (0) false (0)) fun y14 =>
             some y14)
            else (Option.bind (F86 FUEL y13.q1 y13.q2 y13.q3 y13.q4 y13.q5 y13.q6 y13.q7 y13.q8 y13.q9 [] y13.q10 y13.q11 y13.q12 y13.q13 y13.q14 (0) (0) (0) (0) (0) false false (0) (0) [] ByteArray.empty (0) (0) false (0)) fun y15 =>
             some y15)))))
        else (bif (ieq a0 (7)) then
         (bif (ine a8 (-1)) then
          (Option.bind (F83 FUEL a8) fun y16 =>
           bif (!y16) then
           (F54_c0 n )
           else (F54_c1 n a9 (ofN (List.length a9)) (0) a0 a1 a2 a3 a4 a5 a6 a7 a8 a9 a10 a11 a12 a13 a14))
          else (F54_c1 n a9 (ofN (List.length a9)) (0) a0 a1 a2 a3 a4 a5 a6 a7 a8 a9 a10 a11 a12 a13 a14))
         else (bif (ieq a2 a3) then
          (F54_c0 n )
          else (Option.bind (F85 FUEL a0 a1 a2 a3 a4 a5 a6 a7 a8 a9 a10 a11 a12 a13 a14) fun y17 =>
           Option.bind (F84 FUEL y17 a1) fun y18 =>
           bif (!y18) then
           (F54_c0 n )
           else (Option.bind (F87 FUEL a0 a1 a2 a3 a4 a5 a6 a7 a8 a10 a11 a12 a13 a14) fun y19 =>
            bif y19.q0 then
            (Option.bind (F86 FUEL y19.q1 y19.q2 y19.q3 y19.q4 y19.q5 y19.q6 y19.q7 y19.q8 y19.q9 a9 y19.q10 y19.q11 y19.q12 y19.q13 y19.q14 (0) (0) (0) (0) (0) false false (0) (0) [] ByteArray.empty (0) (0) false (0)) fun y20 =>
             some y20)
            else (Option.bind (F86 FUEL y19.q1 y19.q2 y19.q3 y19.q4 y19.q5 y19.q6 y19.q7 y19.q8 y19.q9 [] y19.q10 y19.q11 y19.q12 y19.q13 y19.q14 (0) (0) (0) (0) (0) false false (0) (0) [] ByteArray.empty (0) (0) false (0)) fun y21 =>
             some y21)))))))))))

/-! ### garland/look.hopped -/
structure Si3b2ib where
  q0 : Int
  q1 : Int
  q2 : Int
  q3 : Bool
  q4 : Bool
  q5 : Int
  q6 : Bool
def F69 (_n : Nat) (a0 : Int) (a1 : Int) (a2 : Int) (a3 : Bool) (a4 : Bool) (a5 : Int) : Option (Si3b2ib) :=
  bif (igt (iadd .i64 a2 (1)) (40)) then
  (some ⟨a0, a1, (iadd .i64 a2 (1)), a3, a4, (211), false⟩)
  else (some ⟨a0, a1, (iadd .i64 a2 (1)), a3, a4, a5, true⟩)

/-! ### garland/look.Told -/
def F35_c0 : Nat → Int → Int → Int → Bool → Bool → Int → Int → Int → Int → Bool → Bool → Int → Option (Si3b2i)
  | 0, _, _, _, _, _, _, _, _, _, _, _, _ => none
  | _ + 1, x0, x1, x2, x3, x4, x5, _, _, _, _, _, _ => some ⟨x0, x1, x2, x3, x4, x5⟩
def F35 (n : Nat) (a0 : Int) (a1 : List (Int)) (a2 : List (Int)) (a3 : Int) (a4 : Int) (a5 : Int) (a6 : Int) (a7 : Int) (a8 : Int) (a9 : Int) (a10 : Int) (a11 : Int) (a12 : Int) (a13 : Int) (a14 : Int) (a15 : Int) (a16 : Int) (a17 : Int) (a18 : Int) (a19 : Int) (a20 : Int) (a21 : Int) (a22 : Int) (a23 : Bool) (a24 : Bool) (a25 : Int) (a26 : Int) (a27 : Int) (a28 : Int) (a29 : Int) (a30 : Int) (a31 : Bool) (a32 : Bool) (a33 : Int) (a34 : Int) (a35 : List (Int)) (a36 : ByteArray) (a37 : Int) (a38 : Int) (a39 : Bool) (a40 : Int) : Option (Si3b2i) :=
  Option.bind (F45 FUEL a0 a1 a2 a3 a4 a5 a6 a7 a8 a9 a10 a11 a12 a13 a14 a15 a16 a17 a18 a19) fun y1 =>
  bif (!y1) then
  (F35_c0 n a20 a21 a22 a23 a24 a25 (0) (0) (0) false false (0))
  else (Option.bind (F39 FUEL a20 a21 a22 a23 a24 a25) fun y2 =>
   bif (!y2) then
   (F35_c0 n a20 a21 a22 a23 a24 a25 (0) (0) (0) false false (0))
   else (Option.bind (F41 FUEL a20 a21 a22 a23 a24 a25) fun y3 =>
    bif y3 then
    (F35_c0 n a20 a21 a22 a23 a24 a25 (0) (0) (0) false false (0))
    else (bif (ine a26 (10)) then
     (some ⟨a20, a21, a22, a23, a24, a25⟩)
     else (bif (ine a28 a21) then
      (some ⟨a20, a21, a22, a23, a24, a25⟩)
      else (bif (ine a29 a0) then
       (some ⟨a20, a21, a22, a23, a24, a25⟩)
       else (Option.bind (F54 FUEL a26 a27 a28 a29 a30 a31 a32 a33 a34 a35 a36 a37 a38 a39 a40) fun y4 =>
        bif (!y4) then
        (some ⟨a20, a21, a22, a23, a24, a25⟩)
        else (Option.bind (F69 FUEL a20 a21 a22 a23 a24 a25) fun y5 =>
         bif (!y5.q6) then
         (F35_c0 n y5.q0 y5.q1 y5.q2 y5.q3 y5.q4 y5.q5 (0) (0) (0) false false (0))
         else (bif (ieq a33 a0) then
          (bif (!a32) then
           (Option.bind (F15 FUEL a0 a1 a2 a3 a4 a5 a6 a7 a8 a9 a10 a11 a12 a13 a14 a15 a16 a17 a18 a19 y5.q0 y5.q3) fun y6 =>
            some ⟨y5.q0, y6.1, y5.q2, y5.q3, y6.2, y5.q5⟩)
           else (some ⟨y5.q0, a33, y5.q2, y5.q3, a32, y5.q5⟩))
          else (some ⟨y5.q0, a33, y5.q2, y5.q3, a32, y5.q5⟩)))))))))

/-! ### garland/look.Again -/
def F37_c0 : Nat → Int → Int → Int → Bool → Bool → Int → Int → Int → Int → Bool → Bool → Int → Option (Si3b2i)
  | 0, _, _, _, _, _, _, _, _, _, _, _, _ => none
  | _ + 1, x0, x1, x2, x3, x4, x5, _, _, _, _, _, _ => some ⟨x0, x1, x2, x3, x4, x5⟩
def F37 (n : Nat) (a0 : Int) (a1 : List (Int)) (a2 : List (Int)) (a3 : Int) (a4 : Int) (a5 : Int) (a6 : Int) (a7 : Int) (a8 : Int) (a9 : Int) (a10 : Int) (a11 : Int) (a12 : Int) (a13 : Int) (a14 : Int) (a15 : Int) (a16 : Int) (a17 : Int) (a18 : Int) (a19 : Int) (a20 : Int) (a21 : Int) (a22 : Int) (a23 : Bool) (a24 : Bool) (a25 : Int) : Option (Si3b2i) :=
  Option.bind (F45 FUEL a0 a1 a2 a3 a4 a5 a6 a7 a8 a9 a10 a11 a12 a13 a14 a15 a16 a17 a18 a19) fun y1 =>
  bif (!y1) then
  (F37_c0 n a20 a21 a22 a23 a24 a25 (0) (0) (0) false false (0))
  else (Option.bind (F39 FUEL a20 a21 a22 a23 a24 a25) fun y2 =>
   bif (!y2) then
   (F37_c0 n a20 a21 a22 a23 a24 a25 (0) (0) (0) false false (0))
   else (Option.bind (F41 FUEL a20 a21 a22 a23 a24 a25) fun y3 =>
    bif y3 then
    (F37_c0 n a20 a21 a22 a23 a24 a25 (0) (0) (0) false false (0))
    else (Option.bind (F69 FUEL a20 a21 a22 a23 a24 a25) fun y4 =>
     bif (!y4.q6) then
     (F37_c0 n y4.q0 y4.q1 y4.q2 y4.q3 y4.q4 y4.q5 (0) (0) (0) false false (0))
     else (Option.bind (F15 FUEL a0 a1 a2 a3 a4 a5 a6 a7 a8 a9 a10 a11 a12 a13 a14 a15 a16 a17 a18 a19 y4.q0 true) fun y5 =>
      some ⟨y4.q0, y5.1, y4.q2, true, y5.2, y4.q5⟩))))

/-! ### garland/garlandlaw18.wakes -/
def F30 (_n : Nat) : Option (Bool) :=
  Option.bind (F44 FUEL (5) [(1), (40000)]) fun y1 =>
  Option.bind (F33 FUEL y1.q0 y1.q19 [(9)] y1.q1 y1.q2 y1.q3 y1.q4 y1.q5 y1.q6 y1.q7 y1.q8 y1.q9 y1.q10 y1.q11 y1.q12 y1.q13 y1.q14 y1.q15 y1.q16 y1.q17 (7)) fun y2 =>
  Option.bind (F33 FUEL y1.q0 y1.q19 [(9)] y1.q1 y1.q2 y1.q3 y1.q4 y1.q5 y1.q6 y1.q7 y1.q8 y1.q9 y1.q10 y1.q11 y1.q12 y1.q13 y1.q14 y1.q15 y1.q16 y1.q17 (100)) fun y3 =>
  Option.bind (F31 FUEL y3.q0 y3.q1 y3.q2 y3.q3 y3.q4 y3.q5) fun y4 =>
  Option.bind (F43 FUEL (9) (5) (60) false) fun y5 =>
  Option.bind (F35 FUEL y1.q0 y1.q19 [(9)] y1.q1 y1.q2 y1.q3 y1.q4 y1.q5 y1.q6 y1.q7 y1.q8 y1.q9 y1.q10 y1.q11 y1.q12 y1.q13 y1.q14 y1.q15 y1.q16 y1.q17 y3.q0 y3.q1 y3.q2 y3.q3 y3.q4 y3.q5 y5.q0 y5.q1 y5.q2 y5.q3 y5.q4 y5.q5 y5.q6 y5.q7 y5.q8 [] y5.q9 y5.q10 y5.q11 y5.q12 y5.q13) fun y6 =>
  Option.bind (F43 FUEL (60) (5) (101) true) fun y7 =>
  Option.bind (F35 FUEL y1.q0 y1.q19 [(9)] y1.q1 y1.q2 y1.q3 y1.q4 y1.q5 y1.q6 y1.q7 y1.q8 y1.q9 y1.q10 y1.q11 y1.q12 y1.q13 y1.q14 y1.q15 y1.q16 y1.q17 y6.q0 y6.q1 y6.q2 y6.q3 y6.q4 y6.q5 y7.q0 y7.q1 y7.q2 y7.q3 y7.q4 y7.q5 y7.q6 y7.q7 y7.q8 [] y7.q9 y7.q10 y7.q11 y7.q12 y7.q13) fun y8 =>
  Option.bind (F37 FUEL y1.q0 y1.q19 [(9)] y1.q1 y1.q2 y1.q3 y1.q4 y1.q5 y1.q6 y1.q7 y1.q8 y1.q9 y1.q10 y1.q11 y1.q12 y1.q13 y1.q14 y1.q15 y1.q16 y1.q17 y6.q0 y6.q1 y6.q2 y6.q3 y6.q4 y6.q5) fun y9 =>
  Option.bind (F43 FUEL (8) (5) (60) true) fun y10 =>
  Option.bind (F35 FUEL y1.q0 y1.q19 [(9)] y1.q1 y1.q2 y1.q3 y1.q4 y1.q5 y1.q6 y1.q7 y1.q8 y1.q9 y1.q10 y1.q11 y1.q12 y1.q13 y1.q14 y1.q15 y1.q16 y1.q17 y3.q0 y3.q1 y3.q2 y3.q3 y3.q4 y3.q5 y10.q0 y10.q1 y10.q2 y10.q3 y10.q4 y10.q5 y10.q6 y10.q7 y10.q8 [] y10.q9 y10.q10 y10.q11 y10.q12 y10.q13) fun y11 =>
  Option.bind (F31 FUEL y8.q0 y8.q1 y8.q2 y8.q3 y8.q4 y8.q5) fun y12 =>
  bif y2.q4 then
  (bif (ieq y2.q1 (9)) then
   (Option.bind (F41 FUEL y2.q0 y2.q1 y2.q2 y2.q3 y2.q4 y2.q5) fun y13 =>
    bif y13 then
    (bif (!y3.q4) then
     (bif (ieq y3.q1 (9)) then
      (bif y4.q14 then
       (bif (ieq y4.q3 (9)) then
        (bif (ieq y4.q4 (100)) then
         (bif (ieq y6.q1 (60)) then
          (bif (ieq y6.q2 (1)) then
           (bif y8.q4 then
            (bif (ieq y8.q1 (101)) then
             (bif (ieq y8.q2 (2)) then
              (bif y9.q3 then
               (bif (ieq y9.q1 (9)) then
                (bif (ieq y9.q2 (2)) then
                 (bif ((ieq y11.q0 y3.q0) && ((ieq y11.q1 y3.q1) && ((ieq y11.q2 y3.q2) && ((beqb y11.q3 y3.q3) && ((beqb y11.q4 y3.q4) && ((ieq y11.q5 y3.q5) && true)))))) then
                  (bif (!y12.q14) then
                   (Option.bind (F39 FUEL y3.q0 y3.q1 y3.q2 y3.q3 y3.q4 y3.q5) fun y14 =>
                    bif y14 then
                    (Option.bind (F39 FUEL (-1) (0) (0) false false (0)) fun y15 =>
                     some (!y15))
                    else (some false))
                   else (some false))
                  else (some false))
                 else (some false))
                else (some false))
               else (some false))
              else (some false))
             else (some false))
            else (some false))
           else (some false))
          else (some false))
         else (some false))
        else (some false))
       else (some false))
      else (some false))
     else (some false))
    else (some false))
   else (some false))
  else (some false)

/-! ### garland/garlandref18.Right -/
def F40 (_n : Nat) (a0 : Int) (a1 : Int) (a2 : Int) (_a3 : Bool) (a4 : Bool) (a5 : Int) : Option (Bool) :=
  bif (ilt a0 (0)) then
  (some false)
  else (bif (ige a0 (65536)) then
   (some false)
   else (bif (ilt a1 (0)) then
    (some false)
    else (bif (ige a1 (65536)) then
     (some false)
     else (bif (ilt a2 (0)) then
      (some false)
      else (bif (igt a2 (41)) then
       (some false)
       else (bif (igt a2 (40)) then
        (bif (ieq a5 (211)) then
         (some (!a4))
         else (some false))
        else (some (ieq a5 (0)))))))))

/-! ### garland/garlandref18.Over -/
def F42 (_n : Nat) (_a0 : Int) (_a1 : Int) (_a2 : Int) (_a3 : Bool) (a4 : Bool) (a5 : Int) : Option (Bool) :=
  bif a4 then
  (some true)
  else (some (ine a5 (0)))

/-! ### garland/garlandref18.Ask -/
def F32 (_n : Nat) (a0 : Int) (a1 : Int) (a2 : Int) (a3 : Bool) (a4 : Bool) (a5 : Int) : Option (Si5b2i2si2bib) :=
  Option.bind (F40 FUEL a0 a1 a2 a3 a4 a5) fun y1 =>
  bif (!y1) then
  (some ⟨(0), (0), (0), (0), (0), false, false, (0), (0), ByteArray.empty, (0), (0), false, (0), false⟩)
  else (Option.bind (F42 FUEL a0 a1 a2 a3 a4 a5) fun y2 =>
   bif y2 then
   (some ⟨(0), (0), (0), (0), (0), false, false, (0), (0), ByteArray.empty, (0), (0), false, (0), false⟩)
   else (some ⟨(4), (0), (0), a1, a0, a3, false, (0), (0), ByteArray.empty, (0), (0), false, (0), true⟩))

/-! ### garland/garlandref03.Owner -/
def F92_c0 : Nat → List (Int) → Int → Int → Int → Option (Int × Bool)
  | 0, _, _, _, _ => none
  | n + 1, x0, x1, x2, x3 => bif (ilt x3 (ofN (List.length x0))) then
    (bif (inb x3 (List.length x0)) then
     (Option.bind (F26 FUEL x1 (List.getD x0 (Int.toNat x3) 0)) fun y2 =>
      Option.bind (F26 FUEL x1 x2) fun y3 =>
      bif (ilt y2 y3) then
      (bif (inb x3 (List.length x0)) then
       (Option.bind (F27 FUEL (List.getD x0 (Int.toNat x3) 0)) fun y4 =>
        F92_c0 n x0 x1 y4 (iadd .i64 x3 (1)))
       else (none))
      else (F92_c0 n x0 x1 x2 (iadd .i64 x3 (1))))
     else (none))
    else (some (x2, true))
def F92 (n : Nat) (a0 : List (Int)) (a1 : Int) : Option (Int × Bool) :=
  bif (ieq (ofN (List.length a0)) (0)) then
  (some ((0), false))
  else (bif (inb (0) (List.length a0)) then
   (Option.bind (F27 FUEL (List.getD a0 (Int.toNat (0)) 0)) fun y1 =>
    F92_c0 n a0 a1 y1 (0))
   else (none))

/-! ### garland/garlandref13.Anchor -/
def F60 (_n : Nat) (a0 : Int) (a1 : List (Int)) (a2 : List (Int)) (a3 : Int) (a4 : Int) (a5 : Int) (a6 : Int) (a7 : Int) (a8 : Int) (a9 : Int) (a10 : Int) (a11 : Int) (a12 : Int) (a13 : Int) (a14 : Int) (a15 : Int) (a16 : Int) (a17 : Int) (a18 : Int) (a19 : Int) : Option (Int) :=
  Option.bind (F24 FUEL a0 a1 a2 a3 a4 a5 a6 a7 a8 a9 a10 a11 a12 a13 a14 a15 a16 a17 a18 a19) fun y1 =>
  bif (!y1) then
  (some (-1))
  else (Option.bind (F92 FUEL a1 (iadd .i64 a0 (1))) fun y2 =>
   some y2.1)

/-! ### garland/garlandref13.First -/
def F25 (_n : Nat) (a0 : Int) (a1 : List (Int)) (a2 : List (Int)) (a3 : Int) (a4 : Int) (a5 : Int) (a6 : Int) (a7 : Int) (a8 : Int) (a9 : Int) (a10 : Int) (a11 : Int) (a12 : Int) (a13 : Int) (a14 : Int) (a15 : Int) (a16 : Int) (a17 : Int) (a18 : Int) (a19 : Int) : Option (Int) :=
  Option.bind (F24 FUEL a0 a1 a2 a3 a4 a5 a6 a7 a8 a9 a10 a11 a12 a13 a14 a15 a16 a17 a18 a19) fun y1 =>
  bif y1 then
  (bif (igt (ofN (List.length a2)) (0)) then
   (bif (inb (0) (List.length a2)) then
    (some (List.getD a2 (Int.toNat (0)) 0))
    else (none))
   else (Option.bind (F60 FUEL a0 a1 a2 a3 a4 a5 a6 a7 a8 a9 a10 a11 a12 a13 a14 a15 a16 a17 a18 a19) fun y2 =>
    some y2))
  else (Option.bind (F60 FUEL a0 a1 a2 a3 a4 a5 a6 a7 a8 a9 a10 a11 a12 a13 a14 a15 a16 a17 a18 a19) fun y3 =>
   some y3)

/-! ### garland/garlandref03.In -/
def F51 (_n : Nat) (a0 : Int) (a1 : Int) (a2 : Int) : Option (Bool) :=
  Option.bind (F27 FUEL a0) fun y1 =>
  Option.bind (F27 FUEL a2) fun y2 =>
  bif (ieq y1 y2) then
  (Option.bind (F27 FUEL a1) fun y3 =>
   Option.bind (F27 FUEL a0) fun y4 =>
   some (ine y3 y4))
  else (Option.bind (F26 FUEL a0 a1) fun y5 =>
   bif (igt y5 (0)) then
   (Option.bind (F26 FUEL a0 a1) fun y6 =>
    Option.bind (F26 FUEL a0 a2) fun y7 =>
    some (ilt y6 y7))
   else (some false))

/-! ### garland/garlandref03.UpTo -/
def F50 (_n : Nat) (a0 : Int) (a1 : Int) (a2 : Int) : Option (Bool) :=
  Option.bind (F51 FUEL a0 a1 a2) fun y1 =>
  bif y1 then
  (some true)
  else (Option.bind (F27 FUEL a1) fun y2 =>
   Option.bind (F27 FUEL a2) fun y3 =>
   some (ieq y2 y3))

/-! ### garland/garlandref16.Next -/
def F16_c0 : Nat → Int → Int → Int → Int → List (Int) → List (Int) → Int → Int → Int → Int → Int → Int → Int → Int → Int → Int → Int → Int → Int → Int → Int → Int → Int → List (Int) → Option (Int × Bool)
  | 0, _, _, _, _, _, _, _, _, _, _, _, _, _, _, _, _, _, _, _, _, _, _, _, _ => none
  | n + 1, x0, x1, x2, x3, x4, x5, x6, x7, x8, x9, x10, x11, x12, x13, x14, x15, x16, x17, x18, x19, x20, x21, x22, x23 => bif (ilt x2 (ofN (List.length x23))) then
    (bif (inb x2 (List.length x23)) then
     (bif (nlt (Int.toNat x2) (List.length x23)) then
      (bif (ige (List.getD x23 (Int.toNat x2) 0) (0)) then
       (bif (inb x2 (List.length x23)) then
        (bif (nlt (Int.toNat x2) (List.length x23)) then
         (Option.bind (F51 FUEL x3 (List.getD x23 (Int.toNat x2) 0) x0) fun y3 =>
          bif y3 then
          (bif (inb x2 (List.length x23)) then
           (bif (nlt (Int.toNat x2) (List.length x23)) then
            (Option.bind (F26 FUEL x3 (List.getD x23 (Int.toNat x2) 0)) fun y4 =>
             Option.bind (F26 FUEL x3 x1) fun y5 =>
             bif (igt y4 y5) then
             (bif (inb x2 (List.length x23)) then
              (bif (nlt (Int.toNat x2) (List.length x23)) then
               (F16_c0 n x0 (List.getD x23 (Int.toNat x2) 0) (iadd .i64 x2 (1)) x3 x4 x5 x6 x7 x8 x9 x10 x11 x12 x13 x14 x15 x16 x17 x18 x19 x20 x21 x22 x23)
               else (none))
              else (none))
             else (F16_c0 n x0 x1 (iadd .i64 x2 (1)) x3 x4 x5 x6 x7 x8 x9 x10 x11 x12 x13 x14 x15 x16 x17 x18 x19 x20 x21 x22 x23))
            else (none))
           else (none))
          else (F16_c0 n x0 x1 (iadd .i64 x2 (1)) x3 x4 x5 x6 x7 x8 x9 x10 x11 x12 x13 x14 x15 x16 x17 x18 x19 x20 x21 x22 x23))
         else (none))
        else (none))
       else (F16_c0 n x0 x1 (iadd .i64 x2 (1)) x3 x4 x5 x6 x7 x8 x9 x10 x11 x12 x13 x14 x15 x16 x17 x18 x19 x20 x21 x22 x23))
      else (none))
     else (none))
    else (some (x1, false))
def F16 (n : Nat) (a0 : Int) (a1 : List (Int)) (a2 : List (Int)) (a3 : Int) (a4 : Int) (a5 : Int) (a6 : Int) (a7 : Int) (a8 : Int) (a9 : Int) (a10 : Int) (a11 : Int) (a12 : Int) (a13 : Int) (a14 : Int) (a15 : Int) (a16 : Int) (a17 : Int) (a18 : Int) (a19 : Int) (a20 : Int) (a21 : Bool) : Option (Int × Bool) :=
  Option.bind (F25 FUEL a0 a1 a2 a3 a4 a5 a6 a7 a8 a9 a10 a11 a12 a13 a14 a15 a16 a17 a18 a19) fun y1 =>
  bif (ilt y1 (0)) then
  (some ((-1), false))
  else (Option.bind (F50 FUEL a0 a20 y1) fun y2 =>
   bif y2 then
   (some (y1, true))
   else (bif a21 then
    (some (y1, false))
    else (bif (room (0 + List.length a2) 8) then
     (bif (room (List.length ([] ++ a2) + List.length [a4, a5, a6, a7, a8, a9, a10, a11, a12, a13, a14, a15, a16, a17, a18, a19]) 8) then
      (F16_c0 n a20 y1 (0) a0 a1 a2 a3 a4 a5 a6 a7 a8 a9 a10 a11 a12 a13 a14 a15 a16 a17 a18 a19 (([] ++ a2) ++ [a4, a5, a6, a7, a8, a9, a10, a11, a12, a13, a14, a15, a16, a17, a18, a19]))
      else (none))
     else (none))))

/-! ### garland/garlandref18.on -/
def F67 (_n : Nat) (a0 : Int) (a1 : List (Int)) (a2 : List (Int)) (a3 : Int) (a4 : Int) (a5 : Int) (a6 : Int) (a7 : Int) (a8 : Int) (a9 : Int) (a10 : Int) (a11 : Int) (a12 : Int) (a13 : Int) (a14 : Int) (a15 : Int) (a16 : Int) (a17 : Int) (a18 : Int) (a19 : Int) (a20 : Int) (_a21 : Int) (a22 : Int) (a23 : Bool) (_a24 : Bool) (a25 : Int) (a26 : Int) (a27 : Bool) : Option (Si3b2i) :=
  bif (ieq a26 a0) then
  (bif (!a27) then
   (Option.bind (F16 FUEL a0 a1 a2 a3 a4 a5 a6 a7 a8 a9 a10 a11 a12 a13 a14 a15 a16 a17 a18 a19 a20 a23) fun y1 =>
    some ⟨a20, y1.1, a22, a23, y1.2, a25⟩)
   else (some ⟨a20, a26, a22, a23, a27, a25⟩))
  else (some ⟨a20, a26, a22, a23, a27, a25⟩)

/-! ### garland/garlandref18.Begin -/
def F34 (_n : Nat) (a0 : Int) (a1 : List (Int)) (a2 : List (Int)) (a3 : Int) (a4 : Int) (a5 : Int) (a6 : Int) (a7 : Int) (a8 : Int) (a9 : Int) (a10 : Int) (a11 : Int) (a12 : Int) (a13 : Int) (a14 : Int) (a15 : Int) (a16 : Int) (a17 : Int) (a18 : Int) (a19 : Int) (a20 : Int) : Option (Si3b2i) :=
  Option.bind (F24 FUEL a0 a1 a2 a3 a4 a5 a6 a7 a8 a9 a10 a11 a12 a13 a14 a15 a16 a17 a18 a19) fun y1 =>
  bif (!y1) then
  (some ⟨(0), (0), (0), false, false, (0)⟩)
  else (Option.bind (F27 FUEL a20) fun y2 =>
   Option.bind (F67 FUEL a0 a1 a2 a3 a4 a5 a6 a7 a8 a9 a10 a11 a12 a13 a14 a15 a16 a17 a18 a19 y2 (0) (0) false false (0) a0 false) fun y3 =>
   some ⟨y3.q0, y3.q1, y3.q2, y3.q3, y3.q4, y3.q5⟩)

/-! ### garland/garlandref06.place -/
def F61 (_n : Nat) (a0 : Int) : Option (Bool) :=
  bif (ige a0 (0)) then
  (some (ilt a0 (65536)))
  else (some false)

/-! ### garland/garlandref06.Asks -/
def F89 (_n : Nat) (a0 : Int) (_a1 : Int) (_a2 : Int) (_a3 : Int) (_a4 : Int) (_a5 : Bool) (_a6 : Bool) (_a7 : Int) (_a8 : Int) (_a9 : List (Int)) (_a10 : ByteArray) (_a11 : Int) (_a12 : Int) (_a13 : Bool) (_a14 : Int) : Option (Bool) :=
  bif (ige a0 (1)) then
  (some (ile a0 (6)))
  else (some false)

/-! ### garland/garlandref06.Asker -/
def F62 (_n : Nat) (a0 : Int) (a1 : Int) (a2 : Int) (a3 : Int) (a4 : Int) (a5 : Bool) (a6 : Bool) (a7 : Int) (a8 : Int) (a9 : List (Int)) (a10 : ByteArray) (a11 : Int) (a12 : Int) (a13 : Bool) (a14 : Int) : Option (Int) :=
  Option.bind (F89 FUEL a0 a1 a2 a3 a4 a5 a6 a7 a8 a9 a10 a11 a12 a13 a14) fun y1 =>
  bif y1 then
  (some a2)
  else (some a3)

/-! ### garland/garlandref06.bare -/
def F63 (_n : Nat) (a0 : Int) (a1 : Int) (a2 : Int) (a3 : Int) (a4 : Int) (a5 : Bool) (a6 : Bool) (a7 : Int) (a8 : Int) (a9 : ByteArray) (a10 : Int) (a11 : Int) (a12 : Bool) (a13 : Int) : Option (Sbi5b2i2si2bi) :=
  bif (ieq a0 (4)) then
  (some ⟨true, a0, a1, a2, a3, (0), false, a6, a7, a8, a9, a10, a11, a12, a13⟩)
  else (bif (ieq a0 (5)) then
   (bif (ieq a0 (5)) then
    (some ⟨true, a0, a1, a2, a3, a4, a5, a6, a7, a8, ByteArray.empty, (0), (0), false, a13⟩)
    else (bif (ieq a0 (7)) then
     (some ⟨false, a0, a1, a2, a3, a4, a5, a6, a7, (0), a9, a10, a11, a12, a13⟩)
     else (bif (ieq a0 (10)) then
      (some ⟨true, a0, a1, a2, a3, a4, a5, false, (0), a8, a9, a10, a11, a12, a13⟩)
      else (bif (ieq a0 (11)) then
       (some ⟨true, a0, a1, a2, a3, a4, a5, a6, a7, a8, a9, a10, a11, a12, (0)⟩)
       else (bif (ieq a0 (12)) then
        (some ⟨true, a0, a1, a2, a3, a4, a5, a6, a7, a8, ByteArray.empty, (0), (0), false, (0)⟩)
        else (some ⟨true, a0, a1, a2, a3, a4, a5, a6, a7, a8, a9, a10, a11, a12, a13⟩))))))
   else (bif (ieq a0 (6)) then
    (some ⟨true, a0, a1, a2, a3, a4, a5, a6, a7, a8, ByteArray.empty, (0), (0), false, a13⟩)
    else (bif (ieq a0 (7)) then
     (some ⟨false, a0, a1, a2, a3, a4, a5, a6, a7, (0), a9, a10, a11, a12, a13⟩)
     else (bif (ieq a0 (10)) then
      (some ⟨true, a0, a1, a2, a3, a4, a5, false, (0), a8, a9, a10, a11, a12, a13⟩)
      else (bif (ieq a0 (11)) then
       (some ⟨true, a0, a1, a2, a3, a4, a5, a6, a7, a8, a9, a10, a11, a12, (0)⟩)
       else (bif (ieq a0 (12)) then
        (some ⟨true, a0, a1, a2, a3, a4, a5, a6, a7, a8, ByteArray.empty, (0), (0), false, (0)⟩)
        else (some ⟨true, a0, a1, a2, a3, a4, a5, a6, a7, a8, a9, a10, a11, a12, a13⟩)))))))

/-! ### garland/garlandref06.Same -/
def F19_c0 : Nat → Int → Int → Int → Int → Int → Int → Bool → Bool → Int → Int → List (Int) → ByteArray → Int → Int → Bool → Int → Int → Int → Int → Int → Int → Bool → Bool → Int → Int → List (Int) → ByteArray → Int → Int → Bool → Int → Option (Bool)
  | 0, _, _, _, _, _, _, _, _, _, _, _, _, _, _, _, _, _, _, _, _, _, _, _, _, _, _, _, _, _, _, _ => none
  | n + 1, x0, x1, x2, x3, x4, x5, x6, x7, x8, x9, x10, x11, x12, x13, x14, x15, x16, x17, x18, x19, x20, x21, x22, x23, x24, x25, x26, x27, x28, x29, x30 => bif (ilt x0 (ofN (List.length x10))) then
    (bif (inb x0 (List.length x10)) then
     (bif (inb x0 (List.length x25)) then
      (bif (ine (List.getD x10 (Int.toNat x0) 0) (List.getD x25 (Int.toNat x0) 0)) then
       (some false)
       else (F19_c0 n (iadd .i64 x0 (1)) x1 x2 x3 x4 x5 x6 x7 x8 x9 x10 x11 x12 x13 x14 x15 x16 x17 x18 x19 x20 x21 x22 x23 x24 x25 x26 x27 x28 x29 x30))
      else (none))
     else (none))
    else (bif (ieq x1 x16) then
     (bif (ieq x2 x17) then
      (bif (ieq x3 x18) then
       (bif (ieq x4 x19) then
        (bif (ieq x5 x20) then
         (bif (beqb x6 x21) then
          (bif (beqb x7 x22) then
           (bif (ieq x8 x23) then
            (bif (ieq x9 x24) then
             (bif ((steq x11 x26) && ((ieq x12 x27) && ((ieq x13 x28) && ((beqb x14 x29) && true)))) then
              (some (ieq x15 x30))
              else (some false))
             else (some false))
            else (some false))
           else (some false))
          else (some false))
         else (some false))
        else (some false))
       else (some false))
      else (some false))
     else (some false))
def F19 (n : Nat) (a0 : Int) (a1 : Int) (a2 : Int) (a3 : Int) (a4 : Int) (a5 : Bool) (a6 : Bool) (a7 : Int) (a8 : Int) (a9 : List (Int)) (a10 : ByteArray) (a11 : Int) (a12 : Int) (a13 : Bool) (a14 : Int) (a15 : Int) (a16 : Int) (a17 : Int) (a18 : Int) (a19 : Int) (a20 : Bool) (a21 : Bool) (a22 : Int) (a23 : Int) (a24 : List (Int)) (a25 : ByteArray) (a26 : Int) (a27 : Int) (a28 : Bool) (a29 : Int) : Option (Bool) :=
  bif (ine (ofN (List.length a9)) (ofN (List.length a24))) then
  (some false)
  else (F19_c0 n (0) a0 a1 a2 a3 a4 a5 a6 a7 a8 a9 a10 a11 a12 a13 a14 a15 a16 a17 a18 a19 a20 a21 a22 a23 a24 a25 a26 a27 a28 a29)

/-! ### garland/garlandref06.Pair -/
def F93 (_n : Nat) (a0 : ByteArray) (a1 : Int) (a2 : Int) (_a3 : Bool) : Option (Bool) :=
  bif (ige (stlen a0) (1)) then
  (bif (ile (stlen a0) (20)) then
   (bif (ige a1 (0)) then
    (bif (ile a1 (1048576)) then
     (bif (ige a2 (0)) then
      (some (ile a2 (1048576)))
      else (some false))
     else (some false))
    else (some false))
   else (some false))
  else (some false)

/-! ### garland/garlandref06.list -/
mutual
def F94_c0 : Nat → List (Int) → Int → Int → Option (Bool)
  | 0, _, _, _ => none
  | n + 1, x0, x1, x2 => bif (ilt x2 (ofN (List.length x0))) then
    (bif (inb x2 (List.length x0)) then
     (Option.bind (F61 FUEL (List.getD x0 (Int.toNat x2) 0)) fun y1 =>
      bif (!y1) then
      (some false)
      else (bif (inb x2 (List.length x0)) then
       (bif (ieq (List.getD x0 (Int.toNat x2) 0) x1) then
        (some false)
        else (F94_c1 n x0 x1 x2 (0)))
       else (none)))
     else (none))
    else (some (ile (ofN (List.length x0)) (3)))
def F94_c1 : Nat → List (Int) → Int → Int → Int → Option (Bool)
  | 0, _, _, _, _ => none
  | n + 1, x0, x1, x2, x3 => bif (ilt x3 x2) then
    (bif (inb x3 (List.length x0)) then
     (bif (inb x2 (List.length x0)) then
      (bif (ieq (List.getD x0 (Int.toNat x3) 0) (List.getD x0 (Int.toNat x2) 0)) then
       (some false)
       else (F94_c1 n x0 x1 x2 (iadd .i64 x3 (1))))
      else (none))
     else (none))
    else (F94_c0 n x0 x1 (iadd .i64 x2 (1)))
end
def F94 (n : Nat) (a0 : List (Int)) (a1 : Int) : Option (Bool) :=
  F94_c0 n a0 a1 (0)

/-! ### garland/garlandref06.has -/
def F64 (_n : Nat) (a0 : Int) (_a1 : Int) (a2 : Int) (_a3 : Int) (a4 : Int) (_a5 : Bool) (_a6 : Bool) (a7 : Int) (a8 : Int) (a9 : List (Int)) (a10 : ByteArray) (a11 : Int) (a12 : Int) (a13 : Bool) (a14 : Int) : Option (Bool) :=
  bif (ieq a0 (4)) then
  (Option.bind (F61 FUEL a4) fun y1 =>
   some y1)
  else (bif (ieq a0 (5)) then
   (Option.bind (F93 FUEL a10 a11 a12 a13) fun y2 =>
    some y2)
   else (bif (ieq a0 (6)) then
    (Option.bind (F93 FUEL a10 a11 a12 a13) fun y3 =>
     bif y3 then
     (some ((steq a10 a10) && ((ieq a11 (0)) && ((ieq a12 (0)) && ((beqb a13 false) && true)))))
     else (some false))
    else (bif (ieq a0 (7)) then
     (bif (ieq a8 (-1)) then
      (Option.bind (F94 FUEL a9 a2) fun y4 =>
       some y4)
      else (Option.bind (F61 FUEL a8) fun y5 =>
       bif y5 then
       (Option.bind (F94 FUEL a9 a2) fun y6 =>
        some y6)
       else (some false)))
     else (bif (ieq a0 (10)) then
      (Option.bind (F61 FUEL a7) fun y7 =>
       some y7)
      else (bif (ieq a0 (11)) then
       (bif (ieq a14 (0)) then
        (some true)
        else (some (ieq a14 (200))))
       else (bif (ieq a0 (12)) then
        (bif (ieq a14 (0)) then
         (Option.bind (F93 FUEL a10 a11 a12 a13) fun y8 =>
          bif y8 then
          (some true)
          else (bif (ieq a14 (201)) then
           (some ((steq a10 ByteArray.empty) && ((ieq a11 (0)) && ((ieq a12 (0)) && ((beqb a13 false) && true)))))
           else (some false)))
         else (bif (ieq a14 (201)) then
          (some ((steq a10 ByteArray.empty) && ((ieq a11 (0)) && ((ieq a12 (0)) && ((beqb a13 false) && true)))))
          else (some false)))
        else (some true)))))))

/-! ### garland/garlandref06.Right -/
def F28 (_n : Nat) (a0 : Int) (a1 : Int) (a2 : Int) (a3 : Int) (a4 : Int) (a5 : Bool) (a6 : Bool) (a7 : Int) (a8 : Int) (a9 : List (Int)) (a10 : ByteArray) (a11 : Int) (a12 : Int) (a13 : Bool) (a14 : Int) : Option (Bool) :=
  bif (ilt a0 (1)) then
  (some false)
  else (bif (ige a0 (13)) then
   (some false)
   else (Option.bind (F61 FUEL a2) fun y1 =>
    bif (!y1) then
    (some false)
    else (Option.bind (F61 FUEL a3) fun y2 =>
     bif (!y2) then
     (some false)
     else (bif (ieq a2 a3) then
      (some false)
      else (Option.bind (F62 FUEL a0 a1 a2 a3 a4 a5 a6 a7 a8 a9 a10 a11 a12 a13 a14) fun y3 =>
       bif (ilt a1 (iadd .i64 (imul .i64 y3 (1048576)) (1))) then
       (some false)
       else (bif (ige a1 (iadd .i64 (iadd .i64 (imul .i64 y3 (1048576)) (1)) (1048576))) then
        (some false)
        else (Option.bind (F63 FUEL a0 a1 a2 a3 a4 a5 a6 a7 a8 a10 a11 a12 a13 a14) fun y4 =>
         bif y4.q0 then
         (Option.bind (F19 FUEL y4.q1 y4.q2 y4.q3 y4.q4 y4.q5 y4.q6 y4.q7 y4.q8 y4.q9 a9 y4.q10 y4.q11 y4.q12 y4.q13 y4.q14 a0 a1 a2 a3 (0) false false (0) (0) [] ByteArray.empty (0) (0) false (0)) fun y5 =>
          bif y5 then
          (Option.bind (F64 FUEL a0 a1 a2 a3 a4 a5 a6 a7 a8 a9 a10 a11 a12 a13 a14) fun y6 =>
           some y6)
          else (some false))
         else (Option.bind (F19 FUEL y4.q1 y4.q2 y4.q3 y4.q4 y4.q5 y4.q6 y4.q7 y4.q8 y4.q9 [] y4.q10 y4.q11 y4.q12 y4.q13 y4.q14 a0 a1 a2 a3 (0) false false (0) (0) [] ByteArray.empty (0) (0) false (0)) fun y7 =>
          bif y7 then
          (Option.bind (F64 FUEL a0 a1 a2 a3 a4 a5 a6 a7 a8 a9 a10 a11 a12 a13 a14) fun y8 =>
           some y8)
          else (some false)))))))))

/-! ### garland/garlandref18.Told -/
def F36 (_n : Nat) (a0 : Int) (a1 : List (Int)) (a2 : List (Int)) (a3 : Int) (a4 : Int) (a5 : Int) (a6 : Int) (a7 : Int) (a8 : Int) (a9 : Int) (a10 : Int) (a11 : Int) (a12 : Int) (a13 : Int) (a14 : Int) (a15 : Int) (a16 : Int) (a17 : Int) (a18 : Int) (a19 : Int) (a20 : Int) (a21 : Int) (a22 : Int) (a23 : Bool) (a24 : Bool) (a25 : Int) (a26 : Int) (a27 : Int) (a28 : Int) (a29 : Int) (a30 : Int) (a31 : Bool) (a32 : Bool) (a33 : Int) (a34 : Int) (a35 : List (Int)) (a36 : ByteArray) (a37 : Int) (a38 : Int) (a39 : Bool) (a40 : Int) : Option (Si3b2i) :=
  Option.bind (F24 FUEL a0 a1 a2 a3 a4 a5 a6 a7 a8 a9 a10 a11 a12 a13 a14 a15 a16 a17 a18 a19) fun y1 =>
  bif (!y1) then
  (some ⟨a20, a21, a22, a23, a24, a25⟩)
  else (Option.bind (F40 FUEL a20 a21 a22 a23 a24 a25) fun y2 =>
   bif (!y2) then
   (some ⟨a20, a21, a22, a23, a24, a25⟩)
   else (Option.bind (F42 FUEL a20 a21 a22 a23 a24 a25) fun y3 =>
    bif y3 then
    (some ⟨a20, a21, a22, a23, a24, a25⟩)
    else (Option.bind (F28 FUEL a26 a27 a28 a29 a30 a31 a32 a33 a34 a35 a36 a37 a38 a39 a40) fun y4 =>
     bif (!y4) then
     (some ⟨a20, a21, a22, a23, a24, a25⟩)
     else (bif (ine a26 (10)) then
      (some ⟨a20, a21, a22, a23, a24, a25⟩)
      else (bif (ine a28 a21) then
       (some ⟨a20, a21, a22, a23, a24, a25⟩)
       else (bif (ine a29 a0) then
        (some ⟨a20, a21, a22, a23, a24, a25⟩)
        else (bif (igt (iadd .i64 a22 (1)) (40)) then
         (some ⟨a20, a21, (iadd .i64 a22 (1)), a23, a24, (211)⟩)
         else (Option.bind (F67 FUEL a0 a1 a2 a3 a4 a5 a6 a7 a8 a9 a10 a11 a12 a13 a14 a15 a16 a17 a18 a19 a20 a21 (iadd .i64 a22 (1)) a23 a24 a25 a33 a32) fun y5 =>
          some ⟨y5.q0, y5.q1, y5.q2, y5.q3, y5.q4, y5.q5⟩))))))))

/-! ### garland/garlandref18.Again -/
def F38 (_n : Nat) (a0 : Int) (a1 : List (Int)) (a2 : List (Int)) (a3 : Int) (a4 : Int) (a5 : Int) (a6 : Int) (a7 : Int) (a8 : Int) (a9 : Int) (a10 : Int) (a11 : Int) (a12 : Int) (a13 : Int) (a14 : Int) (a15 : Int) (a16 : Int) (a17 : Int) (a18 : Int) (a19 : Int) (a20 : Int) (a21 : Int) (a22 : Int) (a23 : Bool) (a24 : Bool) (a25 : Int) : Option (Si3b2i) :=
  Option.bind (F24 FUEL a0 a1 a2 a3 a4 a5 a6 a7 a8 a9 a10 a11 a12 a13 a14 a15 a16 a17 a18 a19) fun y1 =>
  bif (!y1) then
  (some ⟨a20, a21, a22, a23, a24, a25⟩)
  else (Option.bind (F40 FUEL a20 a21 a22 a23 a24 a25) fun y2 =>
   bif (!y2) then
   (some ⟨a20, a21, a22, a23, a24, a25⟩)
   else (Option.bind (F42 FUEL a20 a21 a22 a23 a24 a25) fun y3 =>
    bif y3 then
    (some ⟨a20, a21, a22, a23, a24, a25⟩)
    else (bif (igt (iadd .i64 a22 (1)) (40)) then
     (some ⟨a20, a21, (iadd .i64 a22 (1)), a23, a24, (211)⟩)
     else (Option.bind (F67 FUEL a0 a1 a2 a3 a4 a5 a6 a7 a8 a9 a10 a11 a12 a13 a14 a15 a16 a17 a18 a19 a20 a21 (iadd .i64 a22 (1)) true a24 a25 a0 false) fun y4 =>
      some ⟨y4.q0, y4.q1, y4.q2, y4.q3, y4.q4, y4.q5⟩))))

/-! ### garland/garlandlaw18.LookTells -/
def F8 (_n : Nat) (a0 : Int) (a1 : List (Int)) (a2 : List (Int)) (a3 : Int) (a4 : Int) (a5 : Int) (a6 : Int) (a7 : Int) (a8 : Int) (a9 : Int) (a10 : Int) (a11 : Int) (a12 : Int) (a13 : Int) (a14 : Int) (a15 : Int) (a16 : Int) (a17 : Int) (a18 : Int) (a19 : Int) (a20 : Int) (a21 : Int) (a22 : Int) (a23 : Bool) (a24 : Bool) (a25 : Int) (a26 : Int) (a27 : Int) (a28 : Int) (a29 : Int) (a30 : Int) (a31 : Bool) (a32 : Bool) (a33 : Int) (a34 : Int) (a35 : List (Int)) (a36 : ByteArray) (a37 : Int) (a38 : Int) (a39 : Bool) (a40 : Int) (a41 : Int) : Option (Bool) :=
  Option.bind (F29 FUEL a0 a1 a2 a3 a4 a5 a6 a7 a8 a9 a10 a11 a12 a13 a14 a15 a16 a17 a18 a19 a26 a27 a28 a29 a30 a31 a32 a33 a34 a35 a36 a37 a38 a39 a40) fun y1 =>
  bif y1 then
  (Option.bind (F30 FUEL) fun y2 =>
   some y2)
  else (Option.bind (F31 FUEL a20 a21 a22 a23 a24 a25) fun y3 =>
   Option.bind (F32 FUEL a20 a21 a22 a23 a24 a25) fun y4 =>
   Option.bind (F33 FUEL a0 a1 a2 a3 a4 a5 a6 a7 a8 a9 a10 a11 a12 a13 a14 a15 a16 a17 a18 a19 a41) fun y5 =>
   Option.bind (F34 FUEL a0 a1 a2 a3 a4 a5 a6 a7 a8 a9 a10 a11 a12 a13 a14 a15 a16 a17 a18 a19 a41) fun y6 =>
   bif ((ieq y5.q0 y6.q0) && ((ieq y5.q1 y6.q1) && ((ieq y5.q2 y6.q2) && ((beqb y5.q3 y6.q3) && ((beqb y5.q4 y6.q4) && ((ieq y5.q5 y6.q5) && true)))))) then
   (Option.bind (F35 FUEL a0 a1 a2 a3 a4 a5 a6 a7 a8 a9 a10 a11 a12 a13 a14 a15 a16 a17 a18 a19 a20 a21 a22 a23 a24 a25 a26 a27 a28 a29 a30 a31 a32 a33 a34 a35 a36 a37 a38 a39 a40) fun y7 =>
    Option.bind (F36 FUEL a0 a1 a2 a3 a4 a5 a6 a7 a8 a9 a10 a11 a12 a13 a14 a15 a16 a17 a18 a19 a20 a21 a22 a23 a24 a25 a26 a27 a28 a29 a30 a31 a32 a33 a34 a35 a36 a37 a38 a39 a40) fun y8 =>
    bif ((ieq y7.q0 y8.q0) && ((ieq y7.q1 y8.q1) && ((ieq y7.q2 y8.q2) && ((beqb y7.q3 y8.q3) && ((beqb y7.q4 y8.q4) && ((ieq y7.q5 y8.q5) && true)))))) then
    (Option.bind (F37 FUEL a0 a1 a2 a3 a4 a5 a6 a7 a8 a9 a10 a11 a12 a13 a14 a15 a16 a17 a18 a19 a20 a21 a22 a23 a24 a25) fun y9 =>
     Option.bind (F38 FUEL a0 a1 a2 a3 a4 a5 a6 a7 a8 a9 a10 a11 a12 a13 a14 a15 a16 a17 a18 a19 a20 a21 a22 a23 a24 a25) fun y10 =>
     bif ((ieq y9.q0 y10.q0) && ((ieq y9.q1 y10.q1) && ((ieq y9.q2 y10.q2) && ((beqb y9.q3 y10.q3) && ((beqb y9.q4 y10.q4) && ((ieq y9.q5 y10.q5) && true)))))) then
     (Option.bind (F39 FUEL a20 a21 a22 a23 a24 a25) fun y11 =>
      Option.bind (F40 FUEL a20 a21 a22 a23 a24 a25) fun y12 =>
      bif (beqb y11 y12) then
      (Option.bind (F41 FUEL a20 a21 a22 a23 a24 a25) fun y13 =>
       Option.bind (F42 FUEL a20 a21 a22 a23 a24 a25) fun y14 =>
       bif (beqb y13 y14) then
       (Option.bind (F19 FUEL y3.q0 y3.q1 y3.q2 y3.q3 y3.q4 y3.q5 y3.q6 y3.q7 y3.q8 [] y3.q9 y3.q10 y3.q11 y3.q12 y3.q13 y4.q0 y4.q1 y4.q2 y4.q3 y4.q4 y4.q5 y4.q6 y4.q7 y4.q8 [] y4.q9 y4.q10 y4.q11 y4.q12 y4.q13) fun y15 =>
        bif y15 then
        (bif (beqb y3.q14 y4.q14) then
         (Option.bind (F30 FUEL) fun y16 =>
          some y16)
         else (some false))
        else (some false))
       else (some false))
      else (some false))
     else (some false))
    else (some false))
   else (some false))

/-! ### garland/garlandlaw18.LookEnds -/
def F9_c0 : Nat → Int → List (Int × Int) → List (Bool) → Int → Int → Int → List (Int) → List (Int) → Int → Int → Int → Int → Int → Int → Int → Int → Int → Int → Int → Int → Int → Int → Int → Int → Int → Int → Int → Int → Bool → Bool → Int → Option (Bool)
  | 0, _, _, _, _, _, _, _, _, _, _, _, _, _, _, _, _, _, _, _, _, _, _, _, _, _, _, _, _, _, _, _ => none
  | n + 1, x0, x1, x2, x3, x4, x5, x6, x7, x8, x9, x10, x11, x12, x13, x14, x15, x16, x17, x18, x19, x20, x21, x22, x23, x24, x25, x26, x27, x28, x29, x30 => bif (ilt x4 (ofN (List.length x1))) then
    (Option.bind (F39 FUEL x25 x26 x27 x28 x29 x30) fun y5 =>
     bif (!y5) then
     (some false)
     else (Option.bind (F27 FUEL x0) fun y6 =>
      bif (ine x25 y6) then
      (some false)
      else (bif (ine x27 x3) then
       (some false)
       else (Option.bind (F31 FUEL x25 x26 x27 x28 x29 x30) fun y7 =>
        Option.bind (F41 FUEL x25 x26 x27 x28 x29 x30) fun y8 =>
        bif (beqb y7.q14 y8) then
        (some false)
        else (bif (!y7.q14) then
         (bif (ile x3 (41)) then
          (bif (ilt x3 (41)) then
           (Option.bind (F30 FUEL) fun y9 =>
            some y9)
           else (Option.bind (F41 FUEL x25 x26 x27 x28 x29 x30) fun y10 =>
            bif y10 then
            (Option.bind (F30 FUEL) fun y11 =>
             some y11)
            else (some false)))
          else (some false))
         else (bif (ieq y7.q3 x5) then
          (some false)
          else (bif (ine y7.q3 x26) then
           (some false)
           else (bif (ine y7.q4 x25) then
            (some false)
            else (bif (ilt x4 (ofN (List.length x2))) then
             (bif (inb x4 (List.length x2)) then
              (bif (List.getD x2 (Int.toNat x4) false) then
               (Option.bind (F37 FUEL x5 x6 x7 x8 x9 x10 x11 x12 x13 x14 x15 x16 x17 x18 x19 x20 x21 x22 x23 x24 x25 x26 x27 x28 x29 x30) fun y12 =>
                bif (ine y12.q2 (iadd .i64 x3 (1))) then
                (some false)
                else (bif (ine y12.q0 x25) then
                 (some false)
                 else (bif (ile (iadd .i64 x3 (1)) (40)) then
                  (bif (bneb y12.q3 true) then
                   (some false)
                   else (bif (igt (iadd .i64 x3 (1)) (40)) then
                    (bif (ine y12.q5 (211)) then
                     (some false)
                     else (Option.bind (F41 FUEL y12.q0 y12.q1 y12.q2 y12.q3 y12.q4 y12.q5) fun y13 =>
                      bif y13 then
                      (bif (ile (iadd .i64 x3 (1)) (41)) then
                       (bif (ilt (iadd .i64 x3 (1)) (41)) then
                        (Option.bind (F30 FUEL) fun y14 =>
                         some y14)
                        else (Option.bind (F41 FUEL y12.q0 y12.q1 y12.q2 y12.q3 y12.q4 y12.q5) fun y15 =>
                         bif y15 then
                         (Option.bind (F30 FUEL) fun y16 =>
                          some y16)
                         else (some false)))
                       else (some false))
                      else (bif (inb x4 (List.length x1)) then
                       (bif (inb (0) 2) then
                        (bif (nlt (Int.toNat (0)) 2) then
                         (Option.bind (F27 FUEL (List.getD [(List.getD x1 (Int.toNat x4) (0, 0)).1, (List.getD x1 (Int.toNat x4) (0, 0)).2] (Int.toNat (0)) 0)) fun y17 =>
                          bif (inb x4 (List.length x1)) then
                          (bif (inb (1) 2) then
                           (bif (nlt (Int.toNat (1)) 2) then
                            (Option.bind (F43 FUEL y12.q1 x5 y17 (ieq (bits .and .i64 (List.getD [(List.getD x1 (Int.toNat x4) (0, 0)).1, (List.getD x1 (Int.toNat x4) (0, 0)).2] (Int.toNat (1)) 0) (7)) (0))) fun y18 =>
                             Option.bind (F35 FUEL x5 x6 x7 x8 x9 x10 x11 x12 x13 x14 x15 x16 x17 x18 x19 x20 x21 x22 x23 x24 y12.q0 y12.q1 y12.q2 y12.q3 y12.q4 y12.q5 y18.q0 y18.q1 y18.q2 y18.q3 y18.q4 y18.q5 y18.q6 y18.q7 y18.q8 [] y18.q9 y18.q10 y18.q11 y18.q12 y18.q13) fun y19 =>
                             bif (ine y19.q2 (iadd .i64 (iadd .i64 x3 (1)) (1))) then
                             (some false)
                             else (bif (igt (iadd .i64 (iadd .i64 x3 (1)) (1)) (40)) then
                              (bif (ine y19.q5 (211)) then
                               (some false)
                               else (bif y19.q4 then
                                (bif (ine y19.q1 y17) then
                                 (bif (ine y17 x5) then
                                  (some false)
                                  else (F9_c0 n x0 x1 x2 (iadd .i64 (iadd .i64 x3 (1)) (1)) (iadd .i64 x4 (1)) x5 x6 x7 x8 x9 x10 x11 x12 x13 x14 x15 x16 x17 x18 x19 x20 x21 x22 x23 x24 y19.q0 y19.q1 y19.q2 y19.q3 y19.q4 y19.q5))
                                 else (F9_c0 n x0 x1 x2 (iadd .i64 (iadd .i64 x3 (1)) (1)) (iadd .i64 x4 (1)) x5 x6 x7 x8 x9 x10 x11 x12 x13 x14 x15 x16 x17 x18 x19 x20 x21 x22 x23 x24 y19.q0 y19.q1 y19.q2 y19.q3 y19.q4 y19.q5))
                                else (F9_c0 n x0 x1 x2 (iadd .i64 (iadd .i64 x3 (1)) (1)) (iadd .i64 x4 (1)) x5 x6 x7 x8 x9 x10 x11 x12 x13 x14 x15 x16 x17 x18 x19 x20 x21 x22 x23 x24 y19.q0 y19.q1 y19.q2 y19.q3 y19.q4 y19.q5)))
                              else (bif y19.q4 then
                               (bif (ine y19.q1 y17) then
                                (bif (ine y17 x5) then
                                 (some false)
                                 else (F9_c0 n x0 x1 x2 (iadd .i64 (iadd .i64 x3 (1)) (1)) (iadd .i64 x4 (1)) x5 x6 x7 x8 x9 x10 x11 x12 x13 x14 x15 x16 x17 x18 x19 x20 x21 x22 x23 x24 y19.q0 y19.q1 y19.q2 y19.q3 y19.q4 y19.q5))
                                else (F9_c0 n x0 x1 x2 (iadd .i64 (iadd .i64 x3 (1)) (1)) (iadd .i64 x4 (1)) x5 x6 x7 x8 x9 x10 x11 x12 x13 x14 x15 x16 x17 x18 x19 x20 x21 x22 x23 x24 y19.q0 y19.q1 y19.q2 y19.q3 y19.q4 y19.q5))
                               else (F9_c0 n x0 x1 x2 (iadd .i64 (iadd .i64 x3 (1)) (1)) (iadd .i64 x4 (1)) x5 x6 x7 x8 x9 x10 x11 x12 x13 x14 x15 x16 x17 x18 x19 x20 x21 x22 x23 x24 y19.q0 y19.q1 y19.q2 y19.q3 y19.q4 y19.q5))))
                            else (none))
                           else (none))
                          else (none))
                         else (none))
                        else (none))
                       else (none))))
                    else (Option.bind (F41 FUEL y12.q0 y12.q1 y12.q2 y12.q3 y12.q4 y12.q5) fun y20 =>
                     bif y20 then
                     (bif (ile (iadd .i64 x3 (1)) (41)) then
                      (bif (ilt (iadd .i64 x3 (1)) (41)) then
                       (Option.bind (F30 FUEL) fun y21 =>
                        some y21)
                       else (Option.bind (F41 FUEL y12.q0 y12.q1 y12.q2 y12.q3 y12.q4 y12.q5) fun y22 =>
                        bif y22 then
                        (Option.bind (F30 FUEL) fun y23 =>
                         some y23)
                        else (some false)))
                      else (some false))
                     else (bif (inb x4 (List.length x1)) then
                      (bif (inb (0) 2) then
                       (bif (nlt (Int.toNat (0)) 2) then
                        (Option.bind (F27 FUEL (List.getD [(List.getD x1 (Int.toNat x4) (0, 0)).1, (List.getD x1 (Int.toNat x4) (0, 0)).2] (Int.toNat (0)) 0)) fun y24 =>
                         bif (inb x4 (List.length x1)) then
                         (bif (inb (1) 2) then
                          (bif (nlt (Int.toNat (1)) 2) then
                           (Option.bind (F43 FUEL y12.q1 x5 y24 (ieq (bits .and .i64 (List.getD [(List.getD x1 (Int.toNat x4) (0, 0)).1, (List.getD x1 (Int.toNat x4) (0, 0)).2] (Int.toNat (1)) 0) (7)) (0))) fun y25 =>
                            Option.bind (F35 FUEL x5 x6 x7 x8 x9 x10 x11 x12 x13 x14 x15 x16 x17 x18 x19 x20 x21 x22 x23 x24 y12.q0 y12.q1 y12.q2 y12.q3 y12.q4 y12.q5 y25.q0 y25.q1 y25.q2 y25.q3 y25.q4 y25.q5 y25.q6 y25.q7 y25.q8 [] y25.q9 y25.q10 y25.q11 y25.q12 y25.q13) fun y26 =>
                            bif (ine y26.q2 (iadd .i64 (iadd .i64 x3 (1)) (1))) then
                            (some false)
                            else (bif (igt (iadd .i64 (iadd .i64 x3 (1)) (1)) (40)) then
                             (bif (ine y26.q5 (211)) then
                              (some false)
                              else (bif y26.q4 then
                               (bif (ine y26.q1 y24) then
                                (bif (ine y24 x5) then
                                 (some false)
                                 else (F9_c0 n x0 x1 x2 (iadd .i64 (iadd .i64 x3 (1)) (1)) (iadd .i64 x4 (1)) x5 x6 x7 x8 x9 x10 x11 x12 x13 x14 x15 x16 x17 x18 x19 x20 x21 x22 x23 x24 y26.q0 y26.q1 y26.q2 y26.q3 y26.q4 y26.q5))
                                else (F9_c0 n x0 x1 x2 (iadd .i64 (iadd .i64 x3 (1)) (1)) (iadd .i64 x4 (1)) x5 x6 x7 x8 x9 x10 x11 x12 x13 x14 x15 x16 x17 x18 x19 x20 x21 x22 x23 x24 y26.q0 y26.q1 y26.q2 y26.q3 y26.q4 y26.q5))
                               else (F9_c0 n x0 x1 x2 (iadd .i64 (iadd .i64 x3 (1)) (1)) (iadd .i64 x4 (1)) x5 x6 x7 x8 x9 x10 x11 x12 x13 x14 x15 x16 x17 x18 x19 x20 x21 x22 x23 x24 y26.q0 y26.q1 y26.q2 y26.q3 y26.q4 y26.q5)))
                             else (bif y26.q4 then
                              (bif (ine y26.q1 y24) then
                               (bif (ine y24 x5) then
                                (some false)
                                else (F9_c0 n x0 x1 x2 (iadd .i64 (iadd .i64 x3 (1)) (1)) (iadd .i64 x4 (1)) x5 x6 x7 x8 x9 x10 x11 x12 x13 x14 x15 x16 x17 x18 x19 x20 x21 x22 x23 x24 y26.q0 y26.q1 y26.q2 y26.q3 y26.q4 y26.q5))
                               else (F9_c0 n x0 x1 x2 (iadd .i64 (iadd .i64 x3 (1)) (1)) (iadd .i64 x4 (1)) x5 x6 x7 x8 x9 x10 x11 x12 x13 x14 x15 x16 x17 x18 x19 x20 x21 x22 x23 x24 y26.q0 y26.q1 y26.q2 y26.q3 y26.q4 y26.q5))
                              else (F9_c0 n x0 x1 x2 (iadd .i64 (iadd .i64 x3 (1)) (1)) (iadd .i64 x4 (1)) x5 x6 x7 x8 x9 x10 x11 x12 x13 x14 x15 x16 x17 x18 x19 x20 x21 x22 x23 x24 y26.q0 y26.q1 y26.q2 y26.q3 y26.q4 y26.q5))))
                           else (none))
                          else (none))
                         else (none))
                        else (none))
                       else (none))
                      else (none)))))
                  else (bif (bneb y12.q3 x28) then
                   (some false)
                   else (bif (igt (iadd .i64 x3 (1)) (40)) then
                    (bif (ine y12.q5 (211)) then
                     (some false)
                     else (Option.bind (F41 FUEL y12.q0 y12.q1 y12.q2 y12.q3 y12.q4 y12.q5) fun y27 =>
                      bif y27 then
                      (bif (ile (iadd .i64 x3 (1)) (41)) then
                       (bif (ilt (iadd .i64 x3 (1)) (41)) then
                        (Option.bind (F30 FUEL) fun y28 =>
                         some y28)
                        else (Option.bind (F41 FUEL y12.q0 y12.q1 y12.q2 y12.q3 y12.q4 y12.q5) fun y29 =>
                         bif y29 then
                         (Option.bind (F30 FUEL) fun y30 =>
                          some y30)
                         else (some false)))
                       else (some false))
                      else (bif (inb x4 (List.length x1)) then
                       (bif (inb (0) 2) then
                        (bif (nlt (Int.toNat (0)) 2) then
                         (Option.bind (F27 FUEL (List.getD [(List.getD x1 (Int.toNat x4) (0, 0)).1, (List.getD x1 (Int.toNat x4) (0, 0)).2] (Int.toNat (0)) 0)) fun y31 =>
                          bif (inb x4 (List.length x1)) then
                          (bif (inb (1) 2) then
                           (bif (nlt (Int.toNat (1)) 2) then
                            (Option.bind (F43 FUEL y12.q1 x5 y31 (ieq (bits .and .i64 (List.getD [(List.getD x1 (Int.toNat x4) (0, 0)).1, (List.getD x1 (Int.toNat x4) (0, 0)).2] (Int.toNat (1)) 0) (7)) (0))) fun y32 =>
                             Option.bind (F35 FUEL x5 x6 x7 x8 x9 x10 x11 x12 x13 x14 x15 x16 x17 x18 x19 x20 x21 x22 x23 x24 y12.q0 y12.q1 y12.q2 y12.q3 y12.q4 y12.q5 y32.q0 y32.q1 y32.q2 y32.q3 y32.q4 y32.q5 y32.q6 y32.q7 y32.q8 [] y32.q9 y32.q10 y32.q11 y32.q12 y32.q13) fun y33 =>
                             bif (ine y33.q2 (iadd .i64 (iadd .i64 x3 (1)) (1))) then
                             (some false)
                             else (bif (igt (iadd .i64 (iadd .i64 x3 (1)) (1)) (40)) then
                              (bif (ine y33.q5 (211)) then
                               (some false)
                               else (bif y33.q4 then
                                (bif (ine y33.q1 y31) then
                                 (bif (ine y31 x5) then
                                  (some false)
                                  else (F9_c0 n x0 x1 x2 (iadd .i64 (iadd .i64 x3 (1)) (1)) (iadd .i64 x4 (1)) x5 x6 x7 x8 x9 x10 x11 x12 x13 x14 x15 x16 x17 x18 x19 x20 x21 x22 x23 x24 y33.q0 y33.q1 y33.q2 y33.q3 y33.q4 y33.q5))
                                 else (F9_c0 n x0 x1 x2 (iadd .i64 (iadd .i64 x3 (1)) (1)) (iadd .i64 x4 (1)) x5 x6 x7 x8 x9 x10 x11 x12 x13 x14 x15 x16 x17 x18 x19 x20 x21 x22 x23 x24 y33.q0 y33.q1 y33.q2 y33.q3 y33.q4 y33.q5))
                                else (F9_c0 n x0 x1 x2 (iadd .i64 (iadd .i64 x3 (1)) (1)) (iadd .i64 x4 (1)) x5 x6 x7 x8 x9 x10 x11 x12 x13 x14 x15 x16 x17 x18 x19 x20 x21 x22 x23 x24 y33.q0 y33.q1 y33.q2 y33.q3 y33.q4 y33.q5)))
                              else (bif y33.q4 then
                               (bif (ine y33.q1 y31) then
                                (bif (ine y31 x5) then
                                 (some false)
                                 else (F9_c0 n x0 x1 x2 (iadd .i64 (iadd .i64 x3 (1)) (1)) (iadd .i64 x4 (1)) x5 x6 x7 x8 x9 x10 x11 x12 x13 x14 x15 x16 x17 x18 x19 x20 x21 x22 x23 x24 y33.q0 y33.q1 y33.q2 y33.q3 y33.q4 y33.q5))
                                else (F9_c0 n x0 x1 x2 (iadd .i64 (iadd .i64 x3 (1)) (1)) (iadd .i64 x4 (1)) x5 x6 x7 x8 x9 x10 x11 x12 x13 x14 x15 x16 x17 x18 x19 x20 x21 x22 x23 x24 y33.q0 y33.q1 y33.q2 y33.q3 y33.q4 y33.q5))
                               else (F9_c0 n x0 x1 x2 (iadd .i64 (iadd .i64 x3 (1)) (1)) (iadd .i64 x4 (1)) x5 x6 x7 x8 x9 x10 x11 x12 x13 x14 x15 x16 x17 x18 x19 x20 x21 x22 x23 x24 y33.q0 y33.q1 y33.q2 y33.q3 y33.q4 y33.q5))))
                            else (none))
                           else (none))
                          else (none))
                         else (none))
                        else (none))
                       else (none))))
                    else (Option.bind (F41 FUEL y12.q0 y12.q1 y12.q2 y12.q3 y12.q4 y12.q5) fun y34 =>
                     bif y34 then
                     (bif (ile (iadd .i64 x3 (1)) (41)) then
                      (bif (ilt (iadd .i64 x3 (1)) (41)) then
                       (Option.bind (F30 FUEL) fun y35 =>
                        some y35)
                       else (Option.bind (F41 FUEL y12.q0 y12.q1 y12.q2 y12.q3 y12.q4 y12.q5) fun y36 =>
                        bif y36 then
                        (Option.bind (F30 FUEL) fun y37 =>
                         some y37)
                        else (some false)))
                      else (some false))
                     else (bif (inb x4 (List.length x1)) then
                      (bif (inb (0) 2) then
                       (bif (nlt (Int.toNat (0)) 2) then
                        (Option.bind (F27 FUEL (List.getD [(List.getD x1 (Int.toNat x4) (0, 0)).1, (List.getD x1 (Int.toNat x4) (0, 0)).2] (Int.toNat (0)) 0)) fun y38 =>
                         bif (inb x4 (List.length x1)) then
                         (bif (inb (1) 2) then
                          (bif (nlt (Int.toNat (1)) 2) then
                           (Option.bind (F43 FUEL y12.q1 x5 y38 (ieq (bits .and .i64 (List.getD [(List.getD x1 (Int.toNat x4) (0, 0)).1, (List.getD x1 (Int.toNat x4) (0, 0)).2] (Int.toNat (1)) 0) (7)) (0))) fun y39 =>
                            Option.bind (F35 FUEL x5 x6 x7 x8 x9 x10 x11 x12 x13 x14 x15 x16 x17 x18 x19 x20 x21 x22 x23 x24 y12.q0 y12.q1 y12.q2 y12.q3 y12.q4 y12.q5 y39.q0 y39.q1 y39.q2 y39.q3 y39.q4 y39.q5 y39.q6 y39.q7 y39.q8 [] y39.q9 y39.q10 y39.q11 y39.q12 y39.q13) fun y40 =>
                            bif (ine y40.q2 (iadd .i64 (iadd .i64 x3 (1)) (1))) then
                            (some false)
                            else (bif (igt (iadd .i64 (iadd .i64 x3 (1)) (1)) (40)) then
                             (bif (ine y40.q5 (211)) then
                              (some false)
                              else (bif y40.q4 then
                               (bif (ine y40.q1 y38) then
                                (bif (ine y38 x5) then
                                 (some false)
                                 else (F9_c0 n x0 x1 x2 (iadd .i64 (iadd .i64 x3 (1)) (1)) (iadd .i64 x4 (1)) x5 x6 x7 x8 x9 x10 x11 x12 x13 x14 x15 x16 x17 x18 x19 x20 x21 x22 x23 x24 y40.q0 y40.q1 y40.q2 y40.q3 y40.q4 y40.q5))
                                else (F9_c0 n x0 x1 x2 (iadd .i64 (iadd .i64 x3 (1)) (1)) (iadd .i64 x4 (1)) x5 x6 x7 x8 x9 x10 x11 x12 x13 x14 x15 x16 x17 x18 x19 x20 x21 x22 x23 x24 y40.q0 y40.q1 y40.q2 y40.q3 y40.q4 y40.q5))
                               else (F9_c0 n x0 x1 x2 (iadd .i64 (iadd .i64 x3 (1)) (1)) (iadd .i64 x4 (1)) x5 x6 x7 x8 x9 x10 x11 x12 x13 x14 x15 x16 x17 x18 x19 x20 x21 x22 x23 x24 y40.q0 y40.q1 y40.q2 y40.q3 y40.q4 y40.q5)))
                             else (bif y40.q4 then
                              (bif (ine y40.q1 y38) then
                               (bif (ine y38 x5) then
                                (some false)
                                else (F9_c0 n x0 x1 x2 (iadd .i64 (iadd .i64 x3 (1)) (1)) (iadd .i64 x4 (1)) x5 x6 x7 x8 x9 x10 x11 x12 x13 x14 x15 x16 x17 x18 x19 x20 x21 x22 x23 x24 y40.q0 y40.q1 y40.q2 y40.q3 y40.q4 y40.q5))
                               else (F9_c0 n x0 x1 x2 (iadd .i64 (iadd .i64 x3 (1)) (1)) (iadd .i64 x4 (1)) x5 x6 x7 x8 x9 x10 x11 x12 x13 x14 x15 x16 x17 x18 x19 x20 x21 x22 x23 x24 y40.q0 y40.q1 y40.q2 y40.q3 y40.q4 y40.q5))
                              else (F9_c0 n x0 x1 x2 (iadd .i64 (iadd .i64 x3 (1)) (1)) (iadd .i64 x4 (1)) x5 x6 x7 x8 x9 x10 x11 x12 x13 x14 x15 x16 x17 x18 x19 x20 x21 x22 x23 x24 y40.q0 y40.q1 y40.q2 y40.q3 y40.q4 y40.q5))))
                           else (none))
                          else (none))
                         else (none))
                        else (none))
                       else (none))
                      else (none))))))))
               else (bif (inb x4 (List.length x1)) then
                (bif (inb (0) 2) then
                 (bif (nlt (Int.toNat (0)) 2) then
                  (Option.bind (F27 FUEL (List.getD [(List.getD x1 (Int.toNat x4) (0, 0)).1, (List.getD x1 (Int.toNat x4) (0, 0)).2] (Int.toNat (0)) 0)) fun y41 =>
                   bif (inb x4 (List.length x1)) then
                   (bif (inb (1) 2) then
                    (bif (nlt (Int.toNat (1)) 2) then
                     (Option.bind (F43 FUEL x26 x5 y41 (ieq (bits .and .i64 (List.getD [(List.getD x1 (Int.toNat x4) (0, 0)).1, (List.getD x1 (Int.toNat x4) (0, 0)).2] (Int.toNat (1)) 0) (7)) (0))) fun y42 =>
                      Option.bind (F35 FUEL x5 x6 x7 x8 x9 x10 x11 x12 x13 x14 x15 x16 x17 x18 x19 x20 x21 x22 x23 x24 x25 x26 x27 x28 x29 x30 y42.q0 y42.q1 y42.q2 y42.q3 y42.q4 y42.q5 y42.q6 y42.q7 y42.q8 [] y42.q9 y42.q10 y42.q11 y42.q12 y42.q13) fun y43 =>
                      bif (ine y43.q2 (iadd .i64 x3 (1))) then
                      (some false)
                      else (bif (igt (iadd .i64 x3 (1)) (40)) then
                       (bif (ine y43.q5 (211)) then
                        (some false)
                        else (bif y43.q4 then
                         (bif (ine y43.q1 y41) then
                          (bif (ine y41 x5) then
                           (some false)
                           else (F9_c0 n x0 x1 x2 (iadd .i64 x3 (1)) (iadd .i64 x4 (1)) x5 x6 x7 x8 x9 x10 x11 x12 x13 x14 x15 x16 x17 x18 x19 x20 x21 x22 x23 x24 y43.q0 y43.q1 y43.q2 y43.q3 y43.q4 y43.q5))
                          else (F9_c0 n x0 x1 x2 (iadd .i64 x3 (1)) (iadd .i64 x4 (1)) x5 x6 x7 x8 x9 x10 x11 x12 x13 x14 x15 x16 x17 x18 x19 x20 x21 x22 x23 x24 y43.q0 y43.q1 y43.q2 y43.q3 y43.q4 y43.q5))
                         else (F9_c0 n x0 x1 x2 (iadd .i64 x3 (1)) (iadd .i64 x4 (1)) x5 x6 x7 x8 x9 x10 x11 x12 x13 x14 x15 x16 x17 x18 x19 x20 x21 x22 x23 x24 y43.q0 y43.q1 y43.q2 y43.q3 y43.q4 y43.q5)))
                       else (bif y43.q4 then
                        (bif (ine y43.q1 y41) then
                         (bif (ine y41 x5) then
                          (some false)
                          else (F9_c0 n x0 x1 x2 (iadd .i64 x3 (1)) (iadd .i64 x4 (1)) x5 x6 x7 x8 x9 x10 x11 x12 x13 x14 x15 x16 x17 x18 x19 x20 x21 x22 x23 x24 y43.q0 y43.q1 y43.q2 y43.q3 y43.q4 y43.q5))
                         else (F9_c0 n x0 x1 x2 (iadd .i64 x3 (1)) (iadd .i64 x4 (1)) x5 x6 x7 x8 x9 x10 x11 x12 x13 x14 x15 x16 x17 x18 x19 x20 x21 x22 x23 x24 y43.q0 y43.q1 y43.q2 y43.q3 y43.q4 y43.q5))
                        else (F9_c0 n x0 x1 x2 (iadd .i64 x3 (1)) (iadd .i64 x4 (1)) x5 x6 x7 x8 x9 x10 x11 x12 x13 x14 x15 x16 x17 x18 x19 x20 x21 x22 x23 x24 y43.q0 y43.q1 y43.q2 y43.q3 y43.q4 y43.q5))))
                     else (none))
                    else (none))
                   else (none))
                  else (none))
                 else (none))
                else (none)))
              else (none))
             else (bif (inb x4 (List.length x1)) then
              (bif (inb (0) 2) then
               (bif (nlt (Int.toNat (0)) 2) then
                (Option.bind (F27 FUEL (List.getD [(List.getD x1 (Int.toNat x4) (0, 0)).1, (List.getD x1 (Int.toNat x4) (0, 0)).2] (Int.toNat (0)) 0)) fun y44 =>
                 bif (inb x4 (List.length x1)) then
                 (bif (inb (1) 2) then
                  (bif (nlt (Int.toNat (1)) 2) then
                   (Option.bind (F43 FUEL x26 x5 y44 (ieq (bits .and .i64 (List.getD [(List.getD x1 (Int.toNat x4) (0, 0)).1, (List.getD x1 (Int.toNat x4) (0, 0)).2] (Int.toNat (1)) 0) (7)) (0))) fun y45 =>
                    Option.bind (F35 FUEL x5 x6 x7 x8 x9 x10 x11 x12 x13 x14 x15 x16 x17 x18 x19 x20 x21 x22 x23 x24 x25 x26 x27 x28 x29 x30 y45.q0 y45.q1 y45.q2 y45.q3 y45.q4 y45.q5 y45.q6 y45.q7 y45.q8 [] y45.q9 y45.q10 y45.q11 y45.q12 y45.q13) fun y46 =>
                    bif (ine y46.q2 (iadd .i64 x3 (1))) then
                    (some false)
                    else (bif (igt (iadd .i64 x3 (1)) (40)) then
                     (bif (ine y46.q5 (211)) then
                      (some false)
                      else (bif y46.q4 then
                       (bif (ine y46.q1 y44) then
                        (bif (ine y44 x5) then
                         (some false)
                         else (F9_c0 n x0 x1 x2 (iadd .i64 x3 (1)) (iadd .i64 x4 (1)) x5 x6 x7 x8 x9 x10 x11 x12 x13 x14 x15 x16 x17 x18 x19 x20 x21 x22 x23 x24 y46.q0 y46.q1 y46.q2 y46.q3 y46.q4 y46.q5))
                        else (F9_c0 n x0 x1 x2 (iadd .i64 x3 (1)) (iadd .i64 x4 (1)) x5 x6 x7 x8 x9 x10 x11 x12 x13 x14 x15 x16 x17 x18 x19 x20 x21 x22 x23 x24 y46.q0 y46.q1 y46.q2 y46.q3 y46.q4 y46.q5))
                       else (F9_c0 n x0 x1 x2 (iadd .i64 x3 (1)) (iadd .i64 x4 (1)) x5 x6 x7 x8 x9 x10 x11 x12 x13 x14 x15 x16 x17 x18 x19 x20 x21 x22 x23 x24 y46.q0 y46.q1 y46.q2 y46.q3 y46.q4 y46.q5)))
                     else (bif y46.q4 then
                      (bif (ine y46.q1 y44) then
                       (bif (ine y44 x5) then
                        (some false)
                        else (F9_c0 n x0 x1 x2 (iadd .i64 x3 (1)) (iadd .i64 x4 (1)) x5 x6 x7 x8 x9 x10 x11 x12 x13 x14 x15 x16 x17 x18 x19 x20 x21 x22 x23 x24 y46.q0 y46.q1 y46.q2 y46.q3 y46.q4 y46.q5))
                       else (F9_c0 n x0 x1 x2 (iadd .i64 x3 (1)) (iadd .i64 x4 (1)) x5 x6 x7 x8 x9 x10 x11 x12 x13 x14 x15 x16 x17 x18 x19 x20 x21 x22 x23 x24 y46.q0 y46.q1 y46.q2 y46.q3 y46.q4 y46.q5))
                      else (F9_c0 n x0 x1 x2 (iadd .i64 x3 (1)) (iadd .i64 x4 (1)) x5 x6 x7 x8 x9 x10 x11 x12 x13 x14 x15 x16 x17 x18 x19 x20 x21 x22 x23 x24 y46.q0 y46.q1 y46.q2 y46.q3 y46.q4 y46.q5))))
                   else (none))
                  else (none))
                 else (none))
                else (none))
               else (none))
              else (none)))))))))))
    else (bif (ile x3 (41)) then
     (bif (ilt x3 (41)) then
      (Option.bind (F30 FUEL) fun y47 =>
       some y47)
      else (Option.bind (F41 FUEL x25 x26 x27 x28 x29 x30) fun y48 =>
       bif y48 then
       (Option.bind (F30 FUEL) fun y49 =>
        some y49)
       else (some false)))
     else (some false))
def F9 (n : Nat) (a0 : Int) (a1 : List (Int)) (a2 : List (Int)) (a3 : Int) (a4 : Int) (a5 : Int) (a6 : Int) (a7 : Int) (a8 : Int) (a9 : Int) (a10 : Int) (a11 : Int) (a12 : Int) (a13 : Int) (a14 : Int) (a15 : Int) (a16 : Int) (a17 : Int) (a18 : Int) (a19 : Int) (a20 : Int) (a21 : List (Int × Int)) (a22 : List (Bool)) : Option (Bool) :=
  Option.bind (F24 FUEL a0 a1 a2 a3 a4 a5 a6 a7 a8 a9 a10 a11 a12 a13 a14 a15 a16 a17 a18 a19) fun y1 =>
  bif (!y1) then
  (Option.bind (F30 FUEL) fun y2 =>
   some y2)
  else (bif (igt (ofN (List.length a21)) (60)) then
   (Option.bind (F30 FUEL) fun y3 =>
    some y3)
   else (Option.bind (F33 FUEL a0 a1 a2 a3 a4 a5 a6 a7 a8 a9 a10 a11 a12 a13 a14 a15 a16 a17 a18 a19 a20) fun y4 =>
    F9_c0 n a20 a21 a22 (0) (0) a0 a1 a2 a3 a4 a5 a6 a7 a8 a9 a10 a11 a12 a13 a14 a15 a16 a17 a18 a19 y4.q0 y4.q1 y4.q2 y4.q3 y4.q4 y4.q5))

/-! ### garland/garlandref16.left -/
def F53 (_n : Nat) (a0 : Int) (a1 : Int) : Option (Int) :=
  Option.bind (F26 FUEL a0 a1) fun y1 =>
  bif (ieq y1 (0)) then
  (some (65536))
  else (some y1)

/-! ### garland/garlandref16.Closer -/
def F23 (_n : Nat) (a0 : Int) (a1 : Int) (a2 : Int) : Option (Bool) :=
  Option.bind (F53 FUEL a2 a0) fun y1 =>
  Option.bind (F53 FUEL a1 a0) fun y2 =>
  some (ilt y1 y2)

/-! ### garland/garlandlaw18.LookCloser -/
mutual
def F10_c0 : Nat → List (Int × (List (Int)) × (List (Int)) × Int × Int × Int × Int × Int × Int × Int × Int × Int × Int × Int × Int × Int × Int × Int × Int × Int) → Int → Int → Int → Option (Bool)
  | 0, _, _, _, _ => none
  | n + 1, x0, x1, x2, x3 => bif (ilt x3 (ofN (List.length x0))) then
    (bif (inb x3 (List.length x0)) then
     (Option.bind (F24 FUEL (List.getD x0 (Int.toNat x3) (0, [], [], 0, 0, 0, 0, 0, 0, 0, 0, 0, 0, 0, 0, 0, 0, 0, 0, 0)).1 (List.getD x0 (Int.toNat x3) (0, [], [], 0, 0, 0, 0, 0, 0, 0, 0, 0, 0, 0, 0, 0, 0, 0, 0, 0)).2.1 (List.getD x0 (Int.toNat x3) (0, [], [], 0, 0, 0, 0, 0, 0, 0, 0, 0, 0, 0, 0, 0, 0, 0, 0, 0)).2.2.1 (List.getD x0 (Int.toNat x3) (0, [], [], 0, 0, 0, 0, 0, 0, 0, 0, 0, 0, 0, 0, 0, 0, 0, 0, 0)).2.2.2.1 (List.getD x0 (Int.toNat x3) (0, [], [], 0, 0, 0, 0, 0, 0, 0, 0, 0, 0, 0, 0, 0, 0, 0, 0, 0)).2.2.2.2.1 (List.getD x0 (Int.toNat x3) (0, [], [], 0, 0, 0, 0, 0, 0, 0, 0, 0, 0, 0, 0, 0, 0, 0, 0, 0)).2.2.2.2.2.1 (List.getD x0 (Int.toNat x3) (0, [], [], 0, 0, 0, 0, 0, 0, 0, 0, 0, 0, 0, 0, 0, 0, 0, 0, 0)).2.2.2.2.2.2.1 (List.getD x0 (Int.toNat x3) (0, [], [], 0, 0, 0, 0, 0, 0, 0, 0, 0, 0, 0, 0, 0, 0, 0, 0, 0)).2.2.2.2.2.2.2.1 (List.getD x0 (Int.toNat x3) (0, [], [], 0, 0, 0, 0, 0, 0, 0, 0, 0, 0, 0, 0, 0, 0, 0, 0, 0)).2.2.2.2.2.2.2.2.1 (List.getD x0 (Int.toNat x3) (0, [], [], 0, 0, 0, 0, 0, 0, 0, 0, 0, 0, 0, 0, 0, 0, 0, 0, 0)).2.2.2.2.2.2.2.2.2.1 (List.getD x0 (Int.toNat x3) (0, [], [], 0, 0, 0, 0, 0, 0, 0, 0, 0, 0, 0, 0, 0, 0, 0, 0, 0)).2.2.2.2.2.2.2.2.2.2.1 (List.getD x0 (Int.toNat x3) (0, [], [], 0, 0, 0, 0, 0, 0, 0, 0, 0, 0, 0, 0, 0, 0, 0, 0, 0)).2.2.2.2.2.2.2.2.2.2.2.1 (List.getD x0 (Int.toNat x3) (0, [], [], 0, 0, 0, 0, 0, 0, 0, 0, 0, 0, 0, 0, 0, 0, 0, 0, 0)).2.2.2.2.2.2.2.2.2.2.2.2.1 (List.getD x0 (Int.toNat x3) (0, [], [], 0, 0, 0, 0, 0, 0, 0, 0, 0, 0, 0, 0, 0, 0, 0, 0, 0)).2.2.2.2.2.2.2.2.2.2.2.2.2.1 (List.getD x0 (Int.toNat x3) (0, [], [], 0, 0, 0, 0, 0, 0, 0, 0, 0, 0, 0, 0, 0, 0, 0, 0, 0)).2.2.2.2.2.2.2.2.2.2.2.2.2.2.1 (List.getD x0 (Int.toNat x3) (0, [], [], 0, 0, 0, 0, 0, 0, 0, 0, 0, 0, 0, 0, 0, 0, 0, 0, 0)).2.2.2.2.2.2.2.2.2.2.2.2.2.2.2.1 (List.getD x0 (Int.toNat x3) (0, [], [], 0, 0, 0, 0, 0, 0, 0, 0, 0, 0, 0, 0, 0, 0, 0, 0, 0)).2.2.2.2.2.2.2.2.2.2.2.2.2.2.2.2.1 (List.getD x0 (Int.toNat x3) (0, [], [], 0, 0, 0, 0, 0, 0, 0, 0, 0, 0, 0, 0, 0, 0, 0, 0, 0)).2.2.2.2.2.2.2.2.2.2.2.2.2.2.2.2.2.1 (List.getD x0 (Int.toNat x3) (0, [], [], 0, 0, 0, 0, 0, 0, 0, 0, 0, 0, 0, 0, 0, 0, 0, 0, 0)).2.2.2.2.2.2.2.2.2.2.2.2.2.2.2.2.2.2.1 (List.getD x0 (Int.toNat x3) (0, [], [], 0, 0, 0, 0, 0, 0, 0, 0, 0, 0, 0, 0, 0, 0, 0, 0, 0)).2.2.2.2.2.2.2.2.2.2.2.2.2.2.2.2.2.2.2) fun y3 =>
      bif (!y3) then
      (Option.bind (F30 FUEL) fun y4 =>
       some y4)
      else (F10_c1 n x0 x1 x2 x3 (0)))
     else (none))
    else (bif (inz (ofN (List.length x0))) then
     (bif (inz (ofN (List.length x0))) then
      (bif (inb (irem (iadd .i64 (irem x2 (ofN (List.length x0))) (ofN (List.length x0))) (ofN (List.length x0))) (List.length x0)) then
       (Option.bind (F33 FUEL (List.getD x0 (Int.toNat (irem (iadd .i64 (irem x2 (ofN (List.length x0))) (ofN (List.length x0))) (ofN (List.length x0)))) (0, [], [], 0, 0, 0, 0, 0, 0, 0, 0, 0, 0, 0, 0, 0, 0, 0, 0, 0)).1 (List.getD x0 (Int.toNat (irem (iadd .i64 (irem x2 (ofN (List.length x0))) (ofN (List.length x0))) (ofN (List.length x0)))) (0, [], [], 0, 0, 0, 0, 0, 0, 0, 0, 0, 0, 0, 0, 0, 0, 0, 0, 0)).2.1 (List.getD x0 (Int.toNat (irem (iadd .i64 (irem x2 (ofN (List.length x0))) (ofN (List.length x0))) (ofN (List.length x0)))) (0, [], [], 0, 0, 0, 0, 0, 0, 0, 0, 0, 0, 0, 0, 0, 0, 0, 0, 0)).2.2.1 (List.getD x0 (Int.toNat (irem (iadd .i64 (irem x2 (ofN (List.length x0))) (ofN (List.length x0))) (ofN (List.length x0)))) (0, [], [], 0, 0, 0, 0, 0, 0, 0, 0, 0, 0, 0, 0, 0, 0, 0, 0, 0)).2.2.2.1 (List.getD x0 (Int.toNat (irem (iadd .i64 (irem x2 (ofN (List.length x0))) (ofN (List.length x0))) (ofN (List.length x0)))) (0, [], [], 0, 0, 0, 0, 0, 0, 0, 0, 0, 0, 0, 0, 0, 0, 0, 0, 0)).2.2.2.2.1 (List.getD x0 (Int.toNat (irem (iadd .i64 (irem x2 (ofN (List.length x0))) (ofN (List.length x0))) (ofN (List.length x0)))) (0, [], [], 0, 0, 0, 0, 0, 0, 0, 0, 0, 0, 0, 0, 0, 0, 0, 0, 0)).2.2.2.2.2.1 (List.getD x0 (Int.toNat (irem (iadd .i64 (irem x2 (ofN (List.length x0))) (ofN (List.length x0))) (ofN (List.length x0)))) (0, [], [], 0, 0, 0, 0, 0, 0, 0, 0, 0, 0, 0, 0, 0, 0, 0, 0, 0)).2.2.2.2.2.2.1 (List.getD x0 (Int.toNat (irem (iadd .i64 (irem x2 (ofN (List.length x0))) (ofN (List.length x0))) (ofN (List.length x0)))) (0, [], [], 0, 0, 0, 0, 0, 0, 0, 0, 0, 0, 0, 0, 0, 0, 0, 0, 0)).2.2.2.2.2.2.2.1 (List.getD x0 (Int.toNat (irem (iadd .i64 (irem x2 (ofN (List.length x0))) (ofN (List.length x0))) (ofN (List.length x0)))) (0, [], [], 0, 0, 0, 0, 0, 0, 0, 0, 0, 0, 0, 0, 0, 0, 0, 0, 0)).2.2.2.2.2.2.2.2.1 (List.getD x0 (Int.toNat (irem (iadd .i64 (irem x2 (ofN (List.length x0))) (ofN (List.length x0))) (ofN (List.length x0)))) (0, [], [], 0, 0, 0, 0, 0, 0, 0, 0, 0, 0, 0, 0, 0, 0, 0, 0, 0)).2.2.2.2.2.2.2.2.2.1 (List.getD x0 (Int.toNat (irem (iadd .i64 (irem x2 (ofN (List.length x0))) (ofN (List.length x0))) (ofN (List.length x0)))) (0, [], [], 0, 0, 0, 0, 0, 0, 0, 0, 0, 0, 0, 0, 0, 0, 0, 0, 0)).2.2.2.2.2.2.2.2.2.2.1 (List.getD x0 (Int.toNat (irem (iadd .i64 (irem x2 (ofN (List.length x0))) (ofN (List.length x0))) (ofN (List.length x0)))) (0, [], [], 0, 0, 0, 0, 0, 0, 0, 0, 0, 0, 0, 0, 0, 0, 0, 0, 0)).2.2.2.2.2.2.2.2.2.2.2.1 (List.getD x0 (Int.toNat (irem (iadd .i64 (irem x2 (ofN (List.length x0))) (ofN (List.length x0))) (ofN (List.length x0)))) (0, [], [], 0, 0, 0, 0, 0, 0, 0, 0, 0, 0, 0, 0, 0, 0, 0, 0, 0)).2.2.2.2.2.2.2.2.2.2.2.2.1 (List.getD x0 (Int.toNat (irem (iadd .i64 (irem x2 (ofN (List.length x0))) (ofN (List.length x0))) (ofN (List.length x0)))) (0, [], [], 0, 0, 0, 0, 0, 0, 0, 0, 0, 0, 0, 0, 0, 0, 0, 0, 0)).2.2.2.2.2.2.2.2.2.2.2.2.2.1 (List.getD x0 (Int.toNat (irem (iadd .i64 (irem x2 (ofN (List.length x0))) (ofN (List.length x0))) (ofN (List.length x0)))) (0, [], [], 0, 0, 0, 0, 0, 0, 0, 0, 0, 0, 0, 0, 0, 0, 0, 0, 0)).2.2.2.2.2.2.2.2.2.2.2.2.2.2.1 (List.getD x0 (Int.toNat (irem (iadd .i64 (irem x2 (ofN (List.length x0))) (ofN (List.length x0))) (ofN (List.length x0)))) (0, [], [], 0, 0, 0, 0, 0, 0, 0, 0, 0, 0, 0, 0, 0, 0, 0, 0, 0)).2.2.2.2.2.2.2.2.2.2.2.2.2.2.2.1 (List.getD x0 (Int.toNat (irem (iadd .i64 (irem x2 (ofN (List.length x0))) (ofN (List.length x0))) (ofN (List.length x0)))) (0, [], [], 0, 0, 0, 0, 0, 0, 0, 0, 0, 0, 0, 0, 0, 0, 0, 0, 0)).2.2.2.2.2.2.2.2.2.2.2.2.2.2.2.2.1 (List.getD x0 (Int.toNat (irem (iadd .i64 (irem x2 (ofN (List.length x0))) (ofN (List.length x0))) (ofN (List.length x0)))) (0, [], [], 0, 0, 0, 0, 0, 0, 0, 0, 0, 0, 0, 0, 0, 0, 0, 0, 0)).2.2.2.2.2.2.2.2.2.2.2.2.2.2.2.2.2.1 (List.getD x0 (Int.toNat (irem (iadd .i64 (irem x2 (ofN (List.length x0))) (ofN (List.length x0))) (ofN (List.length x0)))) (0, [], [], 0, 0, 0, 0, 0, 0, 0, 0, 0, 0, 0, 0, 0, 0, 0, 0, 0)).2.2.2.2.2.2.2.2.2.2.2.2.2.2.2.2.2.2.1 (List.getD x0 (Int.toNat (irem (iadd .i64 (irem x2 (ofN (List.length x0))) (ofN (List.length x0))) (ofN (List.length x0)))) (0, [], [], 0, 0, 0, 0, 0, 0, 0, 0, 0, 0, 0, 0, 0, 0, 0, 0, 0)).2.2.2.2.2.2.2.2.2.2.2.2.2.2.2.2.2.2.2 x1) fun y5 =>
        F10_c2 n x0 x1 (0) (List.getD x0 (Int.toNat (irem (iadd .i64 (irem x2 (ofN (List.length x0))) (ofN (List.length x0))) (ofN (List.length x0)))) (0, [], [], 0, 0, 0, 0, 0, 0, 0, 0, 0, 0, 0, 0, 0, 0, 0, 0, 0)).1 (List.getD x0 (Int.toNat (irem (iadd .i64 (irem x2 (ofN (List.length x0))) (ofN (List.length x0))) (ofN (List.length x0)))) (0, [], [], 0, 0, 0, 0, 0, 0, 0, 0, 0, 0, 0, 0, 0, 0, 0, 0, 0)).2.1 (List.getD x0 (Int.toNat (irem (iadd .i64 (irem x2 (ofN (List.length x0))) (ofN (List.length x0))) (ofN (List.length x0)))) (0, [], [], 0, 0, 0, 0, 0, 0, 0, 0, 0, 0, 0, 0, 0, 0, 0, 0, 0)).2.2.1 (List.getD x0 (Int.toNat (irem (iadd .i64 (irem x2 (ofN (List.length x0))) (ofN (List.length x0))) (ofN (List.length x0)))) (0, [], [], 0, 0, 0, 0, 0, 0, 0, 0, 0, 0, 0, 0, 0, 0, 0, 0, 0)).2.2.2.1 (List.getD x0 (Int.toNat (irem (iadd .i64 (irem x2 (ofN (List.length x0))) (ofN (List.length x0))) (ofN (List.length x0)))) (0, [], [], 0, 0, 0, 0, 0, 0, 0, 0, 0, 0, 0, 0, 0, 0, 0, 0, 0)).2.2.2.2.1 (List.getD x0 (Int.toNat (irem (iadd .i64 (irem x2 (ofN (List.length x0))) (ofN (List.length x0))) (ofN (List.length x0)))) (0, [], [], 0, 0, 0, 0, 0, 0, 0, 0, 0, 0, 0, 0, 0, 0, 0, 0, 0)).2.2.2.2.2.1 (List.getD x0 (Int.toNat (irem (iadd .i64 (irem x2 (ofN (List.length x0))) (ofN (List.length x0))) (ofN (List.length x0)))) (0, [], [], 0, 0, 0, 0, 0, 0, 0, 0, 0, 0, 0, 0, 0, 0, 0, 0, 0)).2.2.2.2.2.2.1 (List.getD x0 (Int.toNat (irem (iadd .i64 (irem x2 (ofN (List.length x0))) (ofN (List.length x0))) (ofN (List.length x0)))) (0, [], [], 0, 0, 0, 0, 0, 0, 0, 0, 0, 0, 0, 0, 0, 0, 0, 0, 0)).2.2.2.2.2.2.2.1 (List.getD x0 (Int.toNat (irem (iadd .i64 (irem x2 (ofN (List.length x0))) (ofN (List.length x0))) (ofN (List.length x0)))) (0, [], [], 0, 0, 0, 0, 0, 0, 0, 0, 0, 0, 0, 0, 0, 0, 0, 0, 0)).2.2.2.2.2.2.2.2.1 (List.getD x0 (Int.toNat (irem (iadd .i64 (irem x2 (ofN (List.length x0))) (ofN (List.length x0))) (ofN (List.length x0)))) (0, [], [], 0, 0, 0, 0, 0, 0, 0, 0, 0, 0, 0, 0, 0, 0, 0, 0, 0)).2.2.2.2.2.2.2.2.2.1 (List.getD x0 (Int.toNat (irem (iadd .i64 (irem x2 (ofN (List.length x0))) (ofN (List.length x0))) (ofN (List.length x0)))) (0, [], [], 0, 0, 0, 0, 0, 0, 0, 0, 0, 0, 0, 0, 0, 0, 0, 0, 0)).2.2.2.2.2.2.2.2.2.2.1 (List.getD x0 (Int.toNat (irem (iadd .i64 (irem x2 (ofN (List.length x0))) (ofN (List.length x0))) (ofN (List.length x0)))) (0, [], [], 0, 0, 0, 0, 0, 0, 0, 0, 0, 0, 0, 0, 0, 0, 0, 0, 0)).2.2.2.2.2.2.2.2.2.2.2.1 (List.getD x0 (Int.toNat (irem (iadd .i64 (irem x2 (ofN (List.length x0))) (ofN (List.length x0))) (ofN (List.length x0)))) (0, [], [], 0, 0, 0, 0, 0, 0, 0, 0, 0, 0, 0, 0, 0, 0, 0, 0, 0)).2.2.2.2.2.2.2.2.2.2.2.2.1 (List.getD x0 (Int.toNat (irem (iadd .i64 (irem x2 (ofN (List.length x0))) (ofN (List.length x0))) (ofN (List.length x0)))) (0, [], [], 0, 0, 0, 0, 0, 0, 0, 0, 0, 0, 0, 0, 0, 0, 0, 0, 0)).2.2.2.2.2.2.2.2.2.2.2.2.2.1 (List.getD x0 (Int.toNat (irem (iadd .i64 (irem x2 (ofN (List.length x0))) (ofN (List.length x0))) (ofN (List.length x0)))) (0, [], [], 0, 0, 0, 0, 0, 0, 0, 0, 0, 0, 0, 0, 0, 0, 0, 0, 0)).2.2.2.2.2.2.2.2.2.2.2.2.2.2.1 (List.getD x0 (Int.toNat (irem (iadd .i64 (irem x2 (ofN (List.length x0))) (ofN (List.length x0))) (ofN (List.length x0)))) (0, [], [], 0, 0, 0, 0, 0, 0, 0, 0, 0, 0, 0, 0, 0, 0, 0, 0, 0)).2.2.2.2.2.2.2.2.2.2.2.2.2.2.2.1 (List.getD x0 (Int.toNat (irem (iadd .i64 (irem x2 (ofN (List.length x0))) (ofN (List.length x0))) (ofN (List.length x0)))) (0, [], [], 0, 0, 0, 0, 0, 0, 0, 0, 0, 0, 0, 0, 0, 0, 0, 0, 0)).2.2.2.2.2.2.2.2.2.2.2.2.2.2.2.2.1 (List.getD x0 (Int.toNat (irem (iadd .i64 (irem x2 (ofN (List.length x0))) (ofN (List.length x0))) (ofN (List.length x0)))) (0, [], [], 0, 0, 0, 0, 0, 0, 0, 0, 0, 0, 0, 0, 0, 0, 0, 0, 0)).2.2.2.2.2.2.2.2.2.2.2.2.2.2.2.2.2.1 (List.getD x0 (Int.toNat (irem (iadd .i64 (irem x2 (ofN (List.length x0))) (ofN (List.length x0))) (ofN (List.length x0)))) (0, [], [], 0, 0, 0, 0, 0, 0, 0, 0, 0, 0, 0, 0, 0, 0, 0, 0, 0)).2.2.2.2.2.2.2.2.2.2.2.2.2.2.2.2.2.2.1 (List.getD x0 (Int.toNat (irem (iadd .i64 (irem x2 (ofN (List.length x0))) (ofN (List.length x0))) (ofN (List.length x0)))) (0, [], [], 0, 0, 0, 0, 0, 0, 0, 0, 0, 0, 0, 0, 0, 0, 0, 0, 0)).2.2.2.2.2.2.2.2.2.2.2.2.2.2.2.2.2.2.2 y5.q0 y5.q1 y5.q2 y5.q3 y5.q4 y5.q5)
       else (none))
      else (none))
     else (none))
def F10_c1 : Nat → List (Int × (List (Int)) × (List (Int)) × Int × Int × Int × Int × Int × Int × Int × Int × Int × Int × Int × Int × Int × Int × Int × Int × Int) → Int → Int → Int → Int → Option (Bool)
  | 0, _, _, _, _, _ => none
  | n + 1, x0, x1, x2, x3, x4 => bif (ilt x4 x3) then
    (bif (inb x4 (List.length x0)) then
     (bif (inb x3 (List.length x0)) then
      (bif (ieq (List.getD x0 (Int.toNat x4) (0, [], [], 0, 0, 0, 0, 0, 0, 0, 0, 0, 0, 0, 0, 0, 0, 0, 0, 0)).1 (List.getD x0 (Int.toNat x3) (0, [], [], 0, 0, 0, 0, 0, 0, 0, 0, 0, 0, 0, 0, 0, 0, 0, 0, 0)).1) then
       (Option.bind (F30 FUEL) fun y6 =>
        some y6)
       else (F10_c1 n x0 x1 x2 x3 (iadd .i64 x4 (1))))
      else (none))
     else (none))
    else (F10_c0 n x0 x1 x2 (iadd .i64 x3 (1)))
def F10_c2 : Nat → List (Int × (List (Int)) × (List (Int)) × Int × Int × Int × Int × Int × Int × Int × Int × Int × Int × Int × Int × Int × Int × Int × Int × Int) → Int → Int → Int → List (Int) → List (Int) → Int → Int → Int → Int → Int → Int → Int → Int → Int → Int → Int → Int → Int → Int → Int → Int → Int → Int → Int → Int → Bool → Bool → Int → Option (Bool)
  | 0, _, _, _, _, _, _, _, _, _, _, _, _, _, _, _, _, _, _, _, _, _, _, _, _, _, _, _, _, _ => none
  | n + 1, x0, x1, x2, x3, x4, x5, x6, x7, x8, x9, x10, x11, x12, x13, x14, x15, x16, x17, x18, x19, x20, x21, x22, x23, x24, x25, x26, x27, x28 => bif (ile x2 (ofN (List.length x0))) then
    (Option.bind (F41 FUEL x23 x24 x25 x26 x27 x28) fun y7 =>
     bif y7 then
     (bif x27 then
      (bif (ieq x28 (0)) then
       (bif (ieq x25 x2) then
        (Option.bind (F30 FUEL) fun y8 =>
         some y8)
        else (some false))
       else (some false))
      else (some false))
     else (F10_c3 n x0 x1 x2 (-1) (0) x3 x4 x5 x6 x7 x8 x9 x10 x11 x12 x13 x14 x15 x16 x17 x18 x19 x20 x21 x22 x23 x24 x25 x26 x27 x28))
    else (some false)
def F10_c3 : Nat → List (Int × (List (Int)) × (List (Int)) × Int × Int × Int × Int × Int × Int × Int × Int × Int × Int × Int × Int × Int × Int × Int × Int × Int) → Int → Int → Int → Int → Int → List (Int) → List (Int) → Int → Int → Int → Int → Int → Int → Int → Int → Int → Int → Int → Int → Int → Int → Int → Int → Int → Int → Int → Int → Bool → Bool → Int → Option (Bool)
  | 0, _, _, _, _, _, _, _, _, _, _, _, _, _, _, _, _, _, _, _, _, _, _, _, _, _, _, _, _, _, _, _ => none
  | n + 1, x0, x1, x2, x3, x4, x5, x6, x7, x8, x9, x10, x11, x12, x13, x14, x15, x16, x17, x18, x19, x20, x21, x22, x23, x24, x25, x26, x27, x28, x29, x30 => bif (ilt x4 (ofN (List.length x0))) then
    (bif (inb x4 (List.length x0)) then
     (bif (ieq (List.getD x0 (Int.toNat x4) (0, [], [], 0, 0, 0, 0, 0, 0, 0, 0, 0, 0, 0, 0, 0, 0, 0, 0, 0)).1 x26) then
      (F10_c3 n x0 x1 x2 x4 (iadd .i64 x4 (1)) x5 x6 x7 x8 x9 x10 x11 x12 x13 x14 x15 x16 x17 x18 x19 x20 x21 x22 x23 x24 x25 x26 x27 x28 x29 x30)
      else (F10_c3 n x0 x1 x2 x3 (iadd .i64 x4 (1)) x5 x6 x7 x8 x9 x10 x11 x12 x13 x14 x15 x16 x17 x18 x19 x20 x21 x22 x23 x24 x25 x26 x27 x28 x29 x30))
     else (none))
    else (bif (ilt x3 (0)) then
     (Option.bind (F30 FUEL) fun y9 =>
      some y9)
     else (bif (inb x3 (List.length x0)) then
      (Option.bind (F16 FUEL (List.getD x0 (Int.toNat x3) (0, [], [], 0, 0, 0, 0, 0, 0, 0, 0, 0, 0, 0, 0, 0, 0, 0, 0, 0)).1 (List.getD x0 (Int.toNat x3) (0, [], [], 0, 0, 0, 0, 0, 0, 0, 0, 0, 0, 0, 0, 0, 0, 0, 0, 0)).2.1 (List.getD x0 (Int.toNat x3) (0, [], [], 0, 0, 0, 0, 0, 0, 0, 0, 0, 0, 0, 0, 0, 0, 0, 0, 0)).2.2.1 (List.getD x0 (Int.toNat x3) (0, [], [], 0, 0, 0, 0, 0, 0, 0, 0, 0, 0, 0, 0, 0, 0, 0, 0, 0)).2.2.2.1 (List.getD x0 (Int.toNat x3) (0, [], [], 0, 0, 0, 0, 0, 0, 0, 0, 0, 0, 0, 0, 0, 0, 0, 0, 0)).2.2.2.2.1 (List.getD x0 (Int.toNat x3) (0, [], [], 0, 0, 0, 0, 0, 0, 0, 0, 0, 0, 0, 0, 0, 0, 0, 0, 0)).2.2.2.2.2.1 (List.getD x0 (Int.toNat x3) (0, [], [], 0, 0, 0, 0, 0, 0, 0, 0, 0, 0, 0, 0, 0, 0, 0, 0, 0)).2.2.2.2.2.2.1 (List.getD x0 (Int.toNat x3) (0, [], [], 0, 0, 0, 0, 0, 0, 0, 0, 0, 0, 0, 0, 0, 0, 0, 0, 0)).2.2.2.2.2.2.2.1 (List.getD x0 (Int.toNat x3) (0, [], [], 0, 0, 0, 0, 0, 0, 0, 0, 0, 0, 0, 0, 0, 0, 0, 0, 0)).2.2.2.2.2.2.2.2.1 (List.getD x0 (Int.toNat x3) (0, [], [], 0, 0, 0, 0, 0, 0, 0, 0, 0, 0, 0, 0, 0, 0, 0, 0, 0)).2.2.2.2.2.2.2.2.2.1 (List.getD x0 (Int.toNat x3) (0, [], [], 0, 0, 0, 0, 0, 0, 0, 0, 0, 0, 0, 0, 0, 0, 0, 0, 0)).2.2.2.2.2.2.2.2.2.2.1 (List.getD x0 (Int.toNat x3) (0, [], [], 0, 0, 0, 0, 0, 0, 0, 0, 0, 0, 0, 0, 0, 0, 0, 0, 0)).2.2.2.2.2.2.2.2.2.2.2.1 (List.getD x0 (Int.toNat x3) (0, [], [], 0, 0, 0, 0, 0, 0, 0, 0, 0, 0, 0, 0, 0, 0, 0, 0, 0)).2.2.2.2.2.2.2.2.2.2.2.2.1 (List.getD x0 (Int.toNat x3) (0, [], [], 0, 0, 0, 0, 0, 0, 0, 0, 0, 0, 0, 0, 0, 0, 0, 0, 0)).2.2.2.2.2.2.2.2.2.2.2.2.2.1 (List.getD x0 (Int.toNat x3) (0, [], [], 0, 0, 0, 0, 0, 0, 0, 0, 0, 0, 0, 0, 0, 0, 0, 0, 0)).2.2.2.2.2.2.2.2.2.2.2.2.2.2.1 (List.getD x0 (Int.toNat x3) (0, [], [], 0, 0, 0, 0, 0, 0, 0, 0, 0, 0, 0, 0, 0, 0, 0, 0, 0)).2.2.2.2.2.2.2.2.2.2.2.2.2.2.2.1 (List.getD x0 (Int.toNat x3) (0, [], [], 0, 0, 0, 0, 0, 0, 0, 0, 0, 0, 0, 0, 0, 0, 0, 0, 0)).2.2.2.2.2.2.2.2.2.2.2.2.2.2.2.2.1 (List.getD x0 (Int.toNat x3) (0, [], [], 0, 0, 0, 0, 0, 0, 0, 0, 0, 0, 0, 0, 0, 0, 0, 0, 0)).2.2.2.2.2.2.2.2.2.2.2.2.2.2.2.2.2.1 (List.getD x0 (Int.toNat x3) (0, [], [], 0, 0, 0, 0, 0, 0, 0, 0, 0, 0, 0, 0, 0, 0, 0, 0, 0)).2.2.2.2.2.2.2.2.2.2.2.2.2.2.2.2.2.2.1 (List.getD x0 (Int.toNat x3) (0, [], [], 0, 0, 0, 0, 0, 0, 0, 0, 0, 0, 0, 0, 0, 0, 0, 0, 0)).2.2.2.2.2.2.2.2.2.2.2.2.2.2.2.2.2.2.2 x1 false) fun y10 =>
       Option.bind (F43 FUEL x26 x5 y10.1 y10.2) fun y11 =>
       Option.bind (F35 FUEL x5 x6 x7 x8 x9 x10 x11 x12 x13 x14 x15 x16 x17 x18 x19 x20 x21 x22 x23 x24 x25 x26 x27 x28 x29 x30 y11.q0 y11.q1 y11.q2 y11.q3 y11.q4 y11.q5 y11.q6 y11.q7 y11.q8 [] y11.q9 y11.q10 y11.q11 y11.q12 y11.q13) fun y12 =>
       bif (bneb y12.q4 y10.2) then
       (bif (ieq y10.1 x5) then
        (bif (!y10.2) then
         (Option.bind (F30 FUEL) fun y13 =>
          some y13)
         else (some false))
        else (some false))
       else (bif (ine y12.q1 y10.1) then
        (bif (ieq y10.1 x5) then
         (bif (!y10.2) then
          (Option.bind (F30 FUEL) fun y14 =>
           some y14)
          else (some false))
         else (some false))
        else (bif (!y10.2) then
         (Option.bind (F23 FUEL x1 x26 y10.1) fun y15 =>
          bif (!y15) then
          (bif (ieq y10.1 x5) then
           (bif (!y10.2) then
            (Option.bind (F30 FUEL) fun y16 =>
             some y16)
            else (some false))
           else (some false))
          else (bif (ieq y10.1 x5) then
           (bif (!y10.2) then
            (bif (ieq y10.1 x5) then
             (bif (!y10.2) then
              (Option.bind (F30 FUEL) fun y17 =>
               some y17)
              else (some false))
             else (some false))
            else (F10_c2 n x0 x1 (iadd .i64 x2 (1)) x5 x6 x7 x8 x9 x10 x11 x12 x13 x14 x15 x16 x17 x18 x19 x20 x21 x22 x23 x24 y12.q0 y12.q1 y12.q2 y12.q3 y12.q4 y12.q5))
           else (F10_c2 n x0 x1 (iadd .i64 x2 (1)) x5 x6 x7 x8 x9 x10 x11 x12 x13 x14 x15 x16 x17 x18 x19 x20 x21 x22 x23 x24 y12.q0 y12.q1 y12.q2 y12.q3 y12.q4 y12.q5)))
         else (bif (ieq y10.1 x5) then
          (bif (!y10.2) then
           (bif (ieq y10.1 x5) then
            (bif (!y10.2) then
             (Option.bind (F30 FUEL) fun y18 =>
              some y18)
             else (some false))
            else (some false))
           else (F10_c2 n x0 x1 (iadd .i64 x2 (1)) x5 x6 x7 x8 x9 x10 x11 x12 x13 x14 x15 x16 x17 x18 x19 x20 x21 x22 x23 x24 y12.q0 y12.q1 y12.q2 y12.q3 y12.q4 y12.q5))
          else (F10_c2 n x0 x1 (iadd .i64 x2 (1)) x5 x6 x7 x8 x9 x10 x11 x12 x13 x14 x15 x16 x17 x18 x19 x20 x21 x22 x23 x24 y12.q0 y12.q1 y12.q2 y12.q3 y12.q4 y12.q5)))))
      else (none)))
end
def F10 (n : Nat) (a0 : List (Int × (List (Int)) × (List (Int)) × Int × Int × Int × Int × Int × Int × Int × Int × Int × Int × Int × Int × Int × Int × Int × Int × Int)) (a1 : Int) (a2 : Int) : Option (Bool) :=
  bif (igt (ofN (List.length a0)) (8)) then
  (Option.bind (F30 FUEL) fun y1 =>
   some y1)
  else (bif (ieq (ofN (List.length a0)) (0)) then
   (Option.bind (F30 FUEL) fun y2 =>
    some y2)
   else (F10_c0 n a0 a1 a2 (0)))

/-! ### garland/garlandlaw18.LookNot -/
def F11 (_n : Nat) (a0 : Int) (a1 : List (Int)) (a2 : List (Int)) (a3 : Int) (a4 : Int) (a5 : Int) (a6 : Int) (a7 : Int) (a8 : Int) (a9 : Int) (a10 : Int) (a11 : Int) (a12 : Int) (a13 : Int) (a14 : Int) (a15 : Int) (a16 : Int) (a17 : Int) (a18 : Int) (a19 : Int) (a20 : Int) (a21 : Int) (a22 : Int) (a23 : Bool) (a24 : Bool) (a25 : Int) (a26 : Int) (a27 : Int) (a28 : Int) (a29 : Int) (a30 : Int) (a31 : Bool) (a32 : Bool) (a33 : Int) (a34 : Int) (a35 : List (Int)) (a36 : ByteArray) (a37 : Int) (a38 : Int) (a39 : Bool) (a40 : Int) : Option (Bool) :=
  Option.bind (F24 FUEL a0 a1 a2 a3 a4 a5 a6 a7 a8 a9 a10 a11 a12 a13 a14 a15 a16 a17 a18 a19) fun y1 =>
  bif (!y1) then
  (Option.bind (F30 FUEL) fun y2 =>
   some y2)
  else (Option.bind (F29 FUEL a0 a1 a2 a3 a4 a5 a6 a7 a8 a9 a10 a11 a12 a13 a14 a15 a16 a17 a18 a19 a26 a27 a28 a29 a30 a31 a32 a33 a34 a35 a36 a37 a38 a39 a40) fun y3 =>
   bif y3 then
   (Option.bind (F30 FUEL) fun y4 =>
    some y4)
   else (Option.bind (F35 FUEL a0 a1 a2 a3 a4 a5 a6 a7 a8 a9 a10 a11 a12 a13 a14 a15 a16 a17 a18 a19 a20 a21 a22 a23 a24 a25 a26 a27 a28 a29 a30 a31 a32 a33 a34 a35 a36 a37 a38 a39 a40) fun y5 =>
    Option.bind (F37 FUEL a0 a1 a2 a3 a4 a5 a6 a7 a8 a9 a10 a11 a12 a13 a14 a15 a16 a17 a18 a19 a20 a21 a22 a23 a24 a25) fun y6 =>
    Option.bind (F40 FUEL a20 a21 a22 a23 a24 a25) fun y7 =>
    bif y7 then
    (bif (!a24) then
     (bif (ieq a25 (0)) then
      (Option.bind (F28 FUEL a26 a27 a28 a29 a30 a31 a32 a33 a34 a35 a36 a37 a38 a39 a40) fun y8 =>
       bif y8 then
       (bif (ieq a26 (10)) then
        (bif (ieq a28 a21) then
         (bif (!(ieq a29 a0)) then
          (bif (!((ieq y5.q0 a20) && ((ieq y5.q1 a21) && ((ieq y5.q2 a22) && ((beqb y5.q3 a23) && ((beqb y5.q4 a24) && ((ieq y5.q5 a25) && true))))))) then
           (some false)
           else (bif (ieq a29 a0) then
            (bif (ine y5.q2 (iadd .i64 a22 (1))) then
             (some false)
             else (bif (ine y5.q0 a20) then
              (some false)
              else (bif (bneb y5.q3 a23) then
               (some false)
               else (bif a24 then
                (bif ((ieq y6.q0 a20) && ((ieq y6.q1 a21) && ((ieq y6.q2 a22) && ((beqb y6.q3 a23) && ((beqb y6.q4 a24) && ((ieq y6.q5 a25) && true)))))) then
                 (Option.bind (F30 FUEL) fun y9 =>
                  some y9)
                 else (some false))
                else (bif (ine a25 (0)) then
                 (bif ((ieq y6.q0 a20) && ((ieq y6.q1 a21) && ((ieq y6.q2 a22) && ((beqb y6.q3 a23) && ((beqb y6.q4 a24) && ((ieq y6.q5 a25) && true)))))) then
                  (Option.bind (F30 FUEL) fun y10 =>
                   some y10)
                  else (some false))
                 else (Option.bind (F40 FUEL a20 a21 a22 a23 a24 a25) fun y11 =>
                  bif (!y11) then
                  (bif ((ieq y6.q0 a20) && ((ieq y6.q1 a21) && ((ieq y6.q2 a22) && ((beqb y6.q3 a23) && ((beqb y6.q4 a24) && ((ieq y6.q5 a25) && true)))))) then
                   (Option.bind (F30 FUEL) fun y12 =>
                    some y12)
                   else (some false))
                  else (bif (ieq y6.q2 (iadd .i64 a22 (1))) then
                   (bif (beqb (ieq y6.q5 (211)) (ige a22 (40))) then
                    (bif y6.q3 then
                     (Option.bind (F39 FUEL y6.q0 y6.q1 y6.q2 y6.q3 y6.q4 y6.q5) fun y13 =>
                      bif y13 then
                      (Option.bind (F39 FUEL y5.q0 y5.q1 y5.q2 y5.q3 y5.q4 y5.q5) fun y14 =>
                       bif y14 then
                       (Option.bind (F30 FUEL) fun y15 =>
                        some y15)
                       else (some false))
                      else (some false))
                     else (bif (ieq y6.q5 (211)) then
                      (Option.bind (F39 FUEL y6.q0 y6.q1 y6.q2 y6.q3 y6.q4 y6.q5) fun y16 =>
                       bif y16 then
                       (Option.bind (F39 FUEL y5.q0 y5.q1 y5.q2 y5.q3 y5.q4 y5.q5) fun y17 =>
                        bif y17 then
                        (Option.bind (F30 FUEL) fun y18 =>
                         some y18)
                        else (some false))
                       else (some false))
                      else (some false)))
                    else (some false))
                   else (some false))))))))
            else (bif a24 then
             (bif ((ieq y6.q0 a20) && ((ieq y6.q1 a21) && ((ieq y6.q2 a22) && ((beqb y6.q3 a23) && ((beqb y6.q4 a24) && ((ieq y6.q5 a25) && true)))))) then
              (Option.bind (F30 FUEL) fun y19 =>
               some y19)
              else (some false))
             else (bif (ine a25 (0)) then
              (bif ((ieq y6.q0 a20) && ((ieq y6.q1 a21) && ((ieq y6.q2 a22) && ((beqb y6.q3 a23) && ((beqb y6.q4 a24) && ((ieq y6.q5 a25) && true)))))) then
               (Option.bind (F30 FUEL) fun y20 =>
                some y20)
               else (some false))
              else (Option.bind (F40 FUEL a20 a21 a22 a23 a24 a25) fun y21 =>
               bif (!y21) then
               (bif ((ieq y6.q0 a20) && ((ieq y6.q1 a21) && ((ieq y6.q2 a22) && ((beqb y6.q3 a23) && ((beqb y6.q4 a24) && ((ieq y6.q5 a25) && true)))))) then
                (Option.bind (F30 FUEL) fun y22 =>
                 some y22)
                else (some false))
               else (bif (ieq y6.q2 (iadd .i64 a22 (1))) then
                (bif (beqb (ieq y6.q5 (211)) (ige a22 (40))) then
                 (bif y6.q3 then
                  (Option.bind (F39 FUEL y6.q0 y6.q1 y6.q2 y6.q3 y6.q4 y6.q5) fun y23 =>
                   bif y23 then
                   (Option.bind (F39 FUEL y5.q0 y5.q1 y5.q2 y5.q3 y5.q4 y5.q5) fun y24 =>
                    bif y24 then
                    (Option.bind (F30 FUEL) fun y25 =>
                     some y25)
                    else (some false))
                   else (some false))
                  else (bif (ieq y6.q5 (211)) then
                   (Option.bind (F39 FUEL y6.q0 y6.q1 y6.q2 y6.q3 y6.q4 y6.q5) fun y26 =>
                    bif y26 then
                    (Option.bind (F39 FUEL y5.q0 y5.q1 y5.q2 y5.q3 y5.q4 y5.q5) fun y27 =>
                     bif y27 then
                     (Option.bind (F30 FUEL) fun y28 =>
                      some y28)
                     else (some false))
                    else (some false))
                   else (some false)))
                 else (some false))
                else (some false)))))))
          else (bif (ieq a29 a0) then
           (bif (ine y5.q2 (iadd .i64 a22 (1))) then
            (some false)
            else (bif (ine y5.q0 a20) then
             (some false)
             else (bif (bneb y5.q3 a23) then
              (some false)
              else (bif a24 then
               (bif ((ieq y6.q0 a20) && ((ieq y6.q1 a21) && ((ieq y6.q2 a22) && ((beqb y6.q3 a23) && ((beqb y6.q4 a24) && ((ieq y6.q5 a25) && true)))))) then
                (Option.bind (F30 FUEL) fun y29 =>
                 some y29)
                else (some false))
               else (bif (ine a25 (0)) then
                (bif ((ieq y6.q0 a20) && ((ieq y6.q1 a21) && ((ieq y6.q2 a22) && ((beqb y6.q3 a23) && ((beqb y6.q4 a24) && ((ieq y6.q5 a25) && true)))))) then
                 (Option.bind (F30 FUEL) fun y30 =>
                  some y30)
                 else (some false))
                else (Option.bind (F40 FUEL a20 a21 a22 a23 a24 a25) fun y31 =>
                 bif (!y31) then
                 (bif ((ieq y6.q0 a20) && ((ieq y6.q1 a21) && ((ieq y6.q2 a22) && ((beqb y6.q3 a23) && ((beqb y6.q4 a24) && ((ieq y6.q5 a25) && true)))))) then
                  (Option.bind (F30 FUEL) fun y32 =>
                   some y32)
                  else (some false))
                 else (bif (ieq y6.q2 (iadd .i64 a22 (1))) then
                  (bif (beqb (ieq y6.q5 (211)) (ige a22 (40))) then
                   (bif y6.q3 then
                    (Option.bind (F39 FUEL y6.q0 y6.q1 y6.q2 y6.q3 y6.q4 y6.q5) fun y33 =>
                     bif y33 then
                     (Option.bind (F39 FUEL y5.q0 y5.q1 y5.q2 y5.q3 y5.q4 y5.q5) fun y34 =>
                      bif y34 then
                      (Option.bind (F30 FUEL) fun y35 =>
                       some y35)
                      else (some false))
                     else (some false))
                    else (bif (ieq y6.q5 (211)) then
                     (Option.bind (F39 FUEL y6.q0 y6.q1 y6.q2 y6.q3 y6.q4 y6.q5) fun y36 =>
                      bif y36 then
                      (Option.bind (F39 FUEL y5.q0 y5.q1 y5.q2 y5.q3 y5.q4 y5.q5) fun y37 =>
                       bif y37 then
                       (Option.bind (F30 FUEL) fun y38 =>
                        some y38)
                       else (some false))
                      else (some false))
                     else (some false)))
                   else (some false))
                  else (some false))))))))
           else (bif a24 then
            (bif ((ieq y6.q0 a20) && ((ieq y6.q1 a21) && ((ieq y6.q2 a22) && ((beqb y6.q3 a23) && ((beqb y6.q4 a24) && ((ieq y6.q5 a25) && true)))))) then
             (Option.bind (F30 FUEL) fun y39 =>
              some y39)
             else (some false))
            else (bif (ine a25 (0)) then
             (bif ((ieq y6.q0 a20) && ((ieq y6.q1 a21) && ((ieq y6.q2 a22) && ((beqb y6.q3 a23) && ((beqb y6.q4 a24) && ((ieq y6.q5 a25) && true)))))) then
              (Option.bind (F30 FUEL) fun y40 =>
               some y40)
              else (some false))
             else (Option.bind (F40 FUEL a20 a21 a22 a23 a24 a25) fun y41 =>
              bif (!y41) then
              (bif ((ieq y6.q0 a20) && ((ieq y6.q1 a21) && ((ieq y6.q2 a22) && ((beqb y6.q3 a23) && ((beqb y6.q4 a24) && ((ieq y6.q5 a25) && true)))))) then
               (Option.bind (F30 FUEL) fun y42 =>
                some y42)
               else (some false))
              else (bif (ieq y6.q2 (iadd .i64 a22 (1))) then
               (bif (beqb (ieq y6.q5 (211)) (ige a22 (40))) then
                (bif y6.q3 then
                 (Option.bind (F39 FUEL y6.q0 y6.q1 y6.q2 y6.q3 y6.q4 y6.q5) fun y43 =>
                  bif y43 then
                  (Option.bind (F39 FUEL y5.q0 y5.q1 y5.q2 y5.q3 y5.q4 y5.q5) fun y44 =>
                   bif y44 then
                   (Option.bind (F30 FUEL) fun y45 =>
                    some y45)
                   else (some false))
                  else (some false))
                 else (bif (ieq y6.q5 (211)) then
                  (Option.bind (F39 FUEL y6.q0 y6.q1 y6.q2 y6.q3 y6.q4 y6.q5) fun y46 =>
                   bif y46 then
                   (Option.bind (F39 FUEL y5.q0 y5.q1 y5.q2 y5.q3 y5.q4 y5.q5) fun y47 =>
                    bif y47 then
                    (Option.bind (F30 FUEL) fun y48 =>
                     some y48)
                    else (some false))
                   else (some false))
                  else (some false)))
                else (some false))
               else (some false)))))))
         else (bif (!((ieq y5.q0 a20) && ((ieq y5.q1 a21) && ((ieq y5.q2 a22) && ((beqb y5.q3 a23) && ((beqb y5.q4 a24) && ((ieq y5.q5 a25) && true))))))) then
          (some false)
          else (bif a24 then
           (bif ((ieq y6.q0 a20) && ((ieq y6.q1 a21) && ((ieq y6.q2 a22) && ((beqb y6.q3 a23) && ((beqb y6.q4 a24) && ((ieq y6.q5 a25) && true)))))) then
            (Option.bind (F30 FUEL) fun y49 =>
             some y49)
            else (some false))
           else (bif (ine a25 (0)) then
            (bif ((ieq y6.q0 a20) && ((ieq y6.q1 a21) && ((ieq y6.q2 a22) && ((beqb y6.q3 a23) && ((beqb y6.q4 a24) && ((ieq y6.q5 a25) && true)))))) then
             (Option.bind (F30 FUEL) fun y50 =>
              some y50)
             else (some false))
            else (Option.bind (F40 FUEL a20 a21 a22 a23 a24 a25) fun y51 =>
             bif (!y51) then
             (bif ((ieq y6.q0 a20) && ((ieq y6.q1 a21) && ((ieq y6.q2 a22) && ((beqb y6.q3 a23) && ((beqb y6.q4 a24) && ((ieq y6.q5 a25) && true)))))) then
              (Option.bind (F30 FUEL) fun y52 =>
               some y52)
              else (some false))
             else (bif (ieq y6.q2 (iadd .i64 a22 (1))) then
              (bif (beqb (ieq y6.q5 (211)) (ige a22 (40))) then
               (bif y6.q3 then
                (Option.bind (F39 FUEL y6.q0 y6.q1 y6.q2 y6.q3 y6.q4 y6.q5) fun y53 =>
                 bif y53 then
                 (Option.bind (F39 FUEL y5.q0 y5.q1 y5.q2 y5.q3 y5.q4 y5.q5) fun y54 =>
                  bif y54 then
                  (Option.bind (F30 FUEL) fun y55 =>
                   some y55)
                  else (some false))
                 else (some false))
                else (bif (ieq y6.q5 (211)) then
                 (Option.bind (F39 FUEL y6.q0 y6.q1 y6.q2 y6.q3 y6.q4 y6.q5) fun y56 =>
                  bif y56 then
                  (Option.bind (F39 FUEL y5.q0 y5.q1 y5.q2 y5.q3 y5.q4 y5.q5) fun y57 =>
                   bif y57 then
                   (Option.bind (F30 FUEL) fun y58 =>
                    some y58)
                   else (some false))
                  else (some false))
                 else (some false)))
               else (some false))
              else (some false)))))))
        else (bif (!((ieq y5.q0 a20) && ((ieq y5.q1 a21) && ((ieq y5.q2 a22) && ((beqb y5.q3 a23) && ((beqb y5.q4 a24) && ((ieq y5.q5 a25) && true))))))) then
         (some false)
         else (bif a24 then
          (bif ((ieq y6.q0 a20) && ((ieq y6.q1 a21) && ((ieq y6.q2 a22) && ((beqb y6.q3 a23) && ((beqb y6.q4 a24) && ((ieq y6.q5 a25) && true)))))) then
           (Option.bind (F30 FUEL) fun y59 =>
            some y59)
           else (some false))
          else (bif (ine a25 (0)) then
           (bif ((ieq y6.q0 a20) && ((ieq y6.q1 a21) && ((ieq y6.q2 a22) && ((beqb y6.q3 a23) && ((beqb y6.q4 a24) && ((ieq y6.q5 a25) && true)))))) then
            (Option.bind (F30 FUEL) fun y60 =>
             some y60)
            else (some false))
           else (Option.bind (F40 FUEL a20 a21 a22 a23 a24 a25) fun y61 =>
            bif (!y61) then
            (bif ((ieq y6.q0 a20) && ((ieq y6.q1 a21) && ((ieq y6.q2 a22) && ((beqb y6.q3 a23) && ((beqb y6.q4 a24) && ((ieq y6.q5 a25) && true)))))) then
             (Option.bind (F30 FUEL) fun y62 =>
              some y62)
             else (some false))
            else (bif (ieq y6.q2 (iadd .i64 a22 (1))) then
             (bif (beqb (ieq y6.q5 (211)) (ige a22 (40))) then
              (bif y6.q3 then
               (Option.bind (F39 FUEL y6.q0 y6.q1 y6.q2 y6.q3 y6.q4 y6.q5) fun y63 =>
                bif y63 then
                (Option.bind (F39 FUEL y5.q0 y5.q1 y5.q2 y5.q3 y5.q4 y5.q5) fun y64 =>
                 bif y64 then
                 (Option.bind (F30 FUEL) fun y65 =>
                  some y65)
                 else (some false))
                else (some false))
               else (bif (ieq y6.q5 (211)) then
                (Option.bind (F39 FUEL y6.q0 y6.q1 y6.q2 y6.q3 y6.q4 y6.q5) fun y66 =>
                 bif y66 then
                 (Option.bind (F39 FUEL y5.q0 y5.q1 y5.q2 y5.q3 y5.q4 y5.q5) fun y67 =>
                  bif y67 then
                  (Option.bind (F30 FUEL) fun y68 =>
                   some y68)
                  else (some false))
                 else (some false))
                else (some false)))
              else (some false))
             else (some false)))))))
       else (bif (!((ieq y5.q0 a20) && ((ieq y5.q1 a21) && ((ieq y5.q2 a22) && ((beqb y5.q3 a23) && ((beqb y5.q4 a24) && ((ieq y5.q5 a25) && true))))))) then
        (some false)
        else (bif a24 then
         (bif ((ieq y6.q0 a20) && ((ieq y6.q1 a21) && ((ieq y6.q2 a22) && ((beqb y6.q3 a23) && ((beqb y6.q4 a24) && ((ieq y6.q5 a25) && true)))))) then
          (Option.bind (F30 FUEL) fun y69 =>
           some y69)
          else (some false))
         else (bif (ine a25 (0)) then
          (bif ((ieq y6.q0 a20) && ((ieq y6.q1 a21) && ((ieq y6.q2 a22) && ((beqb y6.q3 a23) && ((beqb y6.q4 a24) && ((ieq y6.q5 a25) && true)))))) then
           (Option.bind (F30 FUEL) fun y70 =>
            some y70)
           else (some false))
          else (Option.bind (F40 FUEL a20 a21 a22 a23 a24 a25) fun y71 =>
           bif (!y71) then
           (bif ((ieq y6.q0 a20) && ((ieq y6.q1 a21) && ((ieq y6.q2 a22) && ((beqb y6.q3 a23) && ((beqb y6.q4 a24) && ((ieq y6.q5 a25) && true)))))) then
            (Option.bind (F30 FUEL) fun y72 =>
             some y72)
            else (some false))
           else (bif (ieq y6.q2 (iadd .i64 a22 (1))) then
            (bif (beqb (ieq y6.q5 (211)) (ige a22 (40))) then
             (bif y6.q3 then
              (Option.bind (F39 FUEL y6.q0 y6.q1 y6.q2 y6.q3 y6.q4 y6.q5) fun y73 =>
               bif y73 then
               (Option.bind (F39 FUEL y5.q0 y5.q1 y5.q2 y5.q3 y5.q4 y5.q5) fun y74 =>
                bif y74 then
                (Option.bind (F30 FUEL) fun y75 =>
                 some y75)
                else (some false))
               else (some false))
              else (bif (ieq y6.q5 (211)) then
               (Option.bind (F39 FUEL y6.q0 y6.q1 y6.q2 y6.q3 y6.q4 y6.q5) fun y76 =>
                bif y76 then
                (Option.bind (F39 FUEL y5.q0 y5.q1 y5.q2 y5.q3 y5.q4 y5.q5) fun y77 =>
                 bif y77 then
                 (Option.bind (F30 FUEL) fun y78 =>
                  some y78)
                 else (some false))
                else (some false))
               else (some false)))
             else (some false))
            else (some false)))))))
      else (bif (!((ieq y5.q0 a20) && ((ieq y5.q1 a21) && ((ieq y5.q2 a22) && ((beqb y5.q3 a23) && ((beqb y5.q4 a24) && ((ieq y5.q5 a25) && true))))))) then
       (some false)
       else (bif a24 then
        (bif ((ieq y6.q0 a20) && ((ieq y6.q1 a21) && ((ieq y6.q2 a22) && ((beqb y6.q3 a23) && ((beqb y6.q4 a24) && ((ieq y6.q5 a25) && true)))))) then
         (Option.bind (F30 FUEL) fun y79 =>
          some y79)
         else (some false))
        else (bif (ine a25 (0)) then
         (bif ((ieq y6.q0 a20) && ((ieq y6.q1 a21) && ((ieq y6.q2 a22) && ((beqb y6.q3 a23) && ((beqb y6.q4 a24) && ((ieq y6.q5 a25) && true)))))) then
          (Option.bind (F30 FUEL) fun y80 =>
           some y80)
          else (some false))
         else (Option.bind (F40 FUEL a20 a21 a22 a23 a24 a25) fun y81 =>
          bif (!y81) then
          (bif ((ieq y6.q0 a20) && ((ieq y6.q1 a21) && ((ieq y6.q2 a22) && ((beqb y6.q3 a23) && ((beqb y6.q4 a24) && ((ieq y6.q5 a25) && true)))))) then
           (Option.bind (F30 FUEL) fun y82 =>
            some y82)
           else (some false))
          else (bif (ieq y6.q2 (iadd .i64 a22 (1))) then
           (bif (beqb (ieq y6.q5 (211)) (ige a22 (40))) then
            (bif y6.q3 then
             (Option.bind (F39 FUEL y6.q0 y6.q1 y6.q2 y6.q3 y6.q4 y6.q5) fun y83 =>
              bif y83 then
              (Option.bind (F39 FUEL y5.q0 y5.q1 y5.q2 y5.q3 y5.q4 y5.q5) fun y84 =>
               bif y84 then
               (Option.bind (F30 FUEL) fun y85 =>
                some y85)
               else (some false))
              else (some false))
             else (bif (ieq y6.q5 (211)) then
              (Option.bind (F39 FUEL y6.q0 y6.q1 y6.q2 y6.q3 y6.q4 y6.q5) fun y86 =>
               bif y86 then
               (Option.bind (F39 FUEL y5.q0 y5.q1 y5.q2 y5.q3 y5.q4 y5.q5) fun y87 =>
                bif y87 then
                (Option.bind (F30 FUEL) fun y88 =>
                 some y88)
                else (some false))
               else (some false))
              else (some false)))
            else (some false))
           else (some false)))))))
     else (bif (!((ieq y5.q0 a20) && ((ieq y5.q1 a21) && ((ieq y5.q2 a22) && ((beqb y5.q3 a23) && ((beqb y5.q4 a24) && ((ieq y5.q5 a25) && true))))))) then
      (some false)
      else (bif a24 then
       (bif ((ieq y6.q0 a20) && ((ieq y6.q1 a21) && ((ieq y6.q2 a22) && ((beqb y6.q3 a23) && ((beqb y6.q4 a24) && ((ieq y6.q5 a25) && true)))))) then
        (Option.bind (F30 FUEL) fun y89 =>
         some y89)
        else (some false))
       else (bif (ine a25 (0)) then
        (bif ((ieq y6.q0 a20) && ((ieq y6.q1 a21) && ((ieq y6.q2 a22) && ((beqb y6.q3 a23) && ((beqb y6.q4 a24) && ((ieq y6.q5 a25) && true)))))) then
         (Option.bind (F30 FUEL) fun y90 =>
          some y90)
         else (some false))
        else (Option.bind (F40 FUEL a20 a21 a22 a23 a24 a25) fun y91 =>
         bif (!y91) then
         (bif ((ieq y6.q0 a20) && ((ieq y6.q1 a21) && ((ieq y6.q2 a22) && ((beqb y6.q3 a23) && ((beqb y6.q4 a24) && ((ieq y6.q5 a25) && true)))))) then
          (Option.bind (F30 FUEL) fun y92 =>
           some y92)
          else (some false))
         else (bif (ieq y6.q2 (iadd .i64 a22 (1))) then
          (bif (beqb (ieq y6.q5 (211)) (ige a22 (40))) then
           (bif y6.q3 then
            (Option.bind (F39 FUEL y6.q0 y6.q1 y6.q2 y6.q3 y6.q4 y6.q5) fun y93 =>
             bif y93 then
             (Option.bind (F39 FUEL y5.q0 y5.q1 y5.q2 y5.q3 y5.q4 y5.q5) fun y94 =>
              bif y94 then
              (Option.bind (F30 FUEL) fun y95 =>
               some y95)
              else (some false))
             else (some false))
            else (bif (ieq y6.q5 (211)) then
             (Option.bind (F39 FUEL y6.q0 y6.q1 y6.q2 y6.q3 y6.q4 y6.q5) fun y96 =>
              bif y96 then
              (Option.bind (F39 FUEL y5.q0 y5.q1 y5.q2 y5.q3 y5.q4 y5.q5) fun y97 =>
               bif y97 then
               (Option.bind (F30 FUEL) fun y98 =>
                some y98)
               else (some false))
              else (some false))
             else (some false)))
           else (some false))
          else (some false)))))))
    else (bif (!((ieq y5.q0 a20) && ((ieq y5.q1 a21) && ((ieq y5.q2 a22) && ((beqb y5.q3 a23) && ((beqb y5.q4 a24) && ((ieq y5.q5 a25) && true))))))) then
     (some false)
     else (bif a24 then
      (bif ((ieq y6.q0 a20) && ((ieq y6.q1 a21) && ((ieq y6.q2 a22) && ((beqb y6.q3 a23) && ((beqb y6.q4 a24) && ((ieq y6.q5 a25) && true)))))) then
       (Option.bind (F30 FUEL) fun y99 =>
        some y99)
       else (some false))
      else (bif (ine a25 (0)) then
       (bif ((ieq y6.q0 a20) && ((ieq y6.q1 a21) && ((ieq y6.q2 a22) && ((beqb y6.q3 a23) && ((beqb y6.q4 a24) && ((ieq y6.q5 a25) && true)))))) then
        (Option.bind (F30 FUEL) fun y100 =>
         some y100)
        else (some false))
       else (Option.bind (F40 FUEL a20 a21 a22 a23 a24 a25) fun y101 =>
        bif (!y101) then
        (bif ((ieq y6.q0 a20) && ((ieq y6.q1 a21) && ((ieq y6.q2 a22) && ((beqb y6.q3 a23) && ((beqb y6.q4 a24) && ((ieq y6.q5 a25) && true)))))) then
         (Option.bind (F30 FUEL) fun y102 =>
          some y102)
         else (some false))
        else (bif (ieq y6.q2 (iadd .i64 a22 (1))) then
         (bif (beqb (ieq y6.q5 (211)) (ige a22 (40))) then
          (bif y6.q3 then
           (Option.bind (F39 FUEL y6.q0 y6.q1 y6.q2 y6.q3 y6.q4 y6.q5) fun y103 =>
            bif y103 then
            (Option.bind (F39 FUEL y5.q0 y5.q1 y5.q2 y5.q3 y5.q4 y5.q5) fun y104 =>
             bif y104 then
             (Option.bind (F30 FUEL) fun y105 =>
              some y105)
             else (some false))
            else (some false))
           else (bif (ieq y6.q5 (211)) then
            (Option.bind (F39 FUEL y6.q0 y6.q1 y6.q2 y6.q3 y6.q4 y6.q5) fun y106 =>
             bif y106 then
             (Option.bind (F39 FUEL y5.q0 y5.q1 y5.q2 y5.q3 y5.q4 y5.q5) fun y107 =>
              bif y107 then
              (Option.bind (F30 FUEL) fun y108 =>
               some y108)
              else (some false))
             else (some false))
            else (some false)))
          else (some false))
         else (some false))))))))

/-! ### garland/garlandlaw18.LookOwn -/
def F12 (_n : Nat) (a0 : Int) (a1 : List (Int)) (a2 : List (Int)) (a3 : Int) (a4 : Int) (a5 : Int) (a6 : Int) (a7 : Int) (a8 : Int) (a9 : Int) (a10 : Int) (a11 : Int) (a12 : Int) (a13 : Int) (a14 : Int) (a15 : Int) (a16 : Int) (a17 : Int) (a18 : Int) (a19 : Int) (a20 : Int) : Option (Bool) :=
  Option.bind (F24 FUEL a0 a1 a2 a3 a4 a5 a6 a7 a8 a9 a10 a11 a12 a13 a14 a15 a16 a17 a18 a19) fun y1 =>
  bif (!y1) then
  (Option.bind (F33 FUEL a0 a1 a2 a3 a4 a5 a6 a7 a8 a9 a10 a11 a12 a13 a14 a15 a16 a17 a18 a19 a20) fun y2 =>
   bif ((ieq y2.q0 (0)) && ((ieq y2.q1 (0)) && ((ieq y2.q2 (0)) && ((beqb y2.q3 false) && ((beqb y2.q4 false) && ((ieq y2.q5 (0)) && true)))))) then
   (Option.bind (F30 FUEL) fun y3 =>
    some y3)
   else (some false))
  else (Option.bind (F33 FUEL a0 a1 a2 a3 a4 a5 a6 a7 a8 a9 a10 a11 a12 a13 a14 a15 a16 a17 a18 a19 a20) fun y4 =>
   Option.bind (F16 FUEL a0 a1 a2 a3 a4 a5 a6 a7 a8 a9 a10 a11 a12 a13 a14 a15 a16 a17 a18 a19 a20 false) fun y5 =>
   bif (ine y4.q1 y5.1) then
   (some false)
   else (bif (bneb y4.q4 y5.2) then
    (some false)
    else (bif (ine y4.q2 (0)) then
     (some false)
     else (bif y4.q3 then
      (some false)
      else (bif (ine y4.q5 (0)) then
       (some false)
       else (bif y5.2 then
        (Option.bind (F30 FUEL) fun y6 =>
         some y6)
        else (Option.bind (F43 FUEL y4.q1 a0 a0 false) fun y7 =>
         Option.bind (F35 FUEL a0 a1 a2 a3 a4 a5 a6 a7 a8 a9 a10 a11 a12 a13 a14 a15 a16 a17 a18 a19 y4.q0 y4.q1 y4.q2 y4.q3 y4.q4 y4.q5 y7.q0 y7.q1 y7.q2 y7.q3 y7.q4 y7.q5 y7.q6 y7.q7 y7.q8 [] y7.q9 y7.q10 y7.q11 y7.q12 y7.q13) fun y8 =>
         Option.bind (F43 FUEL y4.q1 a0 a0 true) fun y9 =>
         Option.bind (F35 FUEL a0 a1 a2 a3 a4 a5 a6 a7 a8 a9 a10 a11 a12 a13 a14 a15 a16 a17 a18 a19 y4.q0 y4.q1 y4.q2 y4.q3 y4.q4 y4.q5 y9.q0 y9.q1 y9.q2 y9.q3 y9.q4 y9.q5 y9.q6 y9.q7 y9.q8 [] y9.q9 y9.q10 y9.q11 y9.q12 y9.q13) fun y10 =>
         bif (ieq y8.q1 y5.1) then
         (bif (beqb y8.q4 y5.2) then
          (bif (ieq y8.q2 (1)) then
           (bif (ieq y10.q1 a0) then
            (bif y10.q4 then
             (bif (ieq y10.q2 (1)) then
              (Option.bind (F30 FUEL) fun y11 =>
               some y11)
              else (some false))
             else (some false))
            else (some false))
           else (some false))
          else (some false))
         else (some false))))))))

end Go.Proofs.Ytlbdcdflffgehaa
