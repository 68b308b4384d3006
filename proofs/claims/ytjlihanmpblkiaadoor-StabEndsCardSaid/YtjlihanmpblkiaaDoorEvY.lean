/-
  What the functions of this program compute, in plain words.
-/
import Derived.Test.YtjlihanmpblkiaaDoorEvR
namespace Go.Proofs.YtjlihanmpblkiaaDoor
open Go Go.RowKit
set_option maxRecDepth 100000


/-! ### garland/garlandref13.Great -/
def F29 (_n : Nat) (_a0 : Int) (a1 a2 : List (Int)) (_a3 _a4 _a5 _a6 _a7 _a8 _a9 _a10 _a11 _a12 _a13 _a14 _a15 _a16 _a17 _a18 _a19 : Int) : Option (Bool) :=
  bif (igt (ofN (List.length a1)) (20)) then
 (some true)
 else (some (igt (ofN (List.length a2)) (20)))

/-! ### garland/garlandlaw14.great -/
def F7 (_n : Nat) (a0 : Int) (a1 a2 : List (Int)) (a3 a4 a5 a6 a7 a8 a9 a10 a11 a12 a13 a14 a15 a16 a17 a18 a19 _a20 _a21 _a22 _a23 _a24 : Int) (_a25 _a26 : Bool) (_a27 _a28 : Int) (a29 : List (Int)) (a30 : ByteArray) (_a31 _a32 : Int) (_a33 : Bool) (_a34 : Int) : Option (Bool) :=
  Option.bind (F29 FUEL a0 a1 a2 a3 a4 a5 a6 a7 a8 a9 a10 a11 a12 a13 a14 a15 a16 a17 a18 a19) fun y1 =>
 bif y1 then
 (some true)
 else (bif (igt (ofN (List.length a29)) (20)) then
 (some true)
 else (some (igt (stlen a30) (100))))

/-! ### garland/garlandref13.place -/
def F46 (_n : Nat) (a0 : Int) : Option (Bool) :=
  bif (ige a0 (0)) then
 (some (ilt a0 (65536)))
 else (some false)

/-! ### garland/garlandref12.place -/
def F52 (_n : Nat) (a0 : Int) : Option (Bool) :=
  bif (ige a0 (0)) then
 (some (ilt a0 (65536)))
 else (some false)

/-! ### garland/garlandref03.Place -/
def F53 (_n : Nat) (a0 : Int) : Option (Int) :=
  bif (inz (65536)) then
 (bif (inz (65536)) then
 (some (irem (iadd .i64 (irem a0 (65536)) (65536)) (65536)))
 else (none))
 else (none)

/-! ### garland/garlandref03.Far -/
def F55 (_n : Nat) (a0 a1 : Int) : Option (Int) :=
  Option.bind (F53 FUEL a1) fun y1 =>
 Option.bind (F53 FUEL a0) fun y2 =>
 Option.bind (F53 FUEL (isub .i64 y1 y2)) fun y3 =>
 some y3

/-! ### garland/garlandref12.farther -/
def F54 (_n : Nat) (a0 a1 a2 : Int) : Option (Bool) :=
  Option.bind (F55 FUEL a0 a2) fun y1 =>
 Option.bind (F55 FUEL a0 a1) fun y2 =>
 some (igt y1 y2)

/-! ### garland/garlandref12.Right -/
def F25_c0 : Nat → Int → List (Int) → Int → Option (Bool)
  | 0, _, _, _ => none
  | n + 1, x0, x1, x2 => bif (ilt x2 (ofN (List.length x1))) then
 (bif (inb x2 (List.length x1)) then
 (Option.bind (F52 FUEL (List.getD x1 (Int.toNat x2) 0)) fun y1 =>
 bif (!y1) then
 (some false)
 else (bif (inb x2 (List.length x1)) then
 (Option.bind (F53 FUEL x0) fun y2 =>
 bif (ieq (List.getD x1 (Int.toNat x2) 0) y2) then
 (some false)
 else (bif (igt x2 (0)) then
 (bif (inb (isub .i64 x2 (1)) (List.length x1)) then
 (bif (inb x2 (List.length x1)) then
 (Option.bind (F54 FUEL x0 (List.getD x1 (Int.toNat (isub .i64 x2 (1))) 0) (List.getD x1 (Int.toNat x2) 0)) fun y3 =>
 bif (!y3) then
 (some false)
 else (F25_c0 n x0 x1 (iadd .i64 x2 (1))))
 else (none))
 else (none))
 else (F25_c0 n x0 x1 (iadd .i64 x2 (1)))))
 else (none)))
 else (none))
 else (some (ile (ofN (List.length x1)) (3)))
def F25 (n : Nat) (a0 : Int) (a1 : List (Int)) : Option (Bool) :=
  F25_c0 n a0 a1 (0)

/-! ### garland/garlandref13.other -/
def F47 (_n : Nat) (a0 : Int) (_a1 _a2 : List (Int)) (_a3 _a4 _a5 _a6 _a7 _a8 _a9 _a10 _a11 _a12 _a13 _a14 _a15 _a16 _a17 _a18 _a19 a20 : Int) : Option (Bool) :=
  bif (ieq a20 (-1)) then
 (some true)
 else (Option.bind (F46 FUEL a20) fun y1 =>
 bif y1 then
 (some (ine a20 a0))
 else (some false))

/-! ### garland/garlandref13.Right -/
mutual
def F21_c0 : Nat → Int → Int → List (Int) → List (Int) → Int → Int → Int → Int → Int → Int → Int → Int → Int → Int → Int → Int → Int → Int → Int → Int → Int → Option (Bool)
  | 0, _, _, _, _, _, _, _, _, _, _, _, _, _, _, _, _, _, _, _, _, _ => none
  | n + 1, x0, x1, x2, x3, x4, x5, x6, x7, x8, x9, x10, x11, x12, x13, x14, x15, x16, x17, x18, x19, x20 => bif (ilt x0 (ofN (List.length x2))) then
 (bif (inb x0 (List.length x2)) then
 (Option.bind (F46 FUEL (List.getD x2 (Int.toNat x0) 0)) fun y4 =>
 bif (!y4) then
 (some false)
 else (bif (igt x0 (0)) then
 (bif (inb x0 (List.length x2)) then
 (bif (inb (isub .i64 x0 (1)) (List.length x2)) then
 (bif (ile (List.getD x2 (Int.toNat x0) 0) (List.getD x2 (Int.toNat (isub .i64 x0 (1))) 0)) then
 (some false)
 else (F21_c0 n (iadd .i64 x0 (1)) x1 x2 x3 x4 x5 x6 x7 x8 x9 x10 x11 x12 x13 x14 x15 x16 x17 x18 x19 x20))
 else (none))
 else (none))
 else (F21_c0 n (iadd .i64 x0 (1)) x1 x2 x3 x4 x5 x6 x7 x8 x9 x10 x11 x12 x13 x14 x15 x16 x17 x18 x19 x20)))
 else (none))
 else (F21_c1 n (0) x1 x2 x3 x4 x5 x6 x7 x8 x9 x10 x11 x12 x13 x14 x15 x16 x17 x18 x19 x20)
def F21_c1 : Nat → Int → Int → List (Int) → List (Int) → Int → Int → Int → Int → Int → Int → Int → Int → Int → Int → Int → Int → Int → Int → Int → Int → Int → Option (Bool)
  | 0, _, _, _, _, _, _, _, _, _, _, _, _, _, _, _, _, _, _, _, _, _ => none
  | n + 1, x0, x1, x2, x3, x4, x5, x6, x7, x8, x9, x10, x11, x12, x13, x14, x15, x16, x17, x18, x19, x20 => bif (ilt x0 (16)) then
 (bif (inb x0 16) then
 (bif (nlt (Int.toNat x0) 16) then
 (Option.bind (F47 FUEL x1 x2 x3 x4 x5 x6 x7 x8 x9 x10 x11 x12 x13 x14 x15 x16 x17 x18 x19 x20 (List.getD [x5, x6, x7, x8, x9, x10, x11, x12, x13, x14, x15, x16, x17, x18, x19, x20] (Int.toNat x0) 0)) fun y5 =>
 bif (!y5) then
 (some false)
 else (F21_c1 n (iadd .i64 x0 (1)) x1 x2 x3 x4 x5 x6 x7 x8 x9 x10 x11 x12 x13 x14 x15 x16 x17 x18 x19 x20))
 else (none))
 else (none))
 else (some true)
end
def F21 (n : Nat) (a0 : Int) (a1 a2 : List (Int)) (a3 a4 a5 a6 a7 a8 a9 a10 a11 a12 a13 a14 a15 a16 a17 a18 a19 : Int) : Option (Bool) :=
  Option.bind (F46 FUEL a0) fun y1 =>
 bif (!y1) then
 (some false)
 else (bif (ilt (ofN (List.length a1)) (2)) then
 (some false)
 else (bif (igt (ofN (List.length a1)) (4)) then
 (some false)
 else (Option.bind (F25 FUEL a0 a2) fun y2 =>
 bif (!y2) then
 (some false)
 else (Option.bind (F47 FUEL a0 a1 a2 a3 a4 a5 a6 a7 a8 a9 a10 a11 a12 a13 a14 a15 a16 a17 a18 a19 a3) fun y3 =>
 bif (!y3) then
 (some false)
 else (F21_c0 n (0) a0 a1 a2 a3 a4 a5 a6 a7 a8 a9 a10 a11 a12 a13 a14 a15 a16 a17 a18 a19)))))

/-! ### garland/garlandref13.New -/
structure Si19l where
  q0 : Int
  q1 : Int
  q2 : Int
  q3 : Int
  q4 : Int
  q5 : Int
  q6 : Int
  q7 : Int
  q8 : Int
  q9 : Int
  q10 : Int
  q11 : Int
  q12 : Int
  q13 : Int
  q14 : Int
  q15 : Int
  q16 : Int
  q17 : Int
  q18 : Int
  q19 : List (Int)
def F30_c0 : Nat → Int → Int → Int → Int → Int → Int → Int → Int → Int → Int → Int → Int → Int → Int → Int → Int → Int → Int → Int → Int → Int → Int → Int → Int → Int → Int → Int → Int → Int → Int → Int → Int → Int → Int → Int → Int → Int → List (Int) → Option (Si19l)
  | 0, _, _, _, _, _, _, _, _, _, _, _, _, _, _, _, _, _, _, _, _, _, _, _, _, _, _, _, _, _, _, _, _, _, _, _, _, _, _ => none
  | n + 1, x0, x1, x2, x3, x4, x5, x6, x7, x8, x9, x10, x11, x12, x13, x14, x15, x16, x17, x18, x19, x20, x21, x22, x23, x24, x25, x26, x27, x28, x29, x30, x31, x32, x33, x34, x35, x36, x37 => bif (ilt x0 (16)) then
 (bif (inb x0 16) then
 (bif (nlt (Int.toNat x0) 16) then
 (F30_c0 n (iadd .i64 x0 (1)) x1 x2 x3 x4 x5 x6 x7 x8 x9 x10 x11 x12 x13 x14 x15 x16 x17 x18 x19 x20 (List.getD (List.set [x21, x22, x23, x24, x25, x26, x27, x28, x29, x30, x31, x32, x33, x34, x35, x36] (Int.toNat x0) (-1)) 0 0) (List.getD (List.set [x21, x22, x23, x24, x25, x26, x27, x28, x29, x30, x31, x32, x33, x34, x35, x36] (Int.toNat x0) (-1)) 1 0) (List.getD (List.set [x21, x22, x23, x24, x25, x26, x27, x28, x29, x30, x31, x32, x33, x34, x35, x36] (Int.toNat x0) (-1)) 2 0) (List.getD (List.set [x21, x22, x23, x24, x25, x26, x27, x28, x29, x30, x31, x32, x33, x34, x35, x36] (Int.toNat x0) (-1)) 3 0) (List.getD (List.set [x21, x22, x23, x24, x25, x26, x27, x28, x29, x30, x31, x32, x33, x34, x35, x36] (Int.toNat x0) (-1)) 4 0) (List.getD (List.set [x21, x22, x23, x24, x25, x26, x27, x28, x29, x30, x31, x32, x33, x34, x35, x36] (Int.toNat x0) (-1)) 5 0) (List.getD (List.set [x21, x22, x23, x24, x25, x26, x27, x28, x29, x30, x31, x32, x33, x34, x35, x36] (Int.toNat x0) (-1)) 6 0) (List.getD (List.set [x21, x22, x23, x24, x25, x26, x27, x28, x29, x30, x31, x32, x33, x34, x35, x36] (Int.toNat x0) (-1)) 7 0) (List.getD (List.set [x21, x22, x23, x24, x25, x26, x27, x28, x29, x30, x31, x32, x33, x34, x35, x36] (Int.toNat x0) (-1)) 8 0) (List.getD (List.set [x21, x22, x23, x24, x25, x26, x27, x28, x29, x30, x31, x32, x33, x34, x35, x36] (Int.toNat x0) (-1)) 9 0) (List.getD (List.set [x21, x22, x23, x24, x25, x26, x27, x28, x29, x30, x31, x32, x33, x34, x35, x36] (Int.toNat x0) (-1)) 10 0) (List.getD (List.set [x21, x22, x23, x24, x25, x26, x27, x28, x29, x30, x31, x32, x33, x34, x35, x36] (Int.toNat x0) (-1)) 11 0) (List.getD (List.set [x21, x22, x23, x24, x25, x26, x27, x28, x29, x30, x31, x32, x33, x34, x35, x36] (Int.toNat x0) (-1)) 12 0) (List.getD (List.set [x21, x22, x23, x24, x25, x26, x27, x28, x29, x30, x31, x32, x33, x34, x35, x36] (Int.toNat x0) (-1)) 13 0) (List.getD (List.set [x21, x22, x23, x24, x25, x26, x27, x28, x29, x30, x31, x32, x33, x34, x35, x36] (Int.toNat x0) (-1)) 14 0) (List.getD (List.set [x21, x22, x23, x24, x25, x26, x27, x28, x29, x30, x31, x32, x33, x34, x35, x36] (Int.toNat x0) (-1)) 15 0) x37)
 else (none))
 else (none))
 else (Option.bind (F21 FUEL x19 x37 [] x20 x21 x22 x23 x24 x25 x26 x27 x28 x29 x30 x31 x32 x33 x34 x35 x36) fun y1 =>
 bif (!y1) then
 (some ⟨(0), (0), (0), (0), (0), (0), (0), (0), (0), (0), (0), (0), (0), (0), (0), (0), (0), (0), (2), []⟩)
 else (some ⟨x19, x20, x21, x22, x23, x24, x25, x26, x27, x28, x29, x30, x31, x32, x33, x34, x35, x36, (0), x37⟩))
def F30 (n : Nat) (a0 : Int) (a1 : List (Int)) : Option (Si19l) :=
  bif (room (0 + List.length a1) 8) then
 (F30_c0 n (0) (0) (0) (0) (0) (0) (0) (0) (0) (0) (0) (0) (0) (0) (0) (0) (0) (0) (0) a0 (-1) (0) (0) (0) (0) (0) (0) (0) (0) (0) (0) (0) (0) (0) (0) (0) (0) ([] ++ a1))
 else (none)

/-! ### garland/view.isPlace -/
def F57 (_n : Nat) (a0 : Int) : Option (Bool) :=
  bif (ige a0 (0)) then
 (some (ilt a0 (65536)))
 else (some false)

/-! ### garland/view.rightBase -/
def F58_c0 : Nat → List (Int) → List (Int) → Int → Int → Option (Bool)
  | 0, _, _, _, _ => none
  | n + 1, x0, x1, x2, x3 => bif (ilt x3 x2) then
 (bif (inb x3 (List.length x1)) then
 (Option.bind (F57 FUEL (List.getD x1 (Int.toNat x3) 0)) fun y1 =>
 bif (!y1) then
 (some false)
 else (bif (igt x3 (0)) then
 (bif (inb (isub .i64 x3 (1)) (List.length x0)) then
 (bif (ile (List.getD x1 (Int.toNat x3) 0) (List.getD x0 (Int.toNat (isub .i64 x3 (1))) 0)) then
 (some false)
 else (F58_c0 n x0 x1 x2 (iadd .i64 x3 (1))))
 else (none))
 else (F58_c0 n x0 x1 x2 (iadd .i64 x3 (1)))))
 else (none))
 else (some true)
def F58 (n : Nat) (a0 : List (Int)) : Option (Bool) :=
  bif (ilt (ofN (List.length a0)) (2)) then
 (some false)
 else (bif (igt (ofN (List.length a0)) (4)) then
 (some false)
 else (F58_c0 n a0 a0 (ofN (List.length a0)) (0)))

/-! ### garland/arc.Place -/
def F67 (_n : Nat) (a0 : Int) : Option (Int) :=
  some (bits .and .i64 a0 (65535))

/-! ### garland/list.isPlace -/
def F68 (_n : Nat) (a0 : Int) : Option (Bool) :=
  bif (ige a0 (0)) then
 (some (ilt a0 (65536)))
 else (some false)

/-! ### garland/arc.Far -/
def F70 (_n : Nat) (a0 a1 : Int) : Option (Int) :=
  Option.bind (F67 FUEL a1) fun y1 =>
 Option.bind (F67 FUEL a0) fun y2 =>
 Option.bind (F67 FUEL (isub .i64 y1 y2)) fun y3 =>
 some y3

/-! ### garland/list.Right -/
def F59_c0 : Nat → Int → List (Int) → Int → Int → Int → Bool → Option (Bool)
  | 0, _, _, _, _, _, _ => none
  | n + 1, x0, x1, x2, x3, x4, x5 => bif (ilt x3 x2) then
 (bif (inb x3 (List.length x1)) then
 (Option.bind (F68 FUEL (List.getD x1 (Int.toNat x3) 0)) fun y2 =>
 bif (!y2) then
 (some false)
 else (Option.bind (F70 FUEL x4 (List.getD x1 (Int.toNat x3) 0)) fun y3 =>
 Option.bind (F70 FUEL x4 x0) fun y4 =>
 bif (ile y3 y4) then
 (some false)
 else (F59_c0 n (List.getD x1 (Int.toNat x3) 0) x1 x2 (iadd .i64 x3 (1)) x4 x5)))
 else (none))
 else (some true)
def F59 (n : Nat) (a0 : Int) (a1 : List (Int)) : Option (Bool) :=
  bif (igt (ofN (List.length a1)) (3)) then
 (some false)
 else (Option.bind (F67 FUEL a0) fun y1 =>
 F59_c0 n y1 a1 (ofN (List.length a1)) (0) y1 false)

/-! ### garland/view.Right -/
mutual
def F32_c0 : Nat → Option (Bool)
  | 0 => none
  | _ + 1 => some false
def F32_c1 : Nat → Int → Int → Int → Int → Int → Int → Int → Int → Int → Int → Int → Int → Int → Int → Int → Int → Int → Int → List (Int) → List (Int) → Int → Int → Int → Int → Int → Int → Int → Int → Int → Int → Int → Int → Int → Int → Int → Int → Int → Option (Bool)
  | 0, _, _, _, _, _, _, _, _, _, _, _, _, _, _, _, _, _, _, _, _, _, _, _, _, _, _, _, _, _, _, _, _, _, _, _, _, _ => none
  | n + 1, x0, x1, x2, x3, x4, x5, x6, x7, x8, x9, x10, x11, x12, x13, x14, x15, x16, x17, x18, x19, x20, x21, x22, x23, x24, x25, x26, x27, x28, x29, x30, x31, x32, x33, x34, x35, x36 => bif (ilt x16 (16)) then
 (bif (inb x16 16) then
 (bif (ine (List.getD [x0, x1, x2, x3, x4, x5, x6, x7, x8, x9, x10, x11, x12, x13, x14, x15] (Int.toNat x16) 0) (-1)) then
 (Option.bind (F57 FUEL (List.getD [x0, x1, x2, x3, x4, x5, x6, x7, x8, x9, x10, x11, x12, x13, x14, x15] (Int.toNat x16) 0)) fun y5 =>
 bif (!y5) then
 (F32_c0 n )
 else (bif (ieq (List.getD [x0, x1, x2, x3, x4, x5, x6, x7, x8, x9, x10, x11, x12, x13, x14, x15] (Int.toNat x16) 0) x17) then
 (F32_c0 n )
 else (F32_c1 n x0 x1 x2 x3 x4 x5 x6 x7 x8 x9 x10 x11 x12 x13 x14 x15 (iadd .i64 x16 (1)) x17 x18 x19 x20 x21 x22 x23 x24 x25 x26 x27 x28 x29 x30 x31 x32 x33 x34 x35 x36)))
 else (F32_c1 n x0 x1 x2 x3 x4 x5 x6 x7 x8 x9 x10 x11 x12 x13 x14 x15 (iadd .i64 x16 (1)) x17 x18 x19 x20 x21 x22 x23 x24 x25 x26 x27 x28 x29 x30 x31 x32 x33 x34 x35 x36))
 else (none))
 else (some true)
end
def F32 (n : Nat) (a0 : Int) (a1 a2 : List (Int)) (a3 a4 a5 a6 a7 a8 a9 a10 a11 a12 a13 a14 a15 a16 a17 a18 a19 : Int) : Option (Bool) :=
  Option.bind (F57 FUEL a0) fun y1 =>
 bif (!y1) then
 (F32_c0 n )
 else (Option.bind (F58 FUEL a1) fun y2 =>
 bif (!y2) then
 (F32_c0 n )
 else (Option.bind (F59 FUEL a0 a2) fun y3 =>
 bif (!y3) then
 (F32_c0 n )
 else (bif (ine a3 (-1)) then
 (Option.bind (F57 FUEL a3) fun y4 =>
 bif (!y4) then
 (F32_c0 n )
 else (bif (ieq a3 a0) then
 (F32_c0 n )
 else (F32_c1 n a4 a5 a6 a7 a8 a9 a10 a11 a12 a13 a14 a15 a16 a17 a18 a19 (0) a0 a1 a2 a3 a4 a5 a6 a7 a8 a9 a10 a11 a12 a13 a14 a15 a16 a17 a18 a19)))
 else (F32_c1 n a4 a5 a6 a7 a8 a9 a10 a11 a12 a13 a14 a15 a16 a17 a18 a19 (0) a0 a1 a2 a3 a4 a5 a6 a7 a8 a9 a10 a11 a12 a13 a14 a15 a16 a17 a18 a19))))

/-! ### garland/stab.Right -/
def F17 (_n : Nat) (a0 a1 : Int) : Option (Bool) :=
  bif (ieq a0 (0)) then
 (some (ieq a1 (0)))
 else (bif (ilt a0 (4)) then
 (bif (ige a1 (0)) then
 (some (ilt a1 (65536)))
 else (some false))
 else (some false))

/-! ### garland/list.First -/
def F61_c0 : Nat → List (Int) → Int → Int → Int → Bool → Option (Int × Bool)
  | 0, _, _, _, _, _ => none
  | _ + 1, x0, x1, x2, _, _ => bif (ilt x2 x1) then
 (bif (inb x2 (List.length x0)) then
 (some ((List.getD x0 (Int.toNat x2) 0), true))
 else (none))
 else (some ((0), false))
def F61 (n : Nat) (a0 : List (Int)) : Option (Int × Bool) :=
  F61_c0 n a0 (ofN (List.length a0)) (0) (0) false

/-! ### garland/view.anchor -/
def F62_c0 : Nat → Int → List (Int) → Int → Int → Int → List (Int) → List (Int) → Int → Int → Int → Int → Int → Int → Int → Int → Int → Int → Int → Int → Int → Int → Int → Int → Int → Option (Int)
  | 0, _, _, _, _, _, _, _, _, _, _, _, _, _, _, _, _, _, _, _, _, _, _, _, _ => none
  | n + 1, x0, x1, x2, x3, x4, x5, x6, x7, x8, x9, x10, x11, x12, x13, x14, x15, x16, x17, x18, x19, x20, x21, x22, x23 => bif (ilt x3 x2) then
 (bif (inb x3 (List.length x1)) then
 (bif (ine (List.getD x1 (Int.toNat x3) 0) x4) then
 (bif (ilt x0 (0)) then
 (F62_c0 n (List.getD x1 (Int.toNat x3) 0) x1 x2 (iadd .i64 x3 (1)) x4 x5 x6 x7 x8 x9 x10 x11 x12 x13 x14 x15 x16 x17 x18 x19 x20 x21 x22 x23)
 else (Option.bind (F70 FUEL x4 (List.getD x1 (Int.toNat x3) 0)) fun y1 =>
 Option.bind (F70 FUEL x4 x0) fun y2 =>
 bif (ilt y1 y2) then
 (F62_c0 n (List.getD x1 (Int.toNat x3) 0) x1 x2 (iadd .i64 x3 (1)) x4 x5 x6 x7 x8 x9 x10 x11 x12 x13 x14 x15 x16 x17 x18 x19 x20 x21 x22 x23)
 else (F62_c0 n x0 x1 x2 (iadd .i64 x3 (1)) x4 x5 x6 x7 x8 x9 x10 x11 x12 x13 x14 x15 x16 x17 x18 x19 x20 x21 x22 x23)))
 else (F62_c0 n x0 x1 x2 (iadd .i64 x3 (1)) x4 x5 x6 x7 x8 x9 x10 x11 x12 x13 x14 x15 x16 x17 x18 x19 x20 x21 x22 x23))
 else (none))
 else (some x0)
def F62 (n : Nat) (a0 : Int) (a1 a2 : List (Int)) (a3 a4 a5 a6 a7 a8 a9 a10 a11 a12 a13 a14 a15 a16 a17 a18 a19 : Int) : Option (Int) :=
  F62_c0 n (-1) a1 (ofN (List.length a1)) (0) a0 a1 a2 a3 a4 a5 a6 a7 a8 a9 a10 a11 a12 a13 a14 a15 a16 a17 a18 a19

/-! ### garland/view.First -/
def F33 (_n : Nat) (a0 : Int) (a1 a2 : List (Int)) (a3 a4 a5 a6 a7 a8 a9 a10 a11 a12 a13 a14 a15 a16 a17 a18 a19 : Int) : Option (Int) :=
  Option.bind (F32 FUEL a0 a1 a2 a3 a4 a5 a6 a7 a8 a9 a10 a11 a12 a13 a14 a15 a16 a17 a18 a19) fun y1 =>
 bif (!y1) then
 (some (-1))
 else (Option.bind (F61 FUEL a2) fun y2 =>
 bif y2.2 then
 (some y2.1)
 else (Option.bind (F62 FUEL a0 a1 a2 a3 a4 a5 a6 a7 a8 a9 a10 a11 a12 a13 a14 a15 a16 a17 a18 a19) fun y3 =>
 some y3))

/-! ### garland/stab.asks -/
def F34 (_n : Nat) (a0 a1 : Int) : Option ((List (Int × Int × Int × Int × Int × Bool × Bool × Int × Int × (List (Int)) × ByteArray × Int × Int × Bool × Int × Int))) :=
  bif (ieq a0 (0)) then
 (some [])
 else (bif (inb a0 4) then
 (bif ((nlt (Int.toNat a0) 4) && ((nlt (Int.toNat a0) 4) && true)) then
 (bif (room (List.length ([((List.getD [(0), (1), (1), (3)] (Int.toNat a0) 0), (0), (0), a1, (0), false, false, (0), (0), [], ByteArray.empty, (0), (0), false, (0), (List.getD [(0), (1), (2), (3)] (Int.toNat a0) 0))] : List (Int × Int × Int × Int × Int × Bool × Bool × Int × Int × (List (Int)) × ByteArray × Int × Int × Bool × Int × Int))) 144) then
 (some ([((List.getD [(0), (1), (1), (3)] (Int.toNat a0) 0), (0), (0), a1, (0), false, false, (0), (0), [], ByteArray.empty, (0), (0), false, (0), (List.getD [(0), (1), (2), (3)] (Int.toNat a0) 0))] : List (Int × Int × Int × Int × Int × Bool × Bool × Int × Int × (List (Int)) × ByteArray × Int × Int × Bool × Int × Int)))
 else (none))
 else (none))
 else (none))

/-! ### garland/stab.Begin -/
def F9 (_n : Nat) (a0 : Int) (a1 a2 : List (Int)) (a3 a4 a5 a6 a7 a8 a9 a10 a11 a12 a13 a14 a15 a16 a17 a18 a19 a20 a21 : Int) : Option (Int × Int × (List (Int × Int × Int × Int × Int × Bool × Bool × Int × Int × (List (Int)) × ByteArray × Int × Int × Bool × Int × Int))) :=
  Option.bind (F32 FUEL a0 a1 a2 a3 a4 a5 a6 a7 a8 a9 a10 a11 a12 a13 a14 a15 a16 a17 a18 a19) fun y1 =>
 bif (!y1) then
 (some (a20, a21, []))
 else (Option.bind (F17 FUEL a20 a21) fun y2 =>
 bif (!y2) then
 (some (a20, a21, []))
 else (bif (ine a20 (0)) then
 (some (a20, a21, []))
 else (Option.bind (F33 FUEL a0 a1 a2 a3 a4 a5 a6 a7 a8 a9 a10 a11 a12 a13 a14 a15 a16 a17 a18 a19) fun y3 =>
 Option.bind (F34 FUEL (1) y3) fun y4 =>
 some ((1), y3, y4))))

/-! ### garland/garlandlaw14.tell -/
structure Si5b2i2si2bi where
  q0 : Int
  q1 : Int
  q2 : Int
  q3 : Int
  q4 : Int
  q5 : Bool
  q6 : Bool
  q7 : Int
  q8 : Int
  q9 : ByteArray
  q10 : Int
  q11 : Int
  q12 : Bool
  q13 : Int
def F23 (_n : Nat) (a0 a1 a2 : Int) : Option (Si5b2i2si2bi) :=
  some ⟨(7), (iadd .i64 (imul .i64 a1 (1048576)) (1)), a0, a1, (0), false, false, (0), a2, ByteArray.empty, (0), (0), false, (0)⟩

/-! ### slices.Clone[[]int,int] -/
def F65 (_n : Nat) (a0 : List (Int)) : Option ((List (Int))) :=
  bif (List.isEmpty a0) then
 (altE (some [])
 (bif (room (0 + List.length a0) 8) then
 (some ([] ++ a0))
 else (none)))
 else (bif (room (0 + List.length a0) 8) then
 (some ([] ++ a0))
 else (none))

/-! ### garland/view.Own -/
structure Si18l2 where
  q0 : Int
  q1 : Int
  q2 : Int
  q3 : Int
  q4 : Int
  q5 : Int
  q6 : Int
  q7 : Int
  q8 : Int
  q9 : Int
  q10 : Int
  q11 : Int
  q12 : Int
  q13 : Int
  q14 : Int
  q15 : Int
  q16 : Int
  q17 : Int
  q18 : List (Int)
  q19 : List (Int)
def F38 (_n : Nat) (a0 : Int) (a1 a2 : List (Int)) (a3 a4 a5 a6 a7 a8 a9 a10 a11 a12 a13 a14 a15 a16 a17 a18 a19 : Int) : Option (Si18l2) :=
  Option.bind (F65 FUEL a1) fun y1 =>
 Option.bind (F65 FUEL a2) fun y2 =>
 some ⟨a0, a3, a4, a5, a6, a7, a8, a9, a10, a11, a12, a13, a14, a15, a16, a17, a18, a19, y1, y2⟩

/-! ### garland/msg.isKey -/
def F91 (_n : Nat) (a0 : ByteArray) : Option (Bool) :=
  bif (ige (stlen a0) (1)) then
 (some (ile (stlen a0) (20)))
 else (some false)

/-! ### garland/msg.isValue -/
def F96 (_n : Nat) (a0 : Int) : Option (Bool) :=
  bif (ige a0 (0)) then
 (some (ile a0 (1048576)))
 else (some false)

/-! ### garland/msg.Pair -/
def F90 (_n : Nat) (a0 : ByteArray) (a1 a2 : Int) (_a3 : Bool) : Option (Bool) :=
  Option.bind (F91 FUEL a0) fun y1 =>
 bif y1 then
 (Option.bind (F96 FUEL a1) fun y2 =>
 bif y2 then
 (Option.bind (F96 FUEL a2) fun y3 =>
 some y3)
 else (some false))
 else (some false)

/-! ### slices.Index[[]int,int] -/
def F88_c0 : Nat → List (Int) → Int → Int → Int → Option (Int)
  | 0, _, _, _, _ => none
  | n + 1, x0, x1, x2, x3 => bif (ilt x3 x2) then
 (bif (inb x3 (List.length x0)) then
 (bif (ieq x1 (List.getD x0 (Int.toNat x3) 0)) then
 (some x3)
 else (F88_c0 n x0 x1 x2 (iadd .i64 x3 (1))))
 else (none))
 else (some (-1))
def F88 (n : Nat) (a0 : List (Int)) (a1 : Int) : Option (Int) :=
  F88_c0 n a0 a1 (ofN (List.length a0)) (0)

/-! ### slices.Contains[[]int,int] -/
def F71 (_n : Nat) (a0 : List (Int)) (a1 : Int) : Option (Bool) :=
  Option.bind (F88 FUEL a0 a1) fun y1 =>
 some (ige y1 (0))

/-! ### garland/msg.apart -/
def F92_c0 : Nat → Int → List (Int) → List (Int) → Int → Int → Option (Bool)
  | 0, _, _, _, _, _ => none
  | n + 1, x0, x1, x2, x3, x4 => bif (ilt x4 x3) then
 (bif (inb x4 (List.length x2)) then
 (bif (ieq (List.getD x2 (Int.toNat x4) 0) x0) then
 (some false)
 else (bif ((inn x4) && (inbs 0 (Int.toNat x4) (List.length x1))) then
 (Option.bind (F71 FUEL (List.drop 0 (List.take (Int.toNat x4) x1)) (List.getD x2 (Int.toNat x4) 0)) fun y1 =>
 bif y1 then
 (some false)
 else (F92_c0 n x0 x1 x2 x3 (iadd .i64 x4 (1))))
 else (none)))
 else (none))
 else (some true)
def F92 (n : Nat) (a0 : Int) (a1 : List (Int)) : Option (Bool) :=
  F92_c0 n a0 a1 a1 (ofN (List.length a1)) (0)

/-! ### garland/msg.holds -/
def F80 (_n : Nat) (a0 _a1 a2 _a3 _a4 : Int) (_a5 _a6 : Bool) (_a7 _a8 : Int) (a9 : List (Int)) (a10 : ByteArray) (a11 a12 : Int) (a13 : Bool) (a14 : Int) : Option (Bool) :=
  bif (ieq a0 (5)) then
 (Option.bind (F90 FUEL a10 a11 a12 a13) fun y1 =>
 some y1)
 else (bif (ieq a0 (6)) then
 (Option.bind (F91 FUEL a10) fun y2 =>
 some y2)
 else (bif (ieq a0 (7)) then
 (bif (ile (ofN (List.length a9)) (3)) then
 (Option.bind (F92 FUEL a2 a9) fun y3 =>
 some y3)
 else (some false))
 else (bif (ieq a0 (11)) then
 (bif (ieq a14 (0)) then
 (some true)
 else (some (ieq a14 (200))))
 else (bif (ieq a0 (12)) then
 (bif (ieq a14 (0)) then
 (Option.bind (F90 FUEL a10 a11 a12 a13) fun y4 =>
 bif y4 then
 (some true)
 else (bif (ieq a14 (201)) then
 (some ((steq a10 ByteArray.empty) && ((ieq a11 (0)) && ((ieq a12 (0)) && ((beqb a13 false) && true)))))
 else (some false)))
 else (bif (ieq a14 (201)) then
 (some ((steq a10 ByteArray.empty) && ((ieq a11 (0)) && ((ieq a12 (0)) && ((beqb a13 false) && true)))))
 else (some false)))
 else (some true)))))

/-! ### garland/msg.isPlace -/
def F82 (_n : Nat) (a0 : Int) : Option (Bool) :=
  bif (ige a0 (0)) then
 (some (ilt a0 (65536)))
 else (some false)

/-! ### garland/msg.Asks -/
def F94 (_n : Nat) (a0 _a1 _a2 _a3 _a4 : Int) (_a5 _a6 : Bool) (_a7 _a8 : Int) (_a9 : List (Int)) (_a10 : ByteArray) (_a11 _a12 : Int) (_a13 : Bool) (_a14 : Int) : Option (Bool) :=
  bif (ige a0 (1)) then
 (some (ile a0 (6)))
 else (some false)

/-! ### garland/msg.Asker -/
def F84 (_n : Nat) (a0 a1 a2 a3 a4 : Int) (a5 a6 : Bool) (a7 a8 : Int) (a9 : List (Int)) (a10 : ByteArray) (a11 a12 : Int) (a13 : Bool) (a14 : Int) : Option (Int) :=
  Option.bind (F94 FUEL a0 a1 a2 a3 a4 a5 a6 a7 a8 a9 a10 a11 a12 a13 a14) fun y1 =>
 bif y1 then
 (some a2)
 else (some a3)

/-! ### garland/msg.isCall -/
def F83 (_n : Nat) (a0 a1 : Int) : Option (Bool) :=
  bif (igt a1 (imul .i64 a0 (1048576))) then
 (some (ile a1 (imul .i64 (iadd .i64 a0 (1)) (1048576))))
 else (some false)

/-! ### garland/msg.beside -/
structure Sbi5b2i2si2bi where
  q0 : Bool
  q1 : Int
  q2 : Int
  q3 : Int
  q4 : Int
  q5 : Int
  q6 : Bool
  q7 : Bool
  q8 : Int
  q9 : Int
  q10 : ByteArray
  q11 : Int
  q12 : Int
  q13 : Bool
  q14 : Int
def F86 (_n : Nat) (a0 _a1 _a2 _a3 a4 : Int) (a5 a6 : Bool) (a7 a8 : Int) (a9 : ByteArray) (a10 a11 : Int) (a12 : Bool) (a13 : Int) : Option (Sbi5b2i2si2bi) :=
  bif (ieq a0 (4)) then
 (some ⟨true, (0), (0), (0), (0), (0), false, a6, a7, a8, a9, a10, a11, a12, a13⟩)
 else (bif (ieq a0 (5)) then
 (some ⟨true, (0), (0), (0), (0), a4, a5, a6, a7, a8, ByteArray.empty, (0), (0), false, a13⟩)
 else (bif (ieq a0 (6)) then
 (some ⟨true, (0), (0), (0), (0), a4, a5, a6, a7, a8, ByteArray.empty, a10, a11, a12, a13⟩)
 else (bif (ieq a0 (7)) then
 (some ⟨false, (0), (0), (0), (0), a4, a5, a6, a7, (0), a9, a10, a11, a12, a13⟩)
 else (bif (ieq a0 (10)) then
 (some ⟨true, (0), (0), (0), (0), a4, a5, false, (0), a8, a9, a10, a11, a12, a13⟩)
 else (bif (ieq a0 (11)) then
 (some ⟨true, (0), (0), (0), (0), a4, a5, a6, a7, a8, a9, a10, a11, a12, (0)⟩)
 else (bif (ieq a0 (12)) then
 (some ⟨true, (0), (0), (0), (0), a4, a5, a6, a7, a8, ByteArray.empty, (0), (0), false, (0)⟩)
 else (some ⟨true, (0), (0), (0), (0), a4, a5, a6, a7, a8, a9, a10, a11, a12, a13⟩)))))))

/-! ### slices.Equal[[]int,int] -/
def F95_c0 : Nat → List (Int) → List (Int) → Int → Int → Option (Bool)
  | 0, _, _, _, _ => none
  | n + 1, x0, x1, x2, x3 => bif (ilt x3 x2) then
 (bif (inb x3 (List.length x0)) then
 (bif (inb x3 (List.length x1)) then
 (bif (ine (List.getD x0 (Int.toNat x3) 0) (List.getD x1 (Int.toNat x3) 0)) then
 (some false)
 else (F95_c0 n x0 x1 x2 (iadd .i64 x3 (1))))
 else (none))
 else (none))
 else (some true)
def F95 (n : Nat) (a0 a1 : List (Int)) : Option (Bool) :=
  bif (ine (ofN (List.length a0)) (ofN (List.length a1))) then
 (some false)
 else (F95_c0 n a0 a1 (ofN (List.length a0)) (0))

/-! ### garland/msg.Same -/
def F85 (_n : Nat) (a0 a1 a2 a3 a4 : Int) (a5 a6 : Bool) (a7 a8 : Int) (a9 : List (Int)) (a10 : ByteArray) (a11 a12 : Int) (a13 : Bool) (a14 a15 a16 a17 a18 a19 : Int) (a20 a21 : Bool) (a22 a23 : Int) (a24 : List (Int)) (a25 : ByteArray) (a26 a27 : Int) (a28 : Bool) (a29 : Int) : Option (Bool) :=
  bif (ieq a0 a15) then
 (bif (ieq a1 a16) then
 (bif (ieq a2 a17) then
 (bif (ieq a3 a18) then
 (bif (ieq a4 a19) then
 (bif (beqb a5 a20) then
 (bif (beqb a6 a21) then
 (bif (ieq a7 a22) then
 (bif (ieq a8 a23) then
 (Option.bind (F95 FUEL a9 a24) fun y1 =>
 bif y1 then
 (bif ((steq a10 a25) && ((ieq a11 a26) && ((ieq a12 a27) && ((beqb a13 a28) && true)))) then
 (some (ieq a14 a29))
 else (some false))
 else (some false))
 else (some false))
 else (some false))
 else (some false))
 else (some false))
 else (some false))
 else (some false))
 else (some false))
 else (some false))
 else (some false)

/-! ### garland/msg.Right -/
mutual
def F66_c0 : Nat → Option (Bool)
  | 0 => none
  | _ + 1 => some false
def F66_c1 : Nat → List (Int) → Int → Int → Int → Int → Int → Int → Int → Bool → Bool → Int → Int → List (Int) → ByteArray → Int → Int → Bool → Int → Option (Bool)
  | 0, _, _, _, _, _, _, _, _, _, _, _, _, _, _, _, _, _, _ => none
  | n + 1, x0, x1, x2, x3, x4, x5, x6, x7, x8, x9, x10, x11, x12, x13, x14, x15, x16, x17 => bif (ilt x2 x1) then
 (bif (inb x2 (List.length x0)) then
 (Option.bind (F82 FUEL (List.getD x0 (Int.toNat x2) 0)) fun y22 =>
 bif (!y22) then
 (F66_c0 n )
 else (F66_c1 n x0 x1 (iadd .i64 x2 (1)) x3 x4 x5 x6 x7 x8 x9 x10 x11 x12 x13 x14 x15 x16 x17))
 else (none))
 else (bif (ieq x5 x6) then
 (F66_c0 n )
 else (Option.bind (F84 FUEL x3 x4 x5 x6 x7 x8 x9 x10 x11 x12 x13 x14 x15 x16 x17) fun y23 =>
 Option.bind (F83 FUEL y23 x4) fun y24 =>
 bif (!y24) then
 (F66_c0 n )
 else (Option.bind (F86 FUEL x3 x4 x5 x6 x7 x8 x9 x10 x11 x13 x14 x15 x16 x17) fun y25 =>
 bif y25.q0 then
 (Option.bind (F85 FUEL y25.q1 y25.q2 y25.q3 y25.q4 y25.q5 y25.q6 y25.q7 y25.q8 y25.q9 x12 y25.q10 y25.q11 y25.q12 y25.q13 y25.q14 (0) (0) (0) (0) (0) false false (0) (0) [] ByteArray.empty (0) (0) false (0)) fun y26 =>
 some y26)
 else (Option.bind (F85 FUEL y25.q1 y25.q2 y25.q3 y25.q4 y25.q5 y25.q6 y25.q7 y25.q8 y25.q9 [] y25.q10 y25.q11 y25.q12 y25.q13 y25.q14 (0) (0) (0) (0) (0) false false (0) (0) [] ByteArray.empty (0) (0) false (0)) fun y27 =>
 some y27))))
end
def F66 (n : Nat) (a0 a1 a2 a3 a4 : Int) (a5 a6 : Bool) (a7 a8 : Int) (a9 : List (Int)) (a10 : ByteArray) (a11 a12 : Int) (a13 : Bool) (a14 : Int) : Option (Bool) :=
  bif (ilt a0 (1)) then
 (F66_c0 n )
 else (bif (ige a0 (13)) then
 (F66_c0 n )
 else (Option.bind (F80 FUEL a0 a1 a2 a3 a4 a5 a6 a7 a8 a9 a10 a11 a12 a13 a14) fun y1 =>
 bif (!y1) then
 (F66_c0 n )
 else (Option.bind (F82 FUEL a2) fun y2 =>
 bif (!y2) then
 (F66_c0 n )
 else (Option.bind (F82 FUEL a3) fun y3 =>
 bif (!y3) then
 (F66_c0 n )
 else (bif (ieq a0 (4)) then
 (Option.bind (F82 FUEL a4) fun y4 =>
 bif (!y4) then
 (F66_c0 n )
 else (bif (ieq a2 a3) then
 (F66_c0 n )
 else (Option.bind (F84 FUEL a0 a1 a2 a3 a4 a5 a6 a7 a8 a9 a10 a11 a12 a13 a14) fun y5 =>
 Option.bind (F83 FUEL y5 a1) fun y6 =>
 bif (!y6) then
 (F66_c0 n )
 else (Option.bind (F86 FUEL a0 a1 a2 a3 a4 a5 a6 a7 a8 a10 a11 a12 a13 a14) fun y7 =>
 bif y7.q0 then
 (Option.bind (F85 FUEL y7.q1 y7.q2 y7.q3 y7.q4 y7.q5 y7.q6 y7.q7 y7.q8 y7.q9 a9 y7.q10 y7.q11 y7.q12 y7.q13 y7.q14 (0) (0) (0) (0) (0) false false (0) (0) [] ByteArray.empty (0) (0) false (0)) fun y8 =>
 some y8)
 else (Option.bind (F85 FUEL y7.q1 y7.q2 y7.q3 y7.q4 y7.q5 y7.q6 y7.q7 y7.q8 y7.q9 [] y7.q10 y7.q11 y7.q12 y7.q13 y7.q14 (0) (0) (0) (0) (0) false false (0) (0) [] ByteArray.empty (0) (0) false (0)) fun y9 =>
 some y9)))))
 else (bif (ieq a0 (10)) then
 (Option.bind (F82 FUEL a7) fun y10 =>
 bif (!y10) then
 (F66_c0 n )
 else (bif (ieq a2 a3) then
 (F66_c0 n )
 else (Option.bind (F84 FUEL a0 a1 a2 a3 a4 a5 a6 a7 a8 a9 a10 a11 a12 a13 a14) fun y11 =>
 Option.bind (F83 FUEL y11 a1) fun y12 =>
 bif (!y12) then
 (F66_c0 n )
 else (Option.bind (F86 FUEL a0 a1 a2 a3 a4 a5 a6 a7 a8 a10 a11 a12 a13 a14) fun y13 =>
 bif y13.q0 then
 (Option.bind (F85 FUEL y13.q1 y13.q2 y13.q3 y13.q4 y13.q5 y13.q6 y13.q7 y13.q8 y13.q9 a9 y13.q10 y13.q11 y13.q12 y13.q13 y13.q14 (0) (0) (0) (0) (0) false false (0) (0) [] ByteArray.empty (0) (0) false (0)) fun y14 =>
 some y14)
 else (Option.bind (F85 FUEL y13.q1 y13.q2 y13.q3 y13.q4 y13.q5 y13.q6 y13.q7 y13.q8 y13.q9 [] y13.q10 y13.q11 y13.q12 y13.q13 y13.q14 (0) (0) (0) (0) (0) false false (0) (0) [] ByteArray.empty (0) (0) false (0)) fun y15 =>
 some y15)))))
 else (bif (ieq a0 (7)) then
 (bif (ine a8 (-1)) then
 (Option.bind (F82 FUEL a8) fun y16 =>
 bif (!y16) then
 (F66_c0 n )
 else (F66_c1 n a9 (ofN (List.length a9)) (0) a0 a1 a2 a3 a4 a5 a6 a7 a8 a9 a10 a11 a12 a13 a14))
 else (F66_c1 n a9 (ofN (List.length a9)) (0) a0 a1 a2 a3 a4 a5 a6 a7 a8 a9 a10 a11 a12 a13 a14))
 else (bif (ieq a2 a3) then
 (F66_c0 n )
 else (Option.bind (F84 FUEL a0 a1 a2 a3 a4 a5 a6 a7 a8 a9 a10 a11 a12 a13 a14) fun y17 =>
 Option.bind (F83 FUEL y17 a1) fun y18 =>
 bif (!y18) then
 (F66_c0 n )
 else (Option.bind (F86 FUEL a0 a1 a2 a3 a4 a5 a6 a7 a8 a10 a11 a12 a13 a14) fun y19 =>
 bif y19.q0 then
 (Option.bind (F85 FUEL y19.q1 y19.q2 y19.q3 y19.q4 y19.q5 y19.q6 y19.q7 y19.q8 y19.q9 a9 y19.q10 y19.q11 y19.q12 y19.q13 y19.q14 (0) (0) (0) (0) (0) false false (0) (0) [] ByteArray.empty (0) (0) false (0)) fun y20 =>
 some y20)
 else (Option.bind (F85 FUEL y19.q1 y19.q2 y19.q3 y19.q4 y19.q5 y19.q6 y19.q7 y19.q8 y19.q9 [] y19.q10 y19.q11 y19.q12 y19.q13 y19.q14 (0) (0) (0) (0) (0) false false (0) (0) [] ByteArray.empty (0) (0) false (0)) fun y21 =>
 some y21)))))))))))

/-! ### garland/stab.counts -/
def F39 (_n : Nat) (a0 : Int) (_a1 _a2 : List (Int)) (_a3 _a4 _a5 _a6 _a7 _a8 _a9 _a10 _a11 _a12 _a13 _a14 _a15 _a16 _a17 _a18 _a19 a20 a21 a22 a23 a24 a25 a26 : Int) (a27 a28 : Bool) (a29 a30 : Int) (a31 : List (Int)) (a32 : ByteArray) (a33 a34 : Int) (a35 : Bool) (a36 : Int) : Option (Bool) :=
  bif (ieq a20 (0)) then
 (some false)
 else (bif (inb a20 4) then
 (bif ((nlt (Int.toNat a20) 4) && ((nlt (Int.toNat a20) 4) && true)) then
 (bif (ieq a22 (iadd .u8 (List.getD [(0), (1), (1), (3)] (Int.toNat a20) 0) (6))) then
 (bif (ieq a24 a21) then
 (bif (ieq a25 a0) then
 (Option.bind (F66 FUEL a22 a23 a24 a25 a26 a27 a28 a29 a30 a31 a32 a33 a34 a35 a36) fun y1 =>
 some y1)
 else (some false))
 else (some false))
 else (some false))
 else (none))
 else (none))

/-! ### garland/list.Make -/
mutual
def F41_c0 : Nat → List (Int) → Option ((List (Int)))
  | 0, _ => none
  | _ + 1, x0 => some x0
def F41_c1 : Nat → List (Int) → Int → Int → Int → List (Int) → Option ((List (Int)))
  | 0, _, _, _, _, _ => none
  | n + 1, x0, x1, x2, x3, x4 => bif (ilt x2 x1) then
 (bif (inb x2 (List.length x0)) then
 (bif (ige (ofN (List.length x4)) (3)) then
 (F41_c0 n x4)
 else (Option.bind (F68 FUEL (List.getD x0 (Int.toNat x2) 0)) fun y3 =>
 bif (!y3) then
 (F41_c0 n x4)
 else (Option.bind (F70 FUEL x3 (List.getD x0 (Int.toNat x2) 0)) fun y4 =>
 bif (inb (isub .i64 (ofN (List.length x4)) (1)) (List.length x4)) then
 (bif (nlt (Int.toNat (isub .i64 (ofN (List.length x4)) (1))) (List.length x4)) then
 (Option.bind (F70 FUEL x3 (List.getD x4 (Int.toNat (isub .i64 (ofN (List.length x4)) (1))) 0)) fun y5 =>
 bif (ile y4 y5) then
 (F41_c0 n x4)
 else (bif (room (List.length x4 + List.length [(List.getD x0 (Int.toNat x2) 0)]) 8) then
 (F41_c1 n x0 x1 (iadd .i64 x2 (1)) x3 (x4 ++ [(List.getD x0 (Int.toNat x2) 0)]))
 else (none)))
 else (none))
 else (none))))
 else (none))
 else (some x4)
end
def F41 (n : Nat) (a0 a1 : Int) (a2 : List (Int)) : Option ((List (Int))) :=
  Option.bind (F67 FUEL a0) fun y1 =>
 Option.bind (F68 FUEL a1) fun y2 =>
 bif (!y2) then
 (F41_c0 n [])
 else (bif (ieq a1 y1) then
 (F41_c0 n [])
 else (bif (room (List.length [a1]) 8) then
 (F41_c1 n a2 (ofN (List.length a2)) (0) y1 [a1])
 else (none)))

/-! ### garland/view.Listed -/
def F40_c0 : Nat → Int → Int → Int → Int → Int → Int → Int → Int → Int → Int → Int → Int → Int → Int → Int → Int → Int → Int → Int → Int → Int → Int → Int → Int → Int → Int → Int → Int → Int → Int → Int → Int → Int → Int → Int → Int → List (Int) → List (Int) → Option (Si18l2)
  | 0, _, _, _, _, _, _, _, _, _, _, _, _, _, _, _, _, _, _, _, _, _, _, _, _, _, _, _, _, _, _, _, _, _, _, _, _, _, _ => none
  | _ + 1, _, _, _, _, _, _, _, _, _, _, _, _, _, _, _, _, _, _, x18, x19, x20, x21, x22, x23, x24, x25, x26, x27, x28, x29, x30, x31, x32, x33, x34, x35, x36, x37 => some ⟨x18, x19, x20, x21, x22, x23, x24, x25, x26, x27, x28, x29, x30, x31, x32, x33, x34, x35, x36, x37⟩
def F40 (n : Nat) (a0 : Int) (a1 a2 : List (Int)) (a3 a4 a5 a6 a7 a8 a9 a10 a11 a12 a13 a14 a15 a16 a17 a18 a19 : Int) (a20 : List (Int)) : Option (Si18l2) :=
  Option.bind (F38 FUEL a0 a1 a2 a3 a4 a5 a6 a7 a8 a9 a10 a11 a12 a13 a14 a15 a16 a17 a18 a19) fun y1 =>
 Option.bind (F32 FUEL a0 a1 a2 a3 a4 a5 a6 a7 a8 a9 a10 a11 a12 a13 a14 a15 a16 a17 a18 a19) fun y2 =>
 bif (!y2) then
 (F40_c0 n (0) (0) (0) (0) (0) (0) (0) (0) (0) (0) (0) (0) (0) (0) (0) (0) (0) (0) y1.q0 y1.q1 y1.q2 y1.q3 y1.q4 y1.q5 y1.q6 y1.q7 y1.q8 y1.q9 y1.q10 y1.q11 y1.q12 y1.q13 y1.q14 y1.q15 y1.q16 y1.q17 y1.q18 y1.q19)
 else (Option.bind (F59 FUEL a0 a20) fun y3 =>
 bif (!y3) then
 (F40_c0 n (0) (0) (0) (0) (0) (0) (0) (0) (0) (0) (0) (0) (0) (0) (0) (0) (0) (0) y1.q0 y1.q1 y1.q2 y1.q3 y1.q4 y1.q5 y1.q6 y1.q7 y1.q8 y1.q9 y1.q10 y1.q11 y1.q12 y1.q13 y1.q14 y1.q15 y1.q16 y1.q17 y1.q18 y1.q19)
 else (Option.bind (F65 FUEL a20) fun y4 =>
 some ⟨y1.q0, y1.q1, y1.q2, y1.q3, y1.q4, y1.q5, y1.q6, y1.q7, y1.q8, y1.q9, y1.q10, y1.q11, y1.q12, y1.q13, y1.q14, y1.q15, y1.q16, y1.q17, y1.q18, y4⟩))

/-! ### garland/arc.In -/
def F42 (_n : Nat) (a0 a1 a2 : Int) : Option (Bool) :=
  Option.bind (F70 FUEL a0 a1) fun y1 =>
 Option.bind (F70 FUEL a0 a2) fun y2 =>
 bif (ieq y2 (0)) then
 (some (igt y1 (0)))
 else (bif (igt y1 (0)) then
 (some (ilt y1 y2))
 else (some false))

/-! ### garland/stab.Told -/
structure Sil2i19l_i5b2i2lsi2bi2_ where
  q0 : Int
  q1 : List (Int)
  q2 : List (Int)
  q3 : Int
  q4 : Int
  q5 : Int
  q6 : Int
  q7 : Int
  q8 : Int
  q9 : Int
  q10 : Int
  q11 : Int
  q12 : Int
  q13 : Int
  q14 : Int
  q15 : Int
  q16 : Int
  q17 : Int
  q18 : Int
  q19 : Int
  q20 : Int
  q21 : Int
  q22 : List (Int × Int × Int × Int × Int × Bool × Bool × Int × Int × (List (Int)) × ByteArray × Int × Int × Bool × Int × Int)
def F12_c0 : Nat → Int → Int → Int → Int → Int → Int → Int → Int → Int → Int → Int → Int → Int → Int → Int → Int → Int → Int → Int → Int → Int → List (Int) → List (Int) → Int → Int → Int → Int → Int → Int → Int → Int → Int → Int → Int → Int → Int → Int → Int → Int → Int → Int → Int → Option (Sil2i19l_i5b2i2lsi2bi2_)
  | 0, _, _, _, _, _, _, _, _, _, _, _, _, _, _, _, _, _, _, _, _, _, _, _, _, _, _, _, _, _, _, _, _, _, _, _, _, _, _, _, _, _, _ => none
  | _ + 1, _, _, _, _, _, _, _, _, _, _, _, _, _, _, _, _, _, _, _, _, x20, x21, x22, x23, x24, x25, x26, x27, x28, x29, x30, x31, x32, x33, x34, x35, x36, x37, x38, x39, x40, x41 => Option.bind (F34 FUEL x40 x41) fun y14 =>
 some ⟨x20, x21, x22, x23, x24, x25, x26, x27, x28, x29, x30, x31, x32, x33, x34, x35, x36, x37, x38, x39, x40, x41, y14⟩
def F12 (n : Nat) (a0 : Int) (a1 a2 : List (Int)) (a3 a4 a5 a6 a7 a8 a9 a10 a11 a12 a13 a14 a15 a16 a17 a18 a19 a20 a21 a22 a23 a24 a25 a26 : Int) (a27 a28 : Bool) (a29 a30 : Int) (a31 : List (Int)) (a32 : ByteArray) (a33 a34 : Int) (a35 : Bool) (a36 : Int) : Option (Sil2i19l_i5b2i2lsi2bi2_) :=
  Option.bind (F38 FUEL a0 a1 a2 a3 a4 a5 a6 a7 a8 a9 a10 a11 a12 a13 a14 a15 a16 a17 a18 a19) fun y1 =>
 Option.bind (F32 FUEL a0 a1 a2 a3 a4 a5 a6 a7 a8 a9 a10 a11 a12 a13 a14 a15 a16 a17 a18 a19) fun y2 =>
 bif (!y2) then
 (some ⟨y1.q0, y1.q18, y1.q19, y1.q1, y1.q2, y1.q3, y1.q4, y1.q5, y1.q6, y1.q7, y1.q8, y1.q9, y1.q10, y1.q11, y1.q12, y1.q13, y1.q14, y1.q15, y1.q16, y1.q17, a20, a21, []⟩)
 else (Option.bind (F17 FUEL a20 a21) fun y3 =>
 bif (!y3) then
 (some ⟨y1.q0, y1.q18, y1.q19, y1.q1, y1.q2, y1.q3, y1.q4, y1.q5, y1.q6, y1.q7, y1.q8, y1.q9, y1.q10, y1.q11, y1.q12, y1.q13, y1.q14, y1.q15, y1.q16, y1.q17, a20, a21, []⟩)
 else (Option.bind (F39 FUEL a0 a1 a2 a3 a4 a5 a6 a7 a8 a9 a10 a11 a12 a13 a14 a15 a16 a17 a18 a19 a20 a21 a22 a23 a24 a25 a26 a27 a28 a29 a30 a31 a32 a33 a34 a35 a36) fun y4 =>
 bif (!y4) then
 (some ⟨y1.q0, y1.q18, y1.q19, y1.q1, y1.q2, y1.q3, y1.q4, y1.q5, y1.q6, y1.q7, y1.q8, y1.q9, y1.q10, y1.q11, y1.q12, y1.q13, y1.q14, y1.q15, y1.q16, y1.q17, a20, a21, []⟩)
 else (bif (ieq a20 (3)) then
 (F12_c0 n (0) (0) (0) (0) (0) (0) (0) (0) (0) (0) (0) (0) (0) (0) (0) (0) (0) (0) (0) (0) y1.q0 y1.q18 y1.q19 y1.q1 y1.q2 y1.q3 y1.q4 y1.q5 y1.q6 y1.q7 y1.q8 y1.q9 y1.q10 y1.q11 y1.q12 y1.q13 y1.q14 y1.q15 y1.q16 y1.q17 (0) (0))
 else (Option.bind (F41 FUEL a0 a24 a31) fun y5 =>
 Option.bind (F40 FUEL y1.q0 y1.q18 y1.q19 y1.q1 y1.q2 y1.q3 y1.q4 y1.q5 y1.q6 y1.q7 y1.q8 y1.q9 y1.q10 y1.q11 y1.q12 y1.q13 y1.q14 y1.q15 y1.q16 y1.q17 y5) fun y6 =>
 bif (ieq a20 (1)) then
 (bif (ine a30 (-1)) then
 (Option.bind (F42 FUEL a0 a30 a24) fun y7 =>
 bif y7 then
 (F12_c0 n (0) (0) (0) (0) (0) (0) (0) (0) (0) (0) (0) (0) (0) (0) (0) (0) (0) (0) (0) (0) y6.q0 y6.q18 y6.q19 y6.q1 y6.q2 y6.q3 y6.q4 y6.q5 y6.q6 y6.q7 y6.q8 y6.q9 y6.q10 y6.q11 y6.q12 y6.q13 y6.q14 y6.q15 y6.q16 y6.q17 (2) a30)
 else (Option.bind (F33 FUEL y6.q0 y6.q18 y6.q19 y6.q1 y6.q2 y6.q3 y6.q4 y6.q5 y6.q6 y6.q7 y6.q8 y6.q9 y6.q10 y6.q11 y6.q12 y6.q13 y6.q14 y6.q15 y6.q16 y6.q17) fun y8 =>
 Option.bind (F34 FUEL (3) y8) fun y9 =>
 some ⟨y6.q0, y6.q18, y6.q19, y6.q1, y6.q2, y6.q3, y6.q4, y6.q5, y6.q6, y6.q7, y6.q8, y6.q9, y6.q10, y6.q11, y6.q12, y6.q13, y6.q14, y6.q15, y6.q16, y6.q17, (3), y8, y9⟩))
 else (Option.bind (F33 FUEL y6.q0 y6.q18 y6.q19 y6.q1 y6.q2 y6.q3 y6.q4 y6.q5 y6.q6 y6.q7 y6.q8 y6.q9 y6.q10 y6.q11 y6.q12 y6.q13 y6.q14 y6.q15 y6.q16 y6.q17) fun y10 =>
 Option.bind (F34 FUEL (3) y10) fun y11 =>
 some ⟨y6.q0, y6.q18, y6.q19, y6.q1, y6.q2, y6.q3, y6.q4, y6.q5, y6.q6, y6.q7, y6.q8, y6.q9, y6.q10, y6.q11, y6.q12, y6.q13, y6.q14, y6.q15, y6.q16, y6.q17, (3), y10, y11⟩))
 else (Option.bind (F33 FUEL y6.q0 y6.q18 y6.q19 y6.q1 y6.q2 y6.q3 y6.q4 y6.q5 y6.q6 y6.q7 y6.q8 y6.q9 y6.q10 y6.q11 y6.q12 y6.q13 y6.q14 y6.q15 y6.q16 y6.q17) fun y12 =>
 Option.bind (F34 FUEL (3) y12) fun y13 =>
 some ⟨y6.q0, y6.q18, y6.q19, y6.q1, y6.q2, y6.q3, y6.q4, y6.q5, y6.q6, y6.q7, y6.q8, y6.q9, y6.q10, y6.q11, y6.q12, y6.q13, y6.q14, y6.q15, y6.q16, y6.q17, (3), y12, y13⟩)))))

/-! ### garland/list.Drop -/
def F72_c0 : Nat → List (Int) → Int → Int → Int → List (Int) → Option ((List (Int)))
  | 0, _, _, _, _, _ => none
  | n + 1, x0, x1, x2, x3, x4 => bif (ilt x2 x1) then
 (bif (inb x2 (List.length x0)) then
 (bif (ine (List.getD x0 (Int.toNat x2) 0) x3) then
 (bif (room (List.length x4 + List.length [(List.getD x0 (Int.toNat x2) 0)]) 8) then
 (F72_c0 n x0 x1 (iadd .i64 x2 (1)) x3 (x4 ++ [(List.getD x0 (Int.toNat x2) 0)]))
 else (none))
 else (F72_c0 n x0 x1 (iadd .i64 x2 (1)) x3 x4))
 else (none))
 else (some x4)
def F72 (n : Nat) (a0 : List (Int)) (a1 : Int) : Option ((List (Int))) :=
  F72_c0 n a0 (ofN (List.length a0)) (0) a1 []

/-! ### garland/view.Dead -/
mutual
def F45_c0 : Nat → Int → Int → Int → Int → Int → Int → Int → Int → Int → Int → Int → Int → Int → Int → Int → Int → Int → Int → Int → Int → Int → Int → Int → Int → Int → Int → Int → Int → Int → Int → Int → Int → Int → Int → Int → Int → List (Int) → List (Int) → Option (Si18l2)
  | 0, _, _, _, _, _, _, _, _, _, _, _, _, _, _, _, _, _, _, _, _, _, _, _, _, _, _, _, _, _, _, _, _, _, _, _, _, _, _ => none
  | _ + 1, _, _, _, _, _, _, _, _, _, _, _, _, _, _, _, _, _, _, x18, x19, x20, x21, x22, x23, x24, x25, x26, x27, x28, x29, x30, x31, x32, x33, x34, x35, x36, x37 => some ⟨x18, x19, x20, x21, x22, x23, x24, x25, x26, x27, x28, x29, x30, x31, x32, x33, x34, x35, x36, x37⟩
def F45_c1 : Nat → Int → Int → Int → Int → Int → Int → Int → Int → Int → Int → Int → Int → Int → Int → Int → Int → Int → Int → Int → Int → Int → Int → Int → Int → Int → Int → Int → Int → Int → Int → Int → Int → Int → Int → Int → Int → Int → Int → Int → Int → Int → Int → Int → Int → Int → Int → Int → Int → Int → Int → Int → Int → Int → Int → List (Int) → List (Int) → Option (Si18l2)
  | 0, _, _, _, _, _, _, _, _, _, _, _, _, _, _, _, _, _, _, _, _, _, _, _, _, _, _, _, _, _, _, _, _, _, _, _, _, _, _, _, _, _, _, _, _, _, _, _, _, _, _, _, _, _, _, _, _ => none
  | n + 1, x0, x1, x2, x3, x4, x5, x6, x7, x8, x9, x10, x11, x12, x13, x14, x15, x16, x17, x18, x19, x20, x21, x22, x23, x24, x25, x26, x27, x28, x29, x30, x31, x32, x33, x34, x35, x36, x37, x38, x39, x40, x41, x42, x43, x44, x45, x46, x47, x48, x49, x50, x51, x52, x53, x54, x55 => bif (ilt x17 (16)) then
 (bif (inb x17 16) then
 (bif (ieq (List.getD [x1, x2, x3, x4, x5, x6, x7, x8, x9, x10, x11, x12, x13, x14, x15, x16] (Int.toNat x17) 0) x0) then
 (bif (inb x17 16) then
 (bif (nlt (Int.toNat x17) 16) then
 (F45_c1 n x0 x1 x2 x3 x4 x5 x6 x7 x8 x9 x10 x11 x12 x13 x14 x15 x16 (iadd .i64 x17 (1)) x18 x19 x20 x21 x22 x23 x24 x25 x26 x27 x28 x29 x30 x31 x32 x33 x34 x35 x36 x37 (List.getD (List.set [x38, x39, x40, x41, x42, x43, x44, x45, x46, x47, x48, x49, x50, x51, x52, x53] (Int.toNat x17) (-1)) 0 0) (List.getD (List.set [x38, x39, x40, x41, x42, x43, x44, x45, x46, x47, x48, x49, x50, x51, x52, x53] (Int.toNat x17) (-1)) 1 0) (List.getD (List.set [x38, x39, x40, x41, x42, x43, x44, x45, x46, x47, x48, x49, x50, x51, x52, x53] (Int.toNat x17) (-1)) 2 0) (List.getD (List.set [x38, x39, x40, x41, x42, x43, x44, x45, x46, x47, x48, x49, x50, x51, x52, x53] (Int.toNat x17) (-1)) 3 0) (List.getD (List.set [x38, x39, x40, x41, x42, x43, x44, x45, x46, x47, x48, x49, x50, x51, x52, x53] (Int.toNat x17) (-1)) 4 0) (List.getD (List.set [x38, x39, x40, x41, x42, x43, x44, x45, x46, x47, x48, x49, x50, x51, x52, x53] (Int.toNat x17) (-1)) 5 0) (List.getD (List.set [x38, x39, x40, x41, x42, x43, x44, x45, x46, x47, x48, x49, x50, x51, x52, x53] (Int.toNat x17) (-1)) 6 0) (List.getD (List.set [x38, x39, x40, x41, x42, x43, x44, x45, x46, x47, x48, x49, x50, x51, x52, x53] (Int.toNat x17) (-1)) 7 0) (List.getD (List.set [x38, x39, x40, x41, x42, x43, x44, x45, x46, x47, x48, x49, x50, x51, x52, x53] (Int.toNat x17) (-1)) 8 0) (List.getD (List.set [x38, x39, x40, x41, x42, x43, x44, x45, x46, x47, x48, x49, x50, x51, x52, x53] (Int.toNat x17) (-1)) 9 0) (List.getD (List.set [x38, x39, x40, x41, x42, x43, x44, x45, x46, x47, x48, x49, x50, x51, x52, x53] (Int.toNat x17) (-1)) 10 0) (List.getD (List.set [x38, x39, x40, x41, x42, x43, x44, x45, x46, x47, x48, x49, x50, x51, x52, x53] (Int.toNat x17) (-1)) 11 0) (List.getD (List.set [x38, x39, x40, x41, x42, x43, x44, x45, x46, x47, x48, x49, x50, x51, x52, x53] (Int.toNat x17) (-1)) 12 0) (List.getD (List.set [x38, x39, x40, x41, x42, x43, x44, x45, x46, x47, x48, x49, x50, x51, x52, x53] (Int.toNat x17) (-1)) 13 0) (List.getD (List.set [x38, x39, x40, x41, x42, x43, x44, x45, x46, x47, x48, x49, x50, x51, x52, x53] (Int.toNat x17) (-1)) 14 0) (List.getD (List.set [x38, x39, x40, x41, x42, x43, x44, x45, x46, x47, x48, x49, x50, x51, x52, x53] (Int.toNat x17) (-1)) 15 0) x54 x55)
 else (none))
 else (none))
 else (F45_c1 n x0 x1 x2 x3 x4 x5 x6 x7 x8 x9 x10 x11 x12 x13 x14 x15 x16 (iadd .i64 x17 (1)) x18 x19 x20 x21 x22 x23 x24 x25 x26 x27 x28 x29 x30 x31 x32 x33 x34 x35 x36 x37 x38 x39 x40 x41 x42 x43 x44 x45 x46 x47 x48 x49 x50 x51 x52 x53 x54 x55))
 else (none))
 else (some ⟨x36, x37, x38, x39, x40, x41, x42, x43, x44, x45, x46, x47, x48, x49, x50, x51, x52, x53, x54, x55⟩)
end
def F45 (n : Nat) (a0 : Int) (a1 a2 : List (Int)) (a3 a4 a5 a6 a7 a8 a9 a10 a11 a12 a13 a14 a15 a16 a17 a18 a19 a20 : Int) : Option (Si18l2) :=
  Option.bind (F38 FUEL a0 a1 a2 a3 a4 a5 a6 a7 a8 a9 a10 a11 a12 a13 a14 a15 a16 a17 a18 a19) fun y1 =>
 Option.bind (F32 FUEL a0 a1 a2 a3 a4 a5 a6 a7 a8 a9 a10 a11 a12 a13 a14 a15 a16 a17 a18 a19) fun y2 =>
 bif (!y2) then
 (F45_c0 n (0) (0) (0) (0) (0) (0) (0) (0) (0) (0) (0) (0) (0) (0) (0) (0) (0) (0) y1.q0 y1.q1 y1.q2 y1.q3 y1.q4 y1.q5 y1.q6 y1.q7 y1.q8 y1.q9 y1.q10 y1.q11 y1.q12 y1.q13 y1.q14 y1.q15 y1.q16 y1.q17 y1.q18 y1.q19)
 else (Option.bind (F71 FUEL a1 a20) fun y3 =>
 bif y3 then
 (F45_c0 n (0) (0) (0) (0) (0) (0) (0) (0) (0) (0) (0) (0) (0) (0) (0) (0) (0) (0) y1.q0 y1.q1 y1.q2 y1.q3 y1.q4 y1.q5 y1.q6 y1.q7 y1.q8 y1.q9 y1.q10 y1.q11 y1.q12 y1.q13 y1.q14 y1.q15 y1.q16 y1.q17 y1.q18 y1.q19)
 else (Option.bind (F72 FUEL y1.q19 a20) fun y4 =>
 bif (ieq y1.q1 a20) then
 (F45_c1 n a20 y1.q2 y1.q3 y1.q4 y1.q5 y1.q6 y1.q7 y1.q8 y1.q9 y1.q10 y1.q11 y1.q12 y1.q13 y1.q14 y1.q15 y1.q16 y1.q17 (0) (0) (0) (0) (0) (0) (0) (0) (0) (0) (0) (0) (0) (0) (0) (0) (0) (0) (0) y1.q0 (-1) y1.q2 y1.q3 y1.q4 y1.q5 y1.q6 y1.q7 y1.q8 y1.q9 y1.q10 y1.q11 y1.q12 y1.q13 y1.q14 y1.q15 y1.q16 y1.q17 y1.q18 y4)
 else (F45_c1 n a20 y1.q2 y1.q3 y1.q4 y1.q5 y1.q6 y1.q7 y1.q8 y1.q9 y1.q10 y1.q11 y1.q12 y1.q13 y1.q14 y1.q15 y1.q16 y1.q17 (0) (0) (0) (0) (0) (0) (0) (0) (0) (0) (0) (0) (0) (0) (0) (0) (0) (0) (0) y1.q0 y1.q1 y1.q2 y1.q3 y1.q4 y1.q5 y1.q6 y1.q7 y1.q8 y1.q9 y1.q10 y1.q11 y1.q12 y1.q13 y1.q14 y1.q15 y1.q16 y1.q17 y1.q18 y4)))

/-! ### garland/stab.Failed -/
structure Sil2i19 where
  q0 : Int
  q1 : List (Int)
  q2 : List (Int)
  q3 : Int
  q4 : Int
  q5 : Int
  q6 : Int
  q7 : Int
  q8 : Int
  q9 : Int
  q10 : Int
  q11 : Int
  q12 : Int
  q13 : Int
  q14 : Int
  q15 : Int
  q16 : Int
  q17 : Int
  q18 : Int
  q19 : Int
  q20 : Int
  q21 : Int
def F15 (_n : Nat) (a0 : Int) (a1 a2 : List (Int)) (a3 a4 a5 a6 a7 a8 a9 a10 a11 a12 a13 a14 a15 a16 a17 a18 a19 a20 a21 a22 : Int) : Option (Sil2i19) :=
  Option.bind (F32 FUEL a0 a1 a2 a3 a4 a5 a6 a7 a8 a9 a10 a11 a12 a13 a14 a15 a16 a17 a18 a19) fun y1 =>
 bif (!y1) then
 (Option.bind (F38 FUEL a0 a1 a2 a3 a4 a5 a6 a7 a8 a9 a10 a11 a12 a13 a14 a15 a16 a17 a18 a19) fun y2 =>
 some ⟨y2.q0, y2.q18, y2.q19, y2.q1, y2.q2, y2.q3, y2.q4, y2.q5, y2.q6, y2.q7, y2.q8, y2.q9, y2.q10, y2.q11, y2.q12, y2.q13, y2.q14, y2.q15, y2.q16, y2.q17, a20, a21⟩)
 else (Option.bind (F17 FUEL a20 a21) fun y3 =>
 bif (!y3) then
 (Option.bind (F38 FUEL a0 a1 a2 a3 a4 a5 a6 a7 a8 a9 a10 a11 a12 a13 a14 a15 a16 a17 a18 a19) fun y4 =>
 some ⟨y4.q0, y4.q18, y4.q19, y4.q1, y4.q2, y4.q3, y4.q4, y4.q5, y4.q6, y4.q7, y4.q8, y4.q9, y4.q10, y4.q11, y4.q12, y4.q13, y4.q14, y4.q15, y4.q16, y4.q17, a20, a21⟩)
 else (bif (ine a20 (0)) then
 (bif (ieq a21 a22) then
 (Option.bind (F45 FUEL a0 a1 a2 a3 a4 a5 a6 a7 a8 a9 a10 a11 a12 a13 a14 a15 a16 a17 a18 a19 a22) fun y5 =>
 some ⟨y5.q0, y5.q18, y5.q19, y5.q1, y5.q2, y5.q3, y5.q4, y5.q5, y5.q6, y5.q7, y5.q8, y5.q9, y5.q10, y5.q11, y5.q12, y5.q13, y5.q14, y5.q15, y5.q16, y5.q17, (0), (0)⟩)
 else (Option.bind (F45 FUEL a0 a1 a2 a3 a4 a5 a6 a7 a8 a9 a10 a11 a12 a13 a14 a15 a16 a17 a18 a19 a22) fun y6 =>
 some ⟨y6.q0, y6.q18, y6.q19, y6.q1, y6.q2, y6.q3, y6.q4, y6.q5, y6.q6, y6.q7, y6.q8, y6.q9, y6.q10, y6.q11, y6.q12, y6.q13, y6.q14, y6.q15, y6.q16, y6.q17, a20, a21⟩))
 else (Option.bind (F45 FUEL a0 a1 a2 a3 a4 a5 a6 a7 a8 a9 a10 a11 a12 a13 a14 a15 a16 a17 a18 a19 a22) fun y7 =>
 some ⟨y7.q0, y7.q18, y7.q19, y7.q1, y7.q2, y7.q3, y7.q4, y7.q5, y7.q6, y7.q7, y7.q8, y7.q9, y7.q10, y7.q11, y7.q12, y7.q13, y7.q14, y7.q15, y7.q16, y7.q17, a20, a21⟩)))

/-! ### garland/garlandref12.Ints -/
def F31_c0 : Nat → List (Int) → List (Int) → Int → Option (Bool)
  | 0, _, _, _ => none
  | n + 1, x0, x1, x2 => bif (ilt x2 (ofN (List.length x0))) then
 (bif (inb x2 (List.length x0)) then
 (bif (inb x2 (List.length x1)) then
 (bif (ine (List.getD x0 (Int.toNat x2) 0) (List.getD x1 (Int.toNat x2) 0)) then
 (some false)
 else (F31_c0 n x0 x1 (iadd .i64 x2 (1))))
 else (none))
 else (none))
 else (some true)
def F31 (n : Nat) (a0 a1 : List (Int)) : Option (Bool) :=
  bif (ine (ofN (List.length a0)) (ofN (List.length a1))) then
 (some false)
 else (F31_c0 n a0 a1 (0))

/-! ### garland/garlandref13.Same -/
def F14 (_n : Nat) (a0 : Int) (a1 a2 : List (Int)) (a3 a4 a5 a6 a7 a8 a9 a10 a11 a12 a13 a14 a15 a16 a17 a18 a19 a20 : Int) (a21 a22 : List (Int)) (a23 a24 a25 a26 a27 a28 a29 a30 a31 a32 a33 a34 a35 a36 a37 a38 a39 : Int) : Option (Bool) :=
  bif (ieq a0 a20) then
 (Option.bind (F31 FUEL a1 a21) fun y1 =>
 bif y1 then
 (Option.bind (F31 FUEL a2 a22) fun y2 =>
 bif y2 then
 (bif (ieq a3 a23) then
 (some ((ieq a4 a24) && ((ieq a5 a25) && ((ieq a6 a26) && ((ieq a7 a27) && ((ieq a8 a28) && ((ieq a9 a29) && ((ieq a10 a30) && ((ieq a11 a31) && ((ieq a12 a32) && ((ieq a13 a33) && ((ieq a14 a34) && ((ieq a15 a35) && ((ieq a16 a36) && ((ieq a17 a37) && ((ieq a18 a38) && ((ieq a19 a39) && true)))))))))))))))))
 else (some false))
 else (some false))
 else (some false))
 else (some false)

/-! ### garland/stab.Why -/
def F19 (_n : Nat) (a0 a1 : Int) : Option (Int) :=
  Option.bind (F17 FUEL a0 a1) fun y1 =>
 bif (!y1) then
 (some (0))
 else (bif (inb a0 4) then
 (bif (nlt (Int.toNat a0) 4) then
 (some (List.getD [(0), (1), (2), (3)] (Int.toNat a0) 0))
 else (none))
 else (none))

/-! ### garland/garlandlaw14.wakes -/
def F8 (_n : Nat) : Option (Bool) :=
  Option.bind (F30 FUEL (5) [(1), (9)]) fun y1 =>
 Option.bind (F9 FUEL y1.q0 y1.q19 [] y1.q1 y1.q2 y1.q3 y1.q4 y1.q5 y1.q6 y1.q7 y1.q8 y1.q9 y1.q10 y1.q11 y1.q12 y1.q13 y1.q14 y1.q15 y1.q16 y1.q17 (0) (0)) fun y2 =>
 Option.bind (F23 FUEL (9) (5) (7)) fun y3 =>
 Option.bind (F12 FUEL y1.q0 y1.q19 [] y1.q1 y1.q2 y1.q3 y1.q4 y1.q5 y1.q6 y1.q7 y1.q8 y1.q9 y1.q10 y1.q11 y1.q12 y1.q13 y1.q14 y1.q15 y1.q16 y1.q17 y2.1 y2.2.1 y3.q0 y3.q1 y3.q2 y3.q3 y3.q4 y3.q5 y3.q6 y3.q7 y3.q8 [(1), (5)] y3.q9 y3.q10 y3.q11 y3.q12 y3.q13) fun y4 =>
 Option.bind (F23 FUEL (7) (5) (-1)) fun y5 =>
 Option.bind (F12 FUEL y4.q0 y4.q1 y4.q2 y4.q3 y4.q4 y4.q5 y4.q6 y4.q7 y4.q8 y4.q9 y4.q10 y4.q11 y4.q12 y4.q13 y4.q14 y4.q15 y4.q16 y4.q17 y4.q18 y4.q19 y4.q20 y4.q21 y5.q0 y5.q1 y5.q2 y5.q3 y5.q4 y5.q5 y5.q6 y5.q7 y5.q8 [(8), (9)] y5.q9 y5.q10 y5.q11 y5.q12 y5.q13) fun y6 =>
 Option.bind (F12 FUEL y6.q0 y6.q1 y6.q2 y6.q3 y6.q4 y6.q5 y6.q6 y6.q7 y6.q8 y6.q9 y6.q10 y6.q11 y6.q12 y6.q13 y6.q14 y6.q15 y6.q16 y6.q17 y6.q18 y6.q19 y6.q20 y6.q21 (9) (5242883) (7) (5) (0) false false (0) (0) [] ByteArray.empty (0) (0) false (0)) fun y7 =>
 Option.bind (F15 FUEL y6.q0 y6.q1 y6.q2 y6.q3 y6.q4 y6.q5 y6.q6 y6.q7 y6.q8 y6.q9 y6.q10 y6.q11 y6.q12 y6.q13 y6.q14 y6.q15 y6.q16 y6.q17 y6.q18 y6.q19 y6.q20 y6.q21 (7)) fun y8 =>
 bif (ine (ofN (List.length y2.2.2)) (1)) then
 (some false)
 else (bif (ine (ofN (List.length y4.q22)) (1)) then
 (some false)
 else (bif (ine (ofN (List.length y6.q22)) (1)) then
 (some false)
 else (bif ((ieq y2.1 (1)) && ((ieq y2.2.1 (9)) && true)) then
 (bif (inb (0) (List.length y2.2.2)) then
 (bif (ieq (List.getD y2.2.2 (Int.toNat (0)) (0, 0, 0, 0, 0, false, false, 0, 0, [], ByteArray.empty, 0, 0, false, 0, 0)).2.2.2.1 (9)) then
 (bif (inb (0) (List.length y2.2.2)) then
 (bif (ieq (List.getD y2.2.2 (Int.toNat (0)) (0, 0, 0, 0, 0, false, false, 0, 0, [], ByteArray.empty, 0, 0, false, 0, 0)).2.2.2.2.2.2.2.2.2.2.2.2.2.2.2 (1)) then
 (Option.bind (F31 FUEL y4.q2 [(9), (1)]) fun y9 =>
 bif y9 then
 (bif ((ieq y4.q20 (2)) && ((ieq y4.q21 (7)) && true)) then
 (bif (inb (0) (List.length y4.q22)) then
 (bif (ieq (List.getD y4.q22 (Int.toNat (0)) (0, 0, 0, 0, 0, false, false, 0, 0, [], ByteArray.empty, 0, 0, false, 0, 0)).2.2.2.1 (7)) then
 (Option.bind (F31 FUEL y6.q2 [(7), (8), (9)]) fun y10 =>
 bif y10 then
 (bif ((ieq y6.q20 (3)) && ((ieq y6.q21 (7)) && true)) then
 (bif (inb (0) (List.length y6.q22)) then
 (bif (ieq (List.getD y6.q22 (Int.toNat (0)) (0, 0, 0, 0, 0, false, false, 0, 0, [], ByteArray.empty, 0, 0, false, 0, 0)).1 (3)) then
 (bif ((ieq y7.q20 (0)) && ((ieq y7.q21 (0)) && true)) then
 (bif (ieq (ofN (List.length y7.q22)) (0)) then
 (Option.bind (F14 FUEL y7.q0 y7.q1 y7.q2 y7.q3 y7.q4 y7.q5 y7.q6 y7.q7 y7.q8 y7.q9 y7.q10 y7.q11 y7.q12 y7.q13 y7.q14 y7.q15 y7.q16 y7.q17 y7.q18 y7.q19 y6.q0 y6.q1 y6.q2 y6.q3 y6.q4 y6.q5 y6.q6 y6.q7 y6.q8 y6.q9 y6.q10 y6.q11 y6.q12 y6.q13 y6.q14 y6.q15 y6.q16 y6.q17 y6.q18 y6.q19) fun y11 =>
 bif y11 then
 (Option.bind (F31 FUEL y8.q2 [(8), (9)]) fun y12 =>
 bif y12 then
 (bif ((ieq y8.q20 (0)) && ((ieq y8.q21 (0)) && true)) then
 (Option.bind (F19 FUEL y4.q20 y4.q21) fun y13 =>
 bif (ieq y13 (2)) then
 (Option.bind (F17 FUEL y4.q20 y4.q21) fun y14 =>
 bif y14 then
 (Option.bind (F17 FUEL (0) (1)) fun y15 =>
 some (!y15))
 else (some false))
 else (some false))
 else (some false))
 else (some false))
 else (some false))
 else (some false))
 else (some false))
 else (some false))
 else (none))
 else (some false))
 else (some false))
 else (some false))
 else (none))
 else (some false))
 else (some false))
 else (some false))
 else (none))
 else (some false))
 else (none))
 else (some false))))

/-! ### garland/garlandref14.Right -/
def F18 (_n : Nat) (a0 a1 : Int) : Option (Bool) :=
  bif (ieq a0 (0)) then
 (some (ieq a1 (0)))
 else (bif (ile a0 (3)) then
 (bif (ige a1 (0)) then
 (some (ilt a1 (65536)))
 else (some false))
 else (some false))

/-! ### garland/garlandref03.Owner -/
def F79_c0 : Nat → List (Int) → Int → Int → Int → Option (Int × Bool)
  | 0, _, _, _, _ => none
  | n + 1, x0, x1, x2, x3 => bif (ilt x3 (ofN (List.length x0))) then
 (bif (inb x3 (List.length x0)) then
 (Option.bind (F55 FUEL x1 (List.getD x0 (Int.toNat x3) 0)) fun y2 =>
 Option.bind (F55 FUEL x1 x2) fun y3 =>
 bif (ilt y2 y3) then
 (bif (inb x3 (List.length x0)) then
 (Option.bind (F53 FUEL (List.getD x0 (Int.toNat x3) 0)) fun y4 =>
 F79_c0 n x0 x1 y4 (iadd .i64 x3 (1)))
 else (none))
 else (F79_c0 n x0 x1 x2 (iadd .i64 x3 (1))))
 else (none))
 else (some (x2, true))
def F79 (n : Nat) (a0 : List (Int)) (a1 : Int) : Option (Int × Bool) :=
  bif (ieq (ofN (List.length a0)) (0)) then
 (some ((0), false))
 else (bif (inb (0) (List.length a0)) then
 (Option.bind (F53 FUEL (List.getD a0 (Int.toNat (0)) 0)) fun y1 =>
 F79_c0 n a0 a1 y1 (0))
 else (none))

/-! ### garland/garlandref13.Anchor -/
def F64 (_n : Nat) (a0 : Int) (a1 a2 : List (Int)) (a3 a4 a5 a6 a7 a8 a9 a10 a11 a12 a13 a14 a15 a16 a17 a18 a19 : Int) : Option (Int) :=
  Option.bind (F21 FUEL a0 a1 a2 a3 a4 a5 a6 a7 a8 a9 a10 a11 a12 a13 a14 a15 a16 a17 a18 a19) fun y1 =>
 bif (!y1) then
 (some (-1))
 else (Option.bind (F79 FUEL a1 (iadd .i64 a0 (1))) fun y2 =>
 some y2.1)

/-! ### garland/garlandref13.First -/
def F35 (_n : Nat) (a0 : Int) (a1 a2 : List (Int)) (a3 a4 a5 a6 a7 a8 a9 a10 a11 a12 a13 a14 a15 a16 a17 a18 a19 : Int) : Option (Int) :=
  Option.bind (F21 FUEL a0 a1 a2 a3 a4 a5 a6 a7 a8 a9 a10 a11 a12 a13 a14 a15 a16 a17 a18 a19) fun y1 =>
 bif y1 then
 (bif (igt (ofN (List.length a2)) (0)) then
 (bif (inb (0) (List.length a2)) then
 (some (List.getD a2 (Int.toNat (0)) 0))
 else (none))
 else (Option.bind (F64 FUEL a0 a1 a2 a3 a4 a5 a6 a7 a8 a9 a10 a11 a12 a13 a14 a15 a16 a17 a18 a19) fun y2 =>
 some y2))
 else (Option.bind (F64 FUEL a0 a1 a2 a3 a4 a5 a6 a7 a8 a9 a10 a11 a12 a13 a14 a15 a16 a17 a18 a19) fun y3 =>
 some y3)

/-! ### garland/garlandref14.Why -/
def F20 (_n : Nat) (a0 a1 : Int) : Option (Int) :=
  Option.bind (F18 FUEL a0 a1) fun y1 =>
 bif (!y1) then
 (some (0))
 else (bif (ieq a0 (0)) then
 (some (0))
 else (bif (inb (isub .u8 a0 (1)) 3) then
 (bif (nlt (Int.toNat (isub .u8 a0 (1))) 3) then
 (some (List.getD [(1), (2), (3)] (Int.toNat (isub .u8 a0 (1))) 0))
 else (none))
 else (none)))

/-! ### garland/garlandref14.asks -/
def F36 (_n : Nat) (a0 a1 : Int) : Option ((List (Int × Int × Int × Int × Int × Bool × Bool × Int × Int × (List (Int)) × ByteArray × Int × Int × Bool × Int × Int))) :=
  bif (ieq a0 (3)) then
 (Option.bind (F20 FUEL a0 a1) fun y1 =>
 some ([((3), (0), (0), a1, (0), false, false, (0), (0), [], ByteArray.empty, (0), (0), false, (0), y1)] : List (Int × Int × Int × Int × Int × Bool × Bool × Int × Int × (List (Int)) × ByteArray × Int × Int × Bool × Int × Int)))
 else (Option.bind (F20 FUEL a0 a1) fun y2 =>
 some ([((1), (0), (0), a1, (0), false, false, (0), (0), [], ByteArray.empty, (0), (0), false, (0), y2)] : List (Int × Int × Int × Int × Int × Bool × Bool × Int × Int × (List (Int)) × ByteArray × Int × Int × Bool × Int × Int)))

/-! ### garland/garlandref14.Begin -/
def F10 (_n : Nat) (a0 : Int) (a1 a2 : List (Int)) (a3 a4 a5 a6 a7 a8 a9 a10 a11 a12 a13 a14 a15 a16 a17 a18 a19 a20 a21 : Int) : Option (Int × Int × (List (Int × Int × Int × Int × Int × Bool × Bool × Int × Int × (List (Int)) × ByteArray × Int × Int × Bool × Int × Int))) :=
  Option.bind (F21 FUEL a0 a1 a2 a3 a4 a5 a6 a7 a8 a9 a10 a11 a12 a13 a14 a15 a16 a17 a18 a19) fun y1 =>
 bif (!y1) then
 (some (a20, a21, []))
 else (Option.bind (F18 FUEL a20 a21) fun y2 =>
 bif (!y2) then
 (some (a20, a21, []))
 else (bif (ine a20 (0)) then
 (some (a20, a21, []))
 else (Option.bind (F35 FUEL a0 a1 a2 a3 a4 a5 a6 a7 a8 a9 a10 a11 a12 a13 a14 a15 a16 a17 a18 a19) fun y3 =>
 Option.bind (F36 FUEL (1) y3) fun y4 =>
 some ((1), y3, y4))))

/-! ### garland/garlandref06.Same -/
def F37_c0 : Nat → Int → Int → Int → Int → Int → Int → Bool → Bool → Int → Int → List (Int) → ByteArray → Int → Int → Bool → Int → Int → Int → Int → Int → Int → Bool → Bool → Int → Int → List (Int) → ByteArray → Int → Int → Bool → Int → Option (Bool)
  | 0, _, _, _, _, _, _, _, _, _, _, _, _, _, _, _, _, _, _, _, _, _, _, _, _, _, _, _, _, _, _, _ => none
  | n + 1, x0, x1, x2, x3, x4, x5, x6, x7, x8, x9, x10, x11, x12, x13, x14, x15, x16, x17, x18, x19, x20, x21, x22, x23, x24, x25, x26, x27, x28, x29, x30 => bif (ilt x0 (ofN (List.length x10))) then
 (bif (inb x0 (List.length x10)) then
 (bif (inb x0 (List.length x25)) then
 (bif (ine (List.getD x10 (Int.toNat x0) 0) (List.getD x25 (Int.toNat x0) 0)) then
 (some false)
 else (F37_c0 n (iadd .i64 x0 (1)) x1 x2 x3 x4 x5 x6 x7 x8 x9 x10 x11 x12 x13 x14 x15 x16 x17 x18 x19 x20 x21 x22 x23 x24 x25 x26 x27 x28 x29 x30))
 else (none))
 else (none))
 else (bif (ieq x1 x16) then
 (bif (ieq x2 x17) then
 (bif (ieq x3 x18) then
 (bif (ieq x4 x19) then
 (bif (ieq x5 x20) then
 (bif (beqb x6 x21) then
 (bif (beqb x7 x22) then
 (bif (ieq x8 x23) then
 (bif (ieq x9 x24) then
 (bif ((steq x11 x26) && ((ieq x12 x27) && ((ieq x13 x28) && ((beqb x14 x29) && true)))) then
 (some (ieq x15 x30))
 else (some false))
 else (some false))
 else (some false))
 else (some false))
 else (some false))
 else (some false))
 else (some false))
 else (some false))
 else (some false))
 else (some false))
def F37 (n : Nat) (a0 a1 a2 a3 a4 : Int) (a5 a6 : Bool) (a7 a8 : Int) (a9 : List (Int)) (a10 : ByteArray) (a11 a12 : Int) (a13 : Bool) (a14 a15 a16 a17 a18 a19 : Int) (a20 a21 : Bool) (a22 a23 : Int) (a24 : List (Int)) (a25 : ByteArray) (a26 a27 : Int) (a28 : Bool) (a29 : Int) : Option (Bool) :=
  bif (ine (ofN (List.length a9)) (ofN (List.length a24))) then
 (some false)
 else (F37_c0 n (0) a0 a1 a2 a3 a4 a5 a6 a7 a8 a9 a10 a11 a12 a13 a14 a15 a16 a17 a18 a19 a20 a21 a22 a23 a24 a25 a26 a27 a28 a29)

/-! ### garland/garlandref14.Asks -/
def F11_c0 : Nat → List (Int × Int × Int × Int × Int × Bool × Bool × Int × Int × (List (Int)) × ByteArray × Int × Int × Bool × Int × Int) → List (Int × Int × Int × Int × Int × Bool × Bool × Int × Int × (List (Int)) × ByteArray × Int × Int × Bool × Int × Int) → Int → Option (Bool)
  | 0, _, _, _ => none
  | n + 1, x0, x1, x2 => bif (ilt x2 (ofN (List.length x0))) then
 (bif (inb x2 (List.length x0)) then
 (bif (inb x2 (List.length x1)) then
 (bif (ine (List.getD x0 (Int.toNat x2) (0, 0, 0, 0, 0, false, false, 0, 0, [], ByteArray.empty, 0, 0, false, 0, 0)).2.2.2.2.2.2.2.2.2.2.2.2.2.2.2 (List.getD x1 (Int.toNat x2) (0, 0, 0, 0, 0, false, false, 0, 0, [], ByteArray.empty, 0, 0, false, 0, 0)).2.2.2.2.2.2.2.2.2.2.2.2.2.2.2) then
 (some false)
 else (bif (inb x2 (List.length x0)) then
 (bif (inb x2 (List.length x1)) then
 (Option.bind (F37 FUEL (List.getD x0 (Int.toNat x2) (0, 0, 0, 0, 0, false, false, 0, 0, [], ByteArray.empty, 0, 0, false, 0, 0)).1 (List.getD x0 (Int.toNat x2) (0, 0, 0, 0, 0, false, false, 0, 0, [], ByteArray.empty, 0, 0, false, 0, 0)).2.1 (List.getD x0 (Int.toNat x2) (0, 0, 0, 0, 0, false, false, 0, 0, [], ByteArray.empty, 0, 0, false, 0, 0)).2.2.1 (List.getD x0 (Int.toNat x2) (0, 0, 0, 0, 0, false, false, 0, 0, [], ByteArray.empty, 0, 0, false, 0, 0)).2.2.2.1 (List.getD x0 (Int.toNat x2) (0, 0, 0, 0, 0, false, false, 0, 0, [], ByteArray.empty, 0, 0, false, 0, 0)).2.2.2.2.1 (List.getD x0 (Int.toNat x2) (0, 0, 0, 0, 0, false, false, 0, 0, [], ByteArray.empty, 0, 0, false, 0, 0)).2.2.2.2.2.1 (List.getD x0 (Int.toNat x2) (0, 0, 0, 0, 0, false, false, 0, 0, [], ByteArray.empty, 0, 0, false, 0, 0)).2.2.2.2.2.2.1 (List.getD x0 (Int.toNat x2) (0, 0, 0, 0, 0, false, false, 0, 0, [], ByteArray.empty, 0, 0, false, 0, 0)).2.2.2.2.2.2.2.1 (List.getD x0 (Int.toNat x2) (0, 0, 0, 0, 0, false, false, 0, 0, [], ByteArray.empty, 0, 0, false, 0, 0)).2.2.2.2.2.2.2.2.1 (List.getD x0 (Int.toNat x2) (0, 0, 0, 0, 0, false, false, 0, 0, [], ByteArray.empty, 0, 0, false, 0, 0)).2.2.2.2.2.2.2.2.2.1 (List.getD x0 (Int.toNat x2) (0, 0, 0, 0, 0, false, false, 0, 0, [], ByteArray.empty, 0, 0, false, 0, 0)).2.2.2.2.2.2.2.2.2.2.1 (List.getD x0 (Int.toNat x2) (0, 0, 0, 0, 0, false, false, 0, 0, [], ByteArray.empty, 0, 0, false, 0, 0)).2.2.2.2.2.2.2.2.2.2.2.1 (List.getD x0 (Int.toNat x2) (0, 0, 0, 0, 0, false, false, 0, 0, [], ByteArray.empty, 0, 0, false, 0, 0)).2.2.2.2.2.2.2.2.2.2.2.2.1 (List.getD x0 (Int.toNat x2) (0, 0, 0, 0, 0, false, false, 0, 0, [], ByteArray.empty, 0, 0, false, 0, 0)).2.2.2.2.2.2.2.2.2.2.2.2.2.1 (List.getD x0 (Int.toNat x2) (0, 0, 0, 0, 0, false, false, 0, 0, [], ByteArray.empty, 0, 0, false, 0, 0)).2.2.2.2.2.2.2.2.2.2.2.2.2.2.1 (List.getD x1 (Int.toNat x2) (0, 0, 0, 0, 0, false, false, 0, 0, [], ByteArray.empty, 0, 0, false, 0, 0)).1 (List.getD x1 (Int.toNat x2) (0, 0, 0, 0, 0, false, false, 0, 0, [], ByteArray.empty, 0, 0, false, 0, 0)).2.1 (List.getD x1 (Int.toNat x2) (0, 0, 0, 0, 0, false, false, 0, 0, [], ByteArray.empty, 0, 0, false, 0, 0)).2.2.1 (List.getD x1 (Int.toNat x2) (0, 0, 0, 0, 0, false, false, 0, 0, [], ByteArray.empty, 0, 0, false, 0, 0)).2.2.2.1 (List.getD x1 (Int.toNat x2) (0, 0, 0, 0, 0, false, false, 0, 0, [], ByteArray.empty, 0, 0, false, 0, 0)).2.2.2.2.1 (List.getD x1 (Int.toNat x2) (0, 0, 0, 0, 0, false, false, 0, 0, [], ByteArray.empty, 0, 0, false, 0, 0)).2.2.2.2.2.1 (List.getD x1 (Int.toNat x2) (0, 0, 0, 0, 0, false, false, 0, 0, [], ByteArray.empty, 0, 0, false, 0, 0)).2.2.2.2.2.2.1 (List.getD x1 (Int.toNat x2) (0, 0, 0, 0, 0, false, false, 0, 0, [], ByteArray.empty, 0, 0, false, 0, 0)).2.2.2.2.2.2.2.1 (List.getD x1 (Int.toNat x2) (0, 0, 0, 0, 0, false, false, 0, 0, [], ByteArray.empty, 0, 0, false, 0, 0)).2.2.2.2.2.2.2.2.1 (List.getD x1 (Int.toNat x2) (0, 0, 0, 0, 0, false, false, 0, 0, [], ByteArray.empty, 0, 0, false, 0, 0)).2.2.2.2.2.2.2.2.2.1 (List.getD x1 (Int.toNat x2) (0, 0, 0, 0, 0, false, false, 0, 0, [], ByteArray.empty, 0, 0, false, 0, 0)).2.2.2.2.2.2.2.2.2.2.1 (List.getD x1 (Int.toNat x2) (0, 0, 0, 0, 0, false, false, 0, 0, [], ByteArray.empty, 0, 0, false, 0, 0)).2.2.2.2.2.2.2.2.2.2.2.1 (List.getD x1 (Int.toNat x2) (0, 0, 0, 0, 0, false, false, 0, 0, [], ByteArray.empty, 0, 0, false, 0, 0)).2.2.2.2.2.2.2.2.2.2.2.2.1 (List.getD x1 (Int.toNat x2) (0, 0, 0, 0, 0, false, false, 0, 0, [], ByteArray.empty, 0, 0, false, 0, 0)).2.2.2.2.2.2.2.2.2.2.2.2.2.1 (List.getD x1 (Int.toNat x2) (0, 0, 0, 0, 0, false, false, 0, 0, [], ByteArray.empty, 0, 0, false, 0, 0)).2.2.2.2.2.2.2.2.2.2.2.2.2.2.1) fun y1 =>
 bif (!y1) then
 (some false)
 else (F11_c0 n x0 x1 (iadd .i64 x2 (1))))
 else (none))
 else (none)))
 else (none))
 else (none))
 else (some true)
def F11 (n : Nat) (a0 a1 : List (Int × Int × Int × Int × Int × Bool × Bool × Int × Int × (List (Int)) × ByteArray × Int × Int × Bool × Int × Int)) : Option (Bool) :=
  bif (ine (ofN (List.length a0)) (ofN (List.length a1))) then
 (some false)
 else (F11_c0 n a0 a1 (0))

/-! ### garland/garlandref13.Own -/
def F27 (_n : Nat) (a0 : Int) (a1 a2 : List (Int)) (a3 a4 a5 a6 a7 a8 a9 a10 a11 a12 a13 a14 a15 a16 a17 a18 a19 : Int) : Option (Si18l2) :=
  bif (room (0 + List.length a1) 8) then
 (bif (room (0 + List.length a2) 8) then
 (some ⟨a0, a3, a4, a5, a6, a7, a8, a9, a10, a11, a12, a13, a14, a15, a16, a17, a18, a19, ([] ++ a1), ([] ++ a2)⟩)
 else (none))
 else (none)

/-! ### garland/garlandref06.place -/
def F48 (_n : Nat) (a0 : Int) : Option (Bool) :=
  bif (ige a0 (0)) then
 (some (ilt a0 (65536)))
 else (some false)

/-! ### garland/garlandref06.Asks -/
def F73 (_n : Nat) (a0 _a1 _a2 _a3 _a4 : Int) (_a5 _a6 : Bool) (_a7 _a8 : Int) (_a9 : List (Int)) (_a10 : ByteArray) (_a11 _a12 : Int) (_a13 : Bool) (_a14 : Int) : Option (Bool) :=
  bif (ige a0 (1)) then
 (some (ile a0 (6)))
 else (some false)

/-! ### garland/garlandref06.Asker -/
def F49 (_n : Nat) (a0 a1 a2 a3 a4 : Int) (a5 a6 : Bool) (a7 a8 : Int) (a9 : List (Int)) (a10 : ByteArray) (a11 a12 : Int) (a13 : Bool) (a14 : Int) : Option (Int) :=
  Option.bind (F73 FUEL a0 a1 a2 a3 a4 a5 a6 a7 a8 a9 a10 a11 a12 a13 a14) fun y1 =>
 bif y1 then
 (some a2)
 else (some a3)

/-! ### garland/garlandref06.bare -/
def F50 (_n : Nat) (a0 a1 a2 a3 a4 : Int) (a5 a6 : Bool) (a7 a8 : Int) (a9 : ByteArray) (a10 a11 : Int) (a12 : Bool) (a13 : Int) : Option (Sbi5b2i2si2bi) :=
  bif (ieq a0 (4)) then
 (some ⟨true, a0, a1, a2, a3, (0), false, a6, a7, a8, a9, a10, a11, a12, a13⟩)
 else (bif (ieq a0 (5)) then
 (bif (ieq a0 (5)) then
 (some ⟨true, a0, a1, a2, a3, a4, a5, a6, a7, a8, ByteArray.empty, (0), (0), false, a13⟩)
 else (bif (ieq a0 (7)) then
 (some ⟨false, a0, a1, a2, a3, a4, a5, a6, a7, (0), a9, a10, a11, a12, a13⟩)
 else (bif (ieq a0 (10)) then
 (some ⟨true, a0, a1, a2, a3, a4, a5, false, (0), a8, a9, a10, a11, a12, a13⟩)
 else (bif (ieq a0 (11)) then
 (some ⟨true, a0, a1, a2, a3, a4, a5, a6, a7, a8, a9, a10, a11, a12, (0)⟩)
 else (bif (ieq a0 (12)) then
 (some ⟨true, a0, a1, a2, a3, a4, a5, a6, a7, a8, ByteArray.empty, (0), (0), false, (0)⟩)
 else (some ⟨true, a0, a1, a2, a3, a4, a5, a6, a7, a8, a9, a10, a11, a12, a13⟩))))))
 else (bif (ieq a0 (6)) then
 (some ⟨true, a0, a1, a2, a3, a4, a5, a6, a7, a8, ByteArray.empty, (0), (0), false, a13⟩)
 else (bif (ieq a0 (7)) then
 (some ⟨false, a0, a1, a2, a3, a4, a5, a6, a7, (0), a9, a10, a11, a12, a13⟩)
 else (bif (ieq a0 (10)) then
 (some ⟨true, a0, a1, a2, a3, a4, a5, false, (0), a8, a9, a10, a11, a12, a13⟩)
 else (bif (ieq a0 (11)) then
 (some ⟨true, a0, a1, a2, a3, a4, a5, a6, a7, a8, a9, a10, a11, a12, (0)⟩)
 else (bif (ieq a0 (12)) then
 (some ⟨true, a0, a1, a2, a3, a4, a5, a6, a7, a8, ByteArray.empty, (0), (0), false, (0)⟩)
 else (some ⟨true, a0, a1, a2, a3, a4, a5, a6, a7, a8, a9, a10, a11, a12, a13⟩)))))))

/-! ### garland/garlandref06.Pair -/
def F74 (_n : Nat) (a0 : ByteArray) (a1 a2 : Int) (_a3 : Bool) : Option (Bool) :=
  bif (ige (stlen a0) (1)) then
 (bif (ile (stlen a0) (20)) then
 (bif (ige a1 (0)) then
 (bif (ile a1 (1048576)) then
 (bif (ige a2 (0)) then
 (some (ile a2 (1048576)))
 else (some false))
 else (some false))
 else (some false))
 else (some false))
 else (some false)

/-! ### garland/garlandref06.list -/
mutual
def F75_c0 : Nat → List (Int) → Int → Int → Option (Bool)
  | 0, _, _, _ => none
  | n + 1, x0, x1, x2 => bif (ilt x2 (ofN (List.length x0))) then
 (bif (inb x2 (List.length x0)) then
 (Option.bind (F48 FUEL (List.getD x0 (Int.toNat x2) 0)) fun y1 =>
 bif (!y1) then
 (some false)
 else (bif (inb x2 (List.length x0)) then
 (bif (ieq (List.getD x0 (Int.toNat x2) 0) x1) then
 (some false)
 else (F75_c1 n x0 x1 x2 (0)))
 else (none)))
 else (none))
 else (some (ile (ofN (List.length x0)) (3)))
def F75_c1 : Nat → List (Int) → Int → Int → Int → Option (Bool)
  | 0, _, _, _, _ => none
  | n + 1, x0, x1, x2, x3 => bif (ilt x3 x2) then
 (bif (inb x3 (List.length x0)) then
 (bif (inb x2 (List.length x0)) then
 (bif (ieq (List.getD x0 (Int.toNat x3) 0) (List.getD x0 (Int.toNat x2) 0)) then
 (some false)
 else (F75_c1 n x0 x1 x2 (iadd .i64 x3 (1))))
 else (none))
 else (none))
 else (F75_c0 n x0 x1 (iadd .i64 x2 (1)))
end
def F75 (n : Nat) (a0 : List (Int)) (a1 : Int) : Option (Bool) :=
  F75_c0 n a0 a1 (0)

/-! ### garland/garlandref06.has -/
def F51 (_n : Nat) (a0 _a1 a2 _a3 a4 : Int) (_a5 _a6 : Bool) (a7 a8 : Int) (a9 : List (Int)) (a10 : ByteArray) (a11 a12 : Int) (a13 : Bool) (a14 : Int) : Option (Bool) :=
  bif (ieq a0 (4)) then
 (Option.bind (F48 FUEL a4) fun y1 =>
 some y1)
 else (bif (ieq a0 (5)) then
 (Option.bind (F74 FUEL a10 a11 a12 a13) fun y2 =>
 some y2)
 else (bif (ieq a0 (6)) then
 (Option.bind (F74 FUEL a10 a11 a12 a13) fun y3 =>
 bif y3 then
 (some ((steq a10 a10) && ((ieq a11 (0)) && ((ieq a12 (0)) && ((beqb a13 false) && true)))))
 else (some false))
 else (bif (ieq a0 (7)) then
 (bif (ieq a8 (-1)) then
 (Option.bind (F75 FUEL a9 a2) fun y4 =>
 some y4)
 else (Option.bind (F48 FUEL a8) fun y5 =>
 bif y5 then
 (Option.bind (F75 FUEL a9 a2) fun y6 =>
 some y6)
 else (some false)))
 else (bif (ieq a0 (10)) then
 (Option.bind (F48 FUEL a7) fun y7 =>
 some y7)
 else (bif (ieq a0 (11)) then
 (bif (ieq a14 (0)) then
 (some true)
 else (some (ieq a14 (200))))
 else (bif (ieq a0 (12)) then
 (bif (ieq a14 (0)) then
 (Option.bind (F74 FUEL a10 a11 a12 a13) fun y8 =>
 bif y8 then
 (some true)
 else (bif (ieq a14 (201)) then
 (some ((steq a10 ByteArray.empty) && ((ieq a11 (0)) && ((ieq a12 (0)) && ((beqb a13 false) && true)))))
 else (some false)))
 else (bif (ieq a14 (201)) then
 (some ((steq a10 ByteArray.empty) && ((ieq a11 (0)) && ((ieq a12 (0)) && ((beqb a13 false) && true)))))
 else (some false)))
 else (some true)))))))

/-! ### garland/garlandref06.Right -/
def F24 (_n : Nat) (a0 a1 a2 a3 a4 : Int) (a5 a6 : Bool) (a7 a8 : Int) (a9 : List (Int)) (a10 : ByteArray) (a11 a12 : Int) (a13 : Bool) (a14 : Int) : Option (Bool) :=
  bif (ilt a0 (1)) then
 (some false)
 else (bif (ige a0 (13)) then
 (some false)
 else (Option.bind (F48 FUEL a2) fun y1 =>
 bif (!y1) then
 (some false)
 else (Option.bind (F48 FUEL a3) fun y2 =>
 bif (!y2) then
 (some false)
 else (bif (ieq a2 a3) then
 (some false)
 else (Option.bind (F49 FUEL a0 a1 a2 a3 a4 a5 a6 a7 a8 a9 a10 a11 a12 a13 a14) fun y3 =>
 bif (ilt a1 (iadd .i64 (imul .i64 y3 (1048576)) (1))) then
 (some false)
 else (bif (ige a1 (iadd .i64 (iadd .i64 (imul .i64 y3 (1048576)) (1)) (1048576))) then
 (some false)
 else (Option.bind (F50 FUEL a0 a1 a2 a3 a4 a5 a6 a7 a8 a10 a11 a12 a13 a14) fun y4 =>
 bif y4.q0 then
 (Option.bind (F37 FUEL y4.q1 y4.q2 y4.q3 y4.q4 y4.q5 y4.q6 y4.q7 y4.q8 y4.q9 a9 y4.q10 y4.q11 y4.q12 y4.q13 y4.q14 a0 a1 a2 a3 (0) false false (0) (0) [] ByteArray.empty (0) (0) false (0)) fun y5 =>
 bif y5 then
 (Option.bind (F51 FUEL a0 a1 a2 a3 a4 a5 a6 a7 a8 a9 a10 a11 a12 a13 a14) fun y6 =>
 some y6)
 else (some false))
 else (Option.bind (F37 FUEL y4.q1 y4.q2 y4.q3 y4.q4 y4.q5 y4.q6 y4.q7 y4.q8 y4.q9 [] y4.q10 y4.q11 y4.q12 y4.q13 y4.q14 a0 a1 a2 a3 (0) false false (0) (0) [] ByteArray.empty (0) (0) false (0)) fun y7 =>
 bif y7 then
 (Option.bind (F51 FUEL a0 a1 a2 a3 a4 a5 a6 a7 a8 a9 a10 a11 a12 a13 a14) fun y8 =>
 some y8)
 else (some false)))))))))

/-! ### garland/garlandref14.counts -/
def F43 (_n : Nat) (a0 : Int) (a1 a2 : List (Int)) (a3 a4 a5 a6 a7 a8 a9 a10 a11 a12 a13 a14 a15 a16 a17 a18 a19 a20 a21 a22 a23 a24 a25 a26 : Int) (a27 a28 : Bool) (a29 a30 : Int) (a31 : List (Int)) (a32 : ByteArray) (a33 a34 : Int) (a35 : Bool) (a36 : Int) : Option (Bool) :=
  Option.bind (F21 FUEL a0 a1 a2 a3 a4 a5 a6 a7 a8 a9 a10 a11 a12 a13 a14 a15 a16 a17 a18 a19) fun y1 =>
 bif (!y1) then
 (some false)
 else (Option.bind (F18 FUEL a20 a21) fun y2 =>
 bif (!y2) then
 (some false)
 else (bif (ieq a20 (0)) then
 (some false)
 else (Option.bind (F24 FUEL a22 a23 a24 a25 a26 a27 a28 a29 a30 a31 a32 a33 a34 a35 a36) fun y3 =>
 bif (!y3) then
 (some false)
 else (bif (ine a24 a21) then
 (some false)
 else (bif (ine a25 a0) then
 (some false)
 else (bif (ieq a20 (3)) then
 (some (ieq a22 (9)))
 else (some (ieq a22 (7)))))))))

/-! ### garland/garlandref12.Make -/
def F44_c0 : Nat → Int → List (Int) → Int → List (Int) → Option ((List (Int)))
  | 0, _, _, _, _ => none
  | n + 1, x0, x1, x2, x3 => bif (ilt x2 (ofN (List.length x1))) then
 (bif (ilt (ofN (List.length x3)) (3)) then
 (bif (inb x2 (List.length x1)) then
 (Option.bind (F52 FUEL (List.getD x1 (Int.toNat x2) 0)) fun y3 =>
 bif (!y3) then
 (some x3)
 else (bif (inb x2 (List.length x3)) then
 (bif (nlt (Int.toNat x2) (List.length x3)) then
 (bif (inb x2 (List.length x1)) then
 (Option.bind (F54 FUEL x0 (List.getD x3 (Int.toNat x2) 0) (List.getD x1 (Int.toNat x2) 0)) fun y4 =>
 bif (!y4) then
 (some x3)
 else (bif (inb x2 (List.length x1)) then
 (bif (room (List.length x3 + List.length [(List.getD x1 (Int.toNat x2) 0)]) 8) then
 (F44_c0 n x0 x1 (iadd .i64 x2 (1)) (x3 ++ [(List.getD x1 (Int.toNat x2) 0)]))
 else (none))
 else (none)))
 else (none))
 else (none))
 else (none)))
 else (none))
 else (some x3))
 else (some x3)
def F44 (n : Nat) (a0 a1 : Int) (a2 : List (Int)) : Option ((List (Int))) :=
  Option.bind (F52 FUEL a1) fun y1 =>
 bif (!y1) then
 (some [])
 else (Option.bind (F53 FUEL a0) fun y2 =>
 bif (ieq y2 a1) then
 (some [])
 else (F44_c0 n a0 a2 (0) [a1]))

/-! ### garland/garlandref03.In -/
def F26 (_n : Nat) (a0 a1 a2 : Int) : Option (Bool) :=
  Option.bind (F53 FUEL a0) fun y1 =>
 Option.bind (F53 FUEL a2) fun y2 =>
 bif (ieq y1 y2) then
 (Option.bind (F53 FUEL a1) fun y3 =>
 Option.bind (F53 FUEL a0) fun y4 =>
 some (ine y3 y4))
 else (Option.bind (F55 FUEL a0 a1) fun y5 =>
 bif (igt y5 (0)) then
 (Option.bind (F55 FUEL a0 a1) fun y6 =>
 Option.bind (F55 FUEL a0 a2) fun y7 =>
 some (ilt y6 y7))
 else (some false))

/-! ### garland/garlandref14.Told -/
structure Si20l_i5b2i2lsi2bi2_l2 where
  q0 : Int
  q1 : Int
  q2 : Int
  q3 : Int
  q4 : Int
  q5 : Int
  q6 : Int
  q7 : Int
  q8 : Int
  q9 : Int
  q10 : Int
  q11 : Int
  q12 : Int
  q13 : Int
  q14 : Int
  q15 : Int
  q16 : Int
  q17 : Int
  q18 : Int
  q19 : Int
  q20 : List (Int × Int × Int × Int × Int × Bool × Bool × Int × Int × (List (Int)) × ByteArray × Int × Int × Bool × Int × Int)
  q21 : List (Int)
  q22 : List (Int)
def F13 (_n : Nat) (a0 : Int) (a1 a2 : List (Int)) (a3 a4 a5 a6 a7 a8 a9 a10 a11 a12 a13 a14 a15 a16 a17 a18 a19 a20 a21 a22 a23 a24 a25 a26 : Int) (a27 a28 : Bool) (a29 a30 : Int) (a31 : List (Int)) (a32 : ByteArray) (a33 a34 : Int) (a35 : Bool) (a36 : Int) : Option (Si20l_i5b2i2lsi2bi2_l2) :=
  Option.bind (F27 FUEL a0 a1 a2 a3 a4 a5 a6 a7 a8 a9 a10 a11 a12 a13 a14 a15 a16 a17 a18 a19) fun y1 =>
 Option.bind (F43 FUEL y1.q0 y1.q18 y1.q19 y1.q1 y1.q2 y1.q3 y1.q4 y1.q5 y1.q6 y1.q7 y1.q8 y1.q9 y1.q10 y1.q11 y1.q12 y1.q13 y1.q14 y1.q15 y1.q16 y1.q17 a20 a21 a22 a23 a24 a25 a26 a27 a28 a29 a30 a31 a32 a33 a34 a35 a36) fun y2 =>
 bif (!y2) then
 (some ⟨y1.q0, y1.q1, y1.q2, y1.q3, y1.q4, y1.q5, y1.q6, y1.q7, y1.q8, y1.q9, y1.q10, y1.q11, y1.q12, y1.q13, y1.q14, y1.q15, y1.q16, y1.q17, a20, a21, [], y1.q18, y1.q19⟩)
 else (bif (ieq a20 (3)) then
 (some ⟨y1.q0, y1.q1, y1.q2, y1.q3, y1.q4, y1.q5, y1.q6, y1.q7, y1.q8, y1.q9, y1.q10, y1.q11, y1.q12, y1.q13, y1.q14, y1.q15, y1.q16, y1.q17, (0), (0), [], y1.q18, y1.q19⟩)
 else (Option.bind (F44 FUEL y1.q0 a24 a31) fun y3 =>
 bif (ieq a20 (1)) then
 (bif (ige a30 (0)) then
 (Option.bind (F26 FUEL y1.q0 a30 a24) fun y4 =>
 bif y4 then
 (Option.bind (F36 FUEL (2) a30) fun y5 =>
 some ⟨y1.q0, y1.q1, y1.q2, y1.q3, y1.q4, y1.q5, y1.q6, y1.q7, y1.q8, y1.q9, y1.q10, y1.q11, y1.q12, y1.q13, y1.q14, y1.q15, y1.q16, y1.q17, (2), a30, y5, y1.q18, y3⟩)
 else (Option.bind (F35 FUEL y1.q0 y1.q18 y3 y1.q1 y1.q2 y1.q3 y1.q4 y1.q5 y1.q6 y1.q7 y1.q8 y1.q9 y1.q10 y1.q11 y1.q12 y1.q13 y1.q14 y1.q15 y1.q16 y1.q17) fun y6 =>
 Option.bind (F36 FUEL (3) y6) fun y7 =>
 some ⟨y1.q0, y1.q1, y1.q2, y1.q3, y1.q4, y1.q5, y1.q6, y1.q7, y1.q8, y1.q9, y1.q10, y1.q11, y1.q12, y1.q13, y1.q14, y1.q15, y1.q16, y1.q17, (3), y6, y7, y1.q18, y3⟩))
 else (Option.bind (F35 FUEL y1.q0 y1.q18 y3 y1.q1 y1.q2 y1.q3 y1.q4 y1.q5 y1.q6 y1.q7 y1.q8 y1.q9 y1.q10 y1.q11 y1.q12 y1.q13 y1.q14 y1.q15 y1.q16 y1.q17) fun y8 =>
 Option.bind (F36 FUEL (3) y8) fun y9 =>
 some ⟨y1.q0, y1.q1, y1.q2, y1.q3, y1.q4, y1.q5, y1.q6, y1.q7, y1.q8, y1.q9, y1.q10, y1.q11, y1.q12, y1.q13, y1.q14, y1.q15, y1.q16, y1.q17, (3), y8, y9, y1.q18, y3⟩))
 else (Option.bind (F35 FUEL y1.q0 y1.q18 y3 y1.q1 y1.q2 y1.q3 y1.q4 y1.q5 y1.q6 y1.q7 y1.q8 y1.q9 y1.q10 y1.q11 y1.q12 y1.q13 y1.q14 y1.q15 y1.q16 y1.q17) fun y10 =>
 Option.bind (F36 FUEL (3) y10) fun y11 =>
 some ⟨y1.q0, y1.q1, y1.q2, y1.q3, y1.q4, y1.q5, y1.q6, y1.q7, y1.q8, y1.q9, y1.q10, y1.q11, y1.q12, y1.q13, y1.q14, y1.q15, y1.q16, y1.q17, (3), y10, y11, y1.q18, y3⟩)))

/-! ### garland/garlandref12.Drop -/
def F56_c0 : Nat → List (Int) → Int → Int → List (Int) → Option ((List (Int)))
  | 0, _, _, _, _ => none
  | n + 1, x0, x1, x2, x3 => bif (ilt x2 (ofN (List.length x0))) then
 (bif (inb x2 (List.length x0)) then
 (bif (ine (List.getD x0 (Int.toNat x2) 0) x1) then
 (bif (inb x2 (List.length x0)) then
 (bif (room (List.length x3 + List.length [(List.getD x0 (Int.toNat x2) 0)]) 8) then
 (F56_c0 n x0 x1 (iadd .i64 x2 (1)) (x3 ++ [(List.getD x0 (Int.toNat x2) 0)]))
 else (none))
 else (none))
 else (F56_c0 n x0 x1 (iadd .i64 x2 (1)) x3))
 else (none))
 else (some x3)
def F56 (n : Nat) (a0 : List (Int)) (a1 : Int) : Option ((List (Int))) :=
  F56_c0 n a0 a1 (0) []

/-! ### garland/garlandref13.Dead -/
mutual
def F28_c0 : Nat → Int → Int → Int → Int → Int → Int → Int → Int → Int → Int → Int → Int → Int → Int → Int → Int → Int → Int → Int → Int → Int → Int → Int → Int → Int → Int → Int → Int → Int → Int → Int → Int → Int → Int → Int → Int → Int → Int → List (Int) → List (Int) → Option (Si18l2)
  | 0, _, _, _, _, _, _, _, _, _, _, _, _, _, _, _, _, _, _, _, _, _, _, _, _, _, _, _, _, _, _, _, _, _, _, _, _, _, _, _, _ => none
  | n + 1, x0, x1, x2, x3, x4, x5, x6, x7, x8, x9, x10, x11, x12, x13, x14, x15, x16, x17, x18, x19, x20, x21, x22, x23, x24, x25, x26, x27, x28, x29, x30, x31, x32, x33, x34, x35, x36, x37, x38, x39 => bif (ilt x1 (ofN (List.length x38))) then
 (bif (inb x1 (List.length x38)) then
 (bif (nlt (Int.toNat x1) (List.length x38)) then
 (bif (ieq (List.getD x38 (Int.toNat x1) 0) x0) then
 (some ⟨x2, x3, x4, x5, x6, x7, x8, x9, x10, x11, x12, x13, x14, x15, x16, x17, x18, x19, x38, x39⟩)
 else (F28_c0 n x0 (iadd .i64 x1 (1)) x2 x3 x4 x5 x6 x7 x8 x9 x10 x11 x12 x13 x14 x15 x16 x17 x18 x19 x20 x21 x22 x23 x24 x25 x26 x27 x28 x29 x30 x31 x32 x33 x34 x35 x36 x37 x38 x39))
 else (none))
 else (none))
 else (Option.bind (F56 FUEL x39 x0) fun y3 =>
 bif (ieq x3 x0) then
 (F28_c1 n x0 (0) x2 (-1) x4 x5 x6 x7 x8 x9 x10 x11 x12 x13 x14 x15 x16 x17 x18 x19 x20 x21 x22 x23 x24 x25 x26 x27 x28 x29 x30 x31 x32 x33 x34 x35 x36 x37 x38 y3)
 else (F28_c1 n x0 (0) x2 x3 x4 x5 x6 x7 x8 x9 x10 x11 x12 x13 x14 x15 x16 x17 x18 x19 x20 x21 x22 x23 x24 x25 x26 x27 x28 x29 x30 x31 x32 x33 x34 x35 x36 x37 x38 y3))
def F28_c1 : Nat → Int → Int → Int → Int → Int → Int → Int → Int → Int → Int → Int → Int → Int → Int → Int → Int → Int → Int → Int → Int → Int → Int → Int → Int → Int → Int → Int → Int → Int → Int → Int → Int → Int → Int → Int → Int → Int → Int → List (Int) → List (Int) → Option (Si18l2)
  | 0, _, _, _, _, _, _, _, _, _, _, _, _, _, _, _, _, _, _, _, _, _, _, _, _, _, _, _, _, _, _, _, _, _, _, _, _, _, _, _, _ => none
  | n + 1, x0, x1, x2, x3, x4, x5, x6, x7, x8, x9, x10, x11, x12, x13, x14, x15, x16, x17, x18, x19, x20, x21, x22, x23, x24, x25, x26, x27, x28, x29, x30, x31, x32, x33, x34, x35, x36, x37, x38, x39 => bif (ilt x1 (16)) then
 (bif (inb x1 16) then
 (bif (nlt (Int.toNat x1) 16) then
 (bif (ieq (List.getD [x4, x5, x6, x7, x8, x9, x10, x11, x12, x13, x14, x15, x16, x17, x18, x19] (Int.toNat x1) 0) x0) then
 (bif (inb x1 16) then
 (bif (nlt (Int.toNat x1) 16) then
 (F28_c1 n x0 (iadd .i64 x1 (1)) x2 x3 (List.getD (List.set [x4, x5, x6, x7, x8, x9, x10, x11, x12, x13, x14, x15, x16, x17, x18, x19] (Int.toNat x1) (-1)) 0 0) (List.getD (List.set [x4, x5, x6, x7, x8, x9, x10, x11, x12, x13, x14, x15, x16, x17, x18, x19] (Int.toNat x1) (-1)) 1 0) (List.getD (List.set [x4, x5, x6, x7, x8, x9, x10, x11, x12, x13, x14, x15, x16, x17, x18, x19] (Int.toNat x1) (-1)) 2 0) (List.getD (List.set [x4, x5, x6, x7, x8, x9, x10, x11, x12, x13, x14, x15, x16, x17, x18, x19] (Int.toNat x1) (-1)) 3 0) (List.getD (List.set [x4, x5, x6, x7, x8, x9, x10, x11, x12, x13, x14, x15, x16, x17, x18, x19] (Int.toNat x1) (-1)) 4 0) (List.getD (List.set [x4, x5, x6, x7, x8, x9, x10, x11, x12, x13, x14, x15, x16, x17, x18, x19] (Int.toNat x1) (-1)) 5 0) (List.getD (List.set [x4, x5, x6, x7, x8, x9, x10, x11, x12, x13, x14, x15, x16, x17, x18, x19] (Int.toNat x1) (-1)) 6 0) (List.getD (List.set [x4, x5, x6, x7, x8, x9, x10, x11, x12, x13, x14, x15, x16, x17, x18, x19] (Int.toNat x1) (-1)) 7 0) (List.getD (List.set [x4, x5, x6, x7, x8, x9, x10, x11, x12, x13, x14, x15, x16, x17, x18, x19] (Int.toNat x1) (-1)) 8 0) (List.getD (List.set [x4, x5, x6, x7, x8, x9, x10, x11, x12, x13, x14, x15, x16, x17, x18, x19] (Int.toNat x1) (-1)) 9 0) (List.getD (List.set [x4, x5, x6, x7, x8, x9, x10, x11, x12, x13, x14, x15, x16, x17, x18, x19] (Int.toNat x1) (-1)) 10 0) (List.getD (List.set [x4, x5, x6, x7, x8, x9, x10, x11, x12, x13, x14, x15, x16, x17, x18, x19] (Int.toNat x1) (-1)) 11 0) (List.getD (List.set [x4, x5, x6, x7, x8, x9, x10, x11, x12, x13, x14, x15, x16, x17, x18, x19] (Int.toNat x1) (-1)) 12 0) (List.getD (List.set [x4, x5, x6, x7, x8, x9, x10, x11, x12, x13, x14, x15, x16, x17, x18, x19] (Int.toNat x1) (-1)) 13 0) (List.getD (List.set [x4, x5, x6, x7, x8, x9, x10, x11, x12, x13, x14, x15, x16, x17, x18, x19] (Int.toNat x1) (-1)) 14 0) (List.getD (List.set [x4, x5, x6, x7, x8, x9, x10, x11, x12, x13, x14, x15, x16, x17, x18, x19] (Int.toNat x1) (-1)) 15 0) x20 x21 x22 x23 x24 x25 x26 x27 x28 x29 x30 x31 x32 x33 x34 x35 x36 x37 x38 x39)
 else (none))
 else (none))
 else (F28_c1 n x0 (iadd .i64 x1 (1)) x2 x3 x4 x5 x6 x7 x8 x9 x10 x11 x12 x13 x14 x15 x16 x17 x18 x19 x20 x21 x22 x23 x24 x25 x26 x27 x28 x29 x30 x31 x32 x33 x34 x35 x36 x37 x38 x39))
 else (none))
 else (none))
 else (some ⟨x2, x3, x4, x5, x6, x7, x8, x9, x10, x11, x12, x13, x14, x15, x16, x17, x18, x19, x38, x39⟩)
end
def F28 (n : Nat) (a0 : Int) (a1 a2 : List (Int)) (a3 a4 a5 a6 a7 a8 a9 a10 a11 a12 a13 a14 a15 a16 a17 a18 a19 a20 : Int) : Option (Si18l2) :=
  Option.bind (F27 FUEL a0 a1 a2 a3 a4 a5 a6 a7 a8 a9 a10 a11 a12 a13 a14 a15 a16 a17 a18 a19) fun y1 =>
 Option.bind (F21 FUEL y1.q0 y1.q18 y1.q19 y1.q1 y1.q2 y1.q3 y1.q4 y1.q5 y1.q6 y1.q7 y1.q8 y1.q9 y1.q10 y1.q11 y1.q12 y1.q13 y1.q14 y1.q15 y1.q16 y1.q17) fun y2 =>
 bif (!y2) then
 (some ⟨y1.q0, y1.q1, y1.q2, y1.q3, y1.q4, y1.q5, y1.q6, y1.q7, y1.q8, y1.q9, y1.q10, y1.q11, y1.q12, y1.q13, y1.q14, y1.q15, y1.q16, y1.q17, y1.q18, y1.q19⟩)
 else (F28_c0 n a20 (0) y1.q0 y1.q1 y1.q2 y1.q3 y1.q4 y1.q5 y1.q6 y1.q7 y1.q8 y1.q9 y1.q10 y1.q11 y1.q12 y1.q13 y1.q14 y1.q15 y1.q16 y1.q17 (0) (0) (0) (0) (0) (0) (0) (0) (0) (0) (0) (0) (0) (0) (0) (0) (0) (0) y1.q18 y1.q19)

/-! ### garland/garlandref14.Failed -/
def F16 (_n : Nat) (a0 : Int) (a1 a2 : List (Int)) (a3 a4 a5 a6 a7 a8 a9 a10 a11 a12 a13 a14 a15 a16 a17 a18 a19 a20 a21 a22 : Int) : Option (Sil2i19) :=
  Option.bind (F27 FUEL a0 a1 a2 a3 a4 a5 a6 a7 a8 a9 a10 a11 a12 a13 a14 a15 a16 a17 a18 a19) fun y1 =>
 Option.bind (F21 FUEL y1.q0 y1.q18 y1.q19 y1.q1 y1.q2 y1.q3 y1.q4 y1.q5 y1.q6 y1.q7 y1.q8 y1.q9 y1.q10 y1.q11 y1.q12 y1.q13 y1.q14 y1.q15 y1.q16 y1.q17) fun y2 =>
 bif (!y2) then
 (some ⟨y1.q0, y1.q18, y1.q19, y1.q1, y1.q2, y1.q3, y1.q4, y1.q5, y1.q6, y1.q7, y1.q8, y1.q9, y1.q10, y1.q11, y1.q12, y1.q13, y1.q14, y1.q15, y1.q16, y1.q17, a20, a21⟩)
 else (Option.bind (F18 FUEL a20 a21) fun y3 =>
 bif (!y3) then
 (some ⟨y1.q0, y1.q18, y1.q19, y1.q1, y1.q2, y1.q3, y1.q4, y1.q5, y1.q6, y1.q7, y1.q8, y1.q9, y1.q10, y1.q11, y1.q12, y1.q13, y1.q14, y1.q15, y1.q16, y1.q17, a20, a21⟩)
 else (bif (ine a20 (0)) then
 (bif (ieq a21 a22) then
 (Option.bind (F28 FUEL y1.q0 y1.q18 y1.q19 y1.q1 y1.q2 y1.q3 y1.q4 y1.q5 y1.q6 y1.q7 y1.q8 y1.q9 y1.q10 y1.q11 y1.q12 y1.q13 y1.q14 y1.q15 y1.q16 y1.q17 a22) fun y4 =>
 some ⟨y4.q0, y4.q18, y4.q19, y4.q1, y4.q2, y4.q3, y4.q4, y4.q5, y4.q6, y4.q7, y4.q8, y4.q9, y4.q10, y4.q11, y4.q12, y4.q13, y4.q14, y4.q15, y4.q16, y4.q17, (0), (0)⟩)
 else (Option.bind (F28 FUEL y1.q0 y1.q18 y1.q19 y1.q1 y1.q2 y1.q3 y1.q4 y1.q5 y1.q6 y1.q7 y1.q8 y1.q9 y1.q10 y1.q11 y1.q12 y1.q13 y1.q14 y1.q15 y1.q16 y1.q17 a22) fun y5 =>
 some ⟨y5.q0, y5.q18, y5.q19, y5.q1, y5.q2, y5.q3, y5.q4, y5.q5, y5.q6, y5.q7, y5.q8, y5.q9, y5.q10, y5.q11, y5.q12, y5.q13, y5.q14, y5.q15, y5.q16, y5.q17, a20, a21⟩))
 else (Option.bind (F28 FUEL y1.q0 y1.q18 y1.q19 y1.q1 y1.q2 y1.q3 y1.q4 y1.q5 y1.q6 y1.q7 y1.q8 y1.q9 y1.q10 y1.q11 y1.q12 y1.q13 y1.q14 y1.q15 y1.q16 y1.q17 a22) fun y6 =>
 some ⟨y6.q0, y6.q18, y6.q19, y6.q1, y6.q2, y6.q3, y6.q4, y6.q5, y6.q6, y6.q7, y6.q8, y6.q9, y6.q10, y6.q11, y6.q12, y6.q13, y6.q14, y6.q15, y6.q16, y6.q17, a20, a21⟩)))

/-! ### garland/garlandlaw14.StabTells -/
def F3 (_n : Nat) (a0 : Int) (a1 a2 : List (Int)) (a3 a4 a5 a6 a7 a8 a9 a10 a11 a12 a13 a14 a15 a16 a17 a18 a19 a20 a21 a22 a23 a24 a25 a26 : Int) (a27 a28 : Bool) (a29 a30 : Int) (a31 : List (Int)) (a32 : ByteArray) (a33 a34 : Int) (a35 : Bool) (a36 a37 : Int) : Option (Bool) :=
  Option.bind (F7 FUEL a0 a1 a2 a3 a4 a5 a6 a7 a8 a9 a10 a11 a12 a13 a14 a15 a16 a17 a18 a19 a22 a23 a24 a25 a26 a27 a28 a29 a30 a31 a32 a33 a34 a35 a36) fun y1 =>
 bif y1 then
 (Option.bind (F8 FUEL) fun y2 =>
 some y2)
 else (Option.bind (F9 FUEL a0 a1 a2 a3 a4 a5 a6 a7 a8 a9 a10 a11 a12 a13 a14 a15 a16 a17 a18 a19 a20 a21) fun y3 =>
 Option.bind (F10 FUEL a0 a1 a2 a3 a4 a5 a6 a7 a8 a9 a10 a11 a12 a13 a14 a15 a16 a17 a18 a19 a20 a21) fun y4 =>
 bif (!((ieq y3.1 y4.1) && ((ieq y3.2.1 y4.2.1) && true))) then
 (some false)
 else (Option.bind (F11 FUEL y3.2.2 y4.2.2) fun y5 =>
 bif (!y5) then
 (some false)
 else (Option.bind (F12 FUEL a0 a1 a2 a3 a4 a5 a6 a7 a8 a9 a10 a11 a12 a13 a14 a15 a16 a17 a18 a19 a20 a21 a22 a23 a24 a25 a26 a27 a28 a29 a30 a31 a32 a33 a34 a35 a36) fun y6 =>
 Option.bind (F13 FUEL a0 a1 a2 a3 a4 a5 a6 a7 a8 a9 a10 a11 a12 a13 a14 a15 a16 a17 a18 a19 a20 a21 a22 a23 a24 a25 a26 a27 a28 a29 a30 a31 a32 a33 a34 a35 a36) fun y7 =>
 Option.bind (F14 FUEL y6.q0 y6.q1 y6.q2 y6.q3 y6.q4 y6.q5 y6.q6 y6.q7 y6.q8 y6.q9 y6.q10 y6.q11 y6.q12 y6.q13 y6.q14 y6.q15 y6.q16 y6.q17 y6.q18 y6.q19 y7.q0 y7.q21 y7.q22 y7.q1 y7.q2 y7.q3 y7.q4 y7.q5 y7.q6 y7.q7 y7.q8 y7.q9 y7.q10 y7.q11 y7.q12 y7.q13 y7.q14 y7.q15 y7.q16 y7.q17) fun y8 =>
 bif (!y8) then
 (some false)
 else (bif (!((ieq y6.q20 y7.q18) && ((ieq y6.q21 y7.q19) && true))) then
 (some false)
 else (Option.bind (F11 FUEL y6.q22 y7.q20) fun y9 =>
 bif (!y9) then
 (some false)
 else (Option.bind (F15 FUEL a0 a1 a2 a3 a4 a5 a6 a7 a8 a9 a10 a11 a12 a13 a14 a15 a16 a17 a18 a19 a20 a21 a37) fun y10 =>
 Option.bind (F16 FUEL a0 a1 a2 a3 a4 a5 a6 a7 a8 a9 a10 a11 a12 a13 a14 a15 a16 a17 a18 a19 a20 a21 a37) fun y11 =>
 Option.bind (F14 FUEL y10.q0 y10.q1 y10.q2 y10.q3 y10.q4 y10.q5 y10.q6 y10.q7 y10.q8 y10.q9 y10.q10 y10.q11 y10.q12 y10.q13 y10.q14 y10.q15 y10.q16 y10.q17 y10.q18 y10.q19 y11.q0 y11.q1 y11.q2 y11.q3 y11.q4 y11.q5 y11.q6 y11.q7 y11.q8 y11.q9 y11.q10 y11.q11 y11.q12 y11.q13 y11.q14 y11.q15 y11.q16 y11.q17 y11.q18 y11.q19) fun y12 =>
 bif y12 then
 (bif ((ieq y10.q20 y11.q20) && ((ieq y10.q21 y11.q21) && true)) then
 (Option.bind (F17 FUEL a20 a21) fun y13 =>
 Option.bind (F18 FUEL a20 a21) fun y14 =>
 bif (beqb y13 y14) then
 (Option.bind (F19 FUEL a20 a21) fun y15 =>
 Option.bind (F20 FUEL a20 a21) fun y16 =>
 bif (ieq y15 y16) then
 (Option.bind (F8 FUEL) fun y17 =>
 some y17)
 else (some false))
 else (some false))
 else (some false))
 else (some false)))))))

/-! ### garland/garlandref12.Skips -/
mutual
def F22_c0 : Nat → List (Int) → List (Int) → Int → Int → Option (Bool)
  | 0, _, _, _, _ => none
  | n + 1, x0, x1, x2, x3 => bif (ilt x3 (ofN (List.length x0))) then
 (F22_c1 n x0 x1 x2 x3 (0))
 else (some false)
def F22_c1 : Nat → List (Int) → List (Int) → Int → Int → Int → Option (Bool)
  | 0, _, _, _, _, _ => none
  | n + 1, x0, x1, x2, x3, x4 => bif (ilt x4 (ofN (List.length x1))) then
 (bif (inb x4 (List.length x1)) then
 (bif (inb x3 (List.length x0)) then
 (Option.bind (F26 FUEL x2 (List.getD x1 (Int.toNat x4) 0) (List.getD x0 (Int.toNat x3) 0)) fun y1 =>
 bif y1 then
 (some true)
 else (F22_c1 n x0 x1 x2 x3 (iadd .i64 x4 (1))))
 else (none))
 else (none))
 else (bif (inb x3 (List.length x0)) then
 (F22_c0 n x0 x1 (List.getD x0 (Int.toNat x3) 0) (iadd .i64 x3 (1)))
 else (none))
end
def F22 (n : Nat) (a0 : Int) (a1 a2 : List (Int)) : Option (Bool) :=
  F22_c0 n a1 a2 a0 (0)

/-! ### garland/garlandlaw14.StabSkips -/
def F4 (_n : Nat) (a0 : Int) (a1 a2 : List (Int)) (a3 a4 a5 a6 a7 a8 a9 a10 a11 a12 a13 a14 a15 a16 a17 a18 a19 a20 : Int) (a21 a22 : List (Int)) : Option (Bool) :=
  Option.bind (F21 FUEL a0 a1 a2 a3 a4 a5 a6 a7 a8 a9 a10 a11 a12 a13 a14 a15 a16 a17 a18 a19) fun y1 =>
 bif (!y1) then
 (Option.bind (F8 FUEL) fun y2 =>
 some y2)
 else (Option.bind (F22 FUEL a0 a2 a1) fun y3 =>
 bif y3 then
 (Option.bind (F8 FUEL) fun y4 =>
 some y4)
 else (bif (igt (ofN (List.length a21)) (6)) then
 (Option.bind (F8 FUEL) fun y5 =>
 some y5)
 else (bif (igt (ofN (List.length a22)) (6)) then
 (Option.bind (F8 FUEL) fun y6 =>
 some y6)
 else (Option.bind (F9 FUEL a0 a1 a2 a3 a4 a5 a6 a7 a8 a9 a10 a11 a12 a13 a14 a15 a16 a17 a18 a19 (0) (0)) fun y7 =>
 Option.bind (F23 FUEL y7.2.1 a0 a20) fun y8 =>
 bif (ine (ofN (List.length y7.2.2)) (1)) then
 (some false)
 else (bif (ieq y7.2.1 a0) then
 (some false)
 else (bif (inb (0) (List.length y7.2.2)) then
 (bif (ine (List.getD y7.2.2 (Int.toNat (0)) (0, 0, 0, 0, 0, false, false, 0, 0, [], ByteArray.empty, 0, 0, false, 0, 0)).2.2.2.1 y7.2.1) then
 (some false)
 else (bif (ine y7.1 (1)) then
 (some false)
 else (Option.bind (F24 FUEL y8.q0 y8.q1 y8.q2 y8.q3 y8.q4 y8.q5 y8.q6 y8.q7 y8.q8 a21 y8.q9 y8.q10 y8.q11 y8.q12 y8.q13) fun y9 =>
 bif (!y9) then
 (Option.bind (F8 FUEL) fun y10 =>
 some y10)
 else (Option.bind (F25 FUEL y7.2.1 a21) fun y11 =>
 bif (!y11) then
 (Option.bind (F8 FUEL) fun y12 =>
 some y12)
 else (Option.bind (F22 FUEL y7.2.1 a21 a1) fun y13 =>
 bif y13 then
 (Option.bind (F8 FUEL) fun y14 =>
 some y14)
 else (Option.bind (F12 FUEL a0 a1 a2 a3 a4 a5 a6 a7 a8 a9 a10 a11 a12 a13 a14 a15 a16 a17 a18 a19 y7.1 y7.2.1 y8.q0 y8.q1 y8.q2 y8.q3 y8.q4 y8.q5 y8.q6 y8.q7 y8.q8 a21 y8.q9 y8.q10 y8.q11 y8.q12 y8.q13) fun y15 =>
 Option.bind (F21 FUEL y15.q0 y15.q1 y15.q2 y15.q3 y15.q4 y15.q5 y15.q6 y15.q7 y15.q8 y15.q9 y15.q10 y15.q11 y15.q12 y15.q13 y15.q14 y15.q15 y15.q16 y15.q17 y15.q18 y15.q19) fun y16 =>
 bif (!y16) then
 (some false)
 else (bif (ilt (ofN (List.length y15.q2)) (1)) then
 (some false)
 else (Option.bind (F22 FUEL y15.q0 y15.q2 y15.q1) fun y17 =>
 bif y17 then
 (some false)
 else (bif (inb (0) (List.length y15.q2)) then
 (bif (ine (List.getD y15.q2 (Int.toNat (0)) 0) y7.2.1) then
 (some false)
 else (bif (ine (ofN (List.length y15.q22)) (1)) then
 (some false)
 else (bif (inb (0) (List.length y15.q22)) then
 (bif (ine (List.getD y15.q22 (Int.toNat (0)) (0, 0, 0, 0, 0, false, false, 0, 0, [], ByteArray.empty, 0, 0, false, 0, 0)).2.2.2.1 y15.q21) then
 (some false)
 else (bif (ine y15.q20 (2)) then
 (bif ((ieq y15.q20 (3)) && ((ieq y15.q21 y7.2.1) && true)) then
 (Option.bind (F8 FUEL) fun y18 =>
 some y18)
 else (some false))
 else (Option.bind (F23 FUEL y15.q21 a0 (-1)) fun y19 =>
 bif (ine y15.q21 a20) then
 (some false)
 else (Option.bind (F26 FUEL a0 a20 y7.2.1) fun y20 =>
 bif (!y20) then
 (some false)
 else (Option.bind (F24 FUEL y19.q0 y19.q1 y19.q2 y19.q3 y19.q4 y19.q5 y19.q6 y19.q7 y19.q8 a22 y19.q9 y19.q10 y19.q11 y19.q12 y19.q13) fun y21 =>
 bif (!y21) then
 (Option.bind (F8 FUEL) fun y22 =>
 some y22)
 else (Option.bind (F25 FUEL y15.q21 a22) fun y23 =>
 bif (!y23) then
 (Option.bind (F8 FUEL) fun y24 =>
 some y24)
 else (Option.bind (F22 FUEL y15.q21 a22 a1) fun y25 =>
 bif y25 then
 (Option.bind (F8 FUEL) fun y26 =>
 some y26)
 else (Option.bind (F12 FUEL y15.q0 y15.q1 y15.q2 y15.q3 y15.q4 y15.q5 y15.q6 y15.q7 y15.q8 y15.q9 y15.q10 y15.q11 y15.q12 y15.q13 y15.q14 y15.q15 y15.q16 y15.q17 y15.q18 y15.q19 y15.q20 y15.q21 y19.q0 y19.q1 y19.q2 y19.q3 y19.q4 y19.q5 y19.q6 y19.q7 y19.q8 a22 y19.q9 y19.q10 y19.q11 y19.q12 y19.q13) fun y27 =>
 Option.bind (F21 FUEL y27.q0 y27.q1 y27.q2 y27.q3 y27.q4 y27.q5 y27.q6 y27.q7 y27.q8 y27.q9 y27.q10 y27.q11 y27.q12 y27.q13 y27.q14 y27.q15 y27.q16 y27.q17 y27.q18 y27.q19) fun y28 =>
 bif y28 then
 (Option.bind (F22 FUEL y27.q0 y27.q2 y27.q1) fun y29 =>
 bif (!y29) then
 (bif (igt (ofN (List.length y27.q2)) (0)) then
 (bif (inb (0) (List.length y27.q2)) then
 (bif (ieq (List.getD y27.q2 (Int.toNat (0)) 0) a20) then
 (bif ((ieq y27.q20 (3)) && ((ieq y27.q21 a20) && true)) then
 (bif (ieq (ofN (List.length y27.q22)) (1)) then
 (Option.bind (F8 FUEL) fun y30 =>
 some y30)
 else (some false))
 else (some false))
 else (some false))
 else (none))
 else (some false))
 else (some false))
 else (some false)))))))))
 else (none))))
 else (none))))))))))
 else (none)))))))

/-! ### garland/garlandlaw14.StabEnds -/
def F5_c0 : Nat → List (Int × Int × Int × Int × Int × Bool × Bool × Int × Int × (List (Int)) × ByteArray × Int × Int × Bool × Int × Int) → Int → Int → Int → List (Int) → List (Int) → Int → Int → Int → Int → Int → Int → Int → Int → Int → Int → Int → Int → Int → Int → Int → Int → Int → Int → Int → Int → List (Int) → List (Int) → List (Int) → Int → Int → Int → List (Int) → List (Int) → Int → Int → Int → Int → Int → Int → Int → Int → Int → Int → Int → Int → Int → Int → Int → Int → Int → Option (Bool)
  | 0, _, _, _, _, _, _, _, _, _, _, _, _, _, _, _, _, _, _, _, _, _, _, _, _, _, _, _, _, _, _, _, _, _, _, _, _, _, _, _, _, _, _, _, _, _, _, _, _, _, _, _ => none
  | n + 1, x0, x1, x2, x3, x4, x5, x6, x7, x8, x9, x10, x11, x12, x13, x14, x15, x16, x17, x18, x19, x20, x21, x22, x23, x24, x25, x26, x27, x28, x29, x30, x31, x32, x33, x34, x35, x36, x37, x38, x39, x40, x41, x42, x43, x44, x45, x46, x47, x48, x49, x50 => bif (ilt x2 (3)) then
 (bif (ine x29 (0)) then
 (bif (inb x2 3) then
 (bif (nlt (Int.toNat x2) 3) then
 (bif (igt (ofN (List.length (List.getD [x26, x27, x28] (Int.toNat x2) []))) (6)) then
 (bif (inb x2 3) then
 (bif (nlt (Int.toNat x2) 3) then
 (bif (igt (ofN (List.length (List.getD [x26, x27, x28] (Int.toNat x2) []))) (6)) then
 (Option.bind (F8 FUEL) fun y5 =>
 some y5)
 else (some false))
 else (none))
 else (none))
 else (bif (ine (ofN (List.length x0)) (1)) then
 (bif (inb x2 3) then
 (bif (nlt (Int.toNat x2) 3) then
 (bif (igt (ofN (List.length (List.getD [x26, x27, x28] (Int.toNat x2) []))) (6)) then
 (Option.bind (F8 FUEL) fun y6 =>
 some y6)
 else (some false))
 else (none))
 else (none))
 else (bif (inb (0) (List.length x0)) then
 (Option.bind (F19 FUEL x29 x30) fun y7 =>
 bif (ine (List.getD x0 (Int.toNat (0)) (0, 0, 0, 0, 0, false, false, 0, 0, [], ByteArray.empty, 0, 0, false, 0, 0)).2.2.2.2.2.2.2.2.2.2.2.2.2.2.2 y7) then
 (bif (inb x2 3) then
 (bif (nlt (Int.toNat x2) 3) then
 (bif (igt (ofN (List.length (List.getD [x26, x27, x28] (Int.toNat x2) []))) (6)) then
 (Option.bind (F8 FUEL) fun y8 =>
 some y8)
 else (some false))
 else (none))
 else (none))
 else (bif (inb (0) (List.length x0)) then
 (bif (ine (List.getD x0 (Int.toNat (0)) (0, 0, 0, 0, 0, false, false, 0, 0, [], ByteArray.empty, 0, 0, false, 0, 0)).2.2.2.1 x30) then
 (bif (inb x2 3) then
 (bif (nlt (Int.toNat x2) 3) then
 (bif (igt (ofN (List.length (List.getD [x26, x27, x28] (Int.toNat x2) []))) (6)) then
 (Option.bind (F8 FUEL) fun y9 =>
 some y9)
 else (some false))
 else (none))
 else (none))
 else (bif (inb x2 3) then
 (bif (nlt (Int.toNat x2) 3) then
 (bif (inb x2 3) then
 (bif (nlt (Int.toNat x2) 3) then
 (Option.bind (F23 FUEL x30 x3 (List.getD [x23, x24, x25] (Int.toNat x2) 0)) fun y10 =>
 bif (ieq x29 (3)) then
 (Option.bind (F24 FUEL (9) y10.q1 x30 x3 (0) false false (0) (0) [] ByteArray.empty (0) (0) false (0)) fun y11 =>
 bif (!y11) then
 (Option.bind (F8 FUEL) fun y12 =>
 some y12)
 else (Option.bind (F12 FUEL x31 x32 x33 x34 x35 x36 x37 x38 x39 x40 x41 x42 x43 x44 x45 x46 x47 x48 x49 x50 x29 x30 (9) y10.q1 x30 x3 (0) false false (0) (0) [] ByteArray.empty (0) (0) false (0)) fun y13 =>
 bif (ieq y13.q20 x29) then
 (some false)
 else (bif (ine y13.q20 (0)) then
 (bif (ilt y13.q20 x29) then
 (some false)
 else (Option.bind (F21 FUEL y13.q0 y13.q1 y13.q2 y13.q3 y13.q4 y13.q5 y13.q6 y13.q7 y13.q8 y13.q9 y13.q10 y13.q11 y13.q12 y13.q13 y13.q14 y13.q15 y13.q16 y13.q17 y13.q18 y13.q19) fun y14 =>
 bif (!y14) then
 (some false)
 else (F5_c0 n y13.q22 (iadd .i64 x1 (1)) (iadd .i64 x2 (1)) x3 x4 x5 x6 x7 x8 x9 x10 x11 x12 x13 x14 x15 x16 x17 x18 x19 x20 x21 x22 x23 x24 x25 x26 x27 x28 y13.q20 y13.q21 y13.q0 y13.q1 y13.q2 y13.q3 y13.q4 y13.q5 y13.q6 y13.q7 y13.q8 y13.q9 y13.q10 y13.q11 y13.q12 y13.q13 y13.q14 y13.q15 y13.q16 y13.q17 y13.q18 y13.q19)))
 else (Option.bind (F21 FUEL y13.q0 y13.q1 y13.q2 y13.q3 y13.q4 y13.q5 y13.q6 y13.q7 y13.q8 y13.q9 y13.q10 y13.q11 y13.q12 y13.q13 y13.q14 y13.q15 y13.q16 y13.q17 y13.q18 y13.q19) fun y15 =>
 bif (!y15) then
 (some false)
 else (F5_c0 n y13.q22 (iadd .i64 x1 (1)) (iadd .i64 x2 (1)) x3 x4 x5 x6 x7 x8 x9 x10 x11 x12 x13 x14 x15 x16 x17 x18 x19 x20 x21 x22 x23 x24 x25 x26 x27 x28 y13.q20 y13.q21 y13.q0 y13.q1 y13.q2 y13.q3 y13.q4 y13.q5 y13.q6 y13.q7 y13.q8 y13.q9 y13.q10 y13.q11 y13.q12 y13.q13 y13.q14 y13.q15 y13.q16 y13.q17 y13.q18 y13.q19)))))
 else (Option.bind (F24 FUEL y10.q0 y10.q1 y10.q2 y10.q3 y10.q4 y10.q5 y10.q6 y10.q7 y10.q8 (List.getD [x26, x27, x28] (Int.toNat x2) []) y10.q9 y10.q10 y10.q11 y10.q12 y10.q13) fun y16 =>
 bif (!y16) then
 (Option.bind (F8 FUEL) fun y17 =>
 some y17)
 else (Option.bind (F12 FUEL x31 x32 x33 x34 x35 x36 x37 x38 x39 x40 x41 x42 x43 x44 x45 x46 x47 x48 x49 x50 x29 x30 y10.q0 y10.q1 y10.q2 y10.q3 y10.q4 y10.q5 y10.q6 y10.q7 y10.q8 (List.getD [x26, x27, x28] (Int.toNat x2) []) y10.q9 y10.q10 y10.q11 y10.q12 y10.q13) fun y18 =>
 bif (ieq y18.q20 x29) then
 (some false)
 else (bif (ine y18.q20 (0)) then
 (bif (ilt y18.q20 x29) then
 (some false)
 else (Option.bind (F21 FUEL y18.q0 y18.q1 y18.q2 y18.q3 y18.q4 y18.q5 y18.q6 y18.q7 y18.q8 y18.q9 y18.q10 y18.q11 y18.q12 y18.q13 y18.q14 y18.q15 y18.q16 y18.q17 y18.q18 y18.q19) fun y19 =>
 bif (!y19) then
 (some false)
 else (F5_c0 n y18.q22 (iadd .i64 x1 (1)) (iadd .i64 x2 (1)) x3 x4 x5 x6 x7 x8 x9 x10 x11 x12 x13 x14 x15 x16 x17 x18 x19 x20 x21 x22 x23 x24 x25 x26 x27 x28 y18.q20 y18.q21 y18.q0 y18.q1 y18.q2 y18.q3 y18.q4 y18.q5 y18.q6 y18.q7 y18.q8 y18.q9 y18.q10 y18.q11 y18.q12 y18.q13 y18.q14 y18.q15 y18.q16 y18.q17 y18.q18 y18.q19)))
 else (Option.bind (F21 FUEL y18.q0 y18.q1 y18.q2 y18.q3 y18.q4 y18.q5 y18.q6 y18.q7 y18.q8 y18.q9 y18.q10 y18.q11 y18.q12 y18.q13 y18.q14 y18.q15 y18.q16 y18.q17 y18.q18 y18.q19) fun y20 =>
 bif (!y20) then
 (some false)
 else (F5_c0 n y18.q22 (iadd .i64 x1 (1)) (iadd .i64 x2 (1)) x3 x4 x5 x6 x7 x8 x9 x10 x11 x12 x13 x14 x15 x16 x17 x18 x19 x20 x21 x22 x23 x24 x25 x26 x27 x28 y18.q20 y18.q21 y18.q0 y18.q1 y18.q2 y18.q3 y18.q4 y18.q5 y18.q6 y18.q7 y18.q8 y18.q9 y18.q10 y18.q11 y18.q12 y18.q13 y18.q14 y18.q15 y18.q16 y18.q17 y18.q18 y18.q19))))))
 else (none))
 else (none))
 else (none))
 else (none)))
 else (none)))
 else (none))))
 else (none))
 else (none))
 else (bif ((ieq x29 (0)) && ((ieq x30 (0)) && true)) then
 (bif (ige x1 (2)) then
 (bif (ile x1 (3)) then
 (bif (ieq (ofN (List.length x0)) (0)) then
 (Option.bind (F14 FUEL x31 x32 x5 x34 x35 x36 x37 x38 x39 x40 x41 x42 x43 x44 x45 x46 x47 x48 x49 x50 x3 x4 x5 x6 x7 x8 x9 x10 x11 x12 x13 x14 x15 x16 x17 x18 x19 x20 x21 x22) fun y21 =>
 bif y21 then
 (Option.bind (F8 FUEL) fun y22 =>
 some y22)
 else (some false))
 else (some false))
 else (some false))
 else (some false))
 else (some false)))
 else (bif ((ieq x29 (0)) && ((ieq x30 (0)) && true)) then
 (bif (ige x1 (2)) then
 (bif (ile x1 (3)) then
 (bif (ieq (ofN (List.length x0)) (0)) then
 (Option.bind (F14 FUEL x31 x32 x5 x34 x35 x36 x37 x38 x39 x40 x41 x42 x43 x44 x45 x46 x47 x48 x49 x50 x3 x4 x5 x6 x7 x8 x9 x10 x11 x12 x13 x14 x15 x16 x17 x18 x19 x20 x21 x22) fun y23 =>
 bif y23 then
 (Option.bind (F8 FUEL) fun y24 =>
 some y24)
 else (some false))
 else (some false))
 else (some false))
 else (some false))
 else (some false))
def F5 (n : Nat) (a0 : Int) (a1 a2 : List (Int)) (a3 a4 a5 a6 a7 a8 a9 a10 a11 a12 a13 a14 a15 a16 a17 a18 a19 a20 a21 a22 : Int) (a23 a24 a25 : List (Int)) : Option (Bool) :=
  Option.bind (F21 FUEL a0 a1 a2 a3 a4 a5 a6 a7 a8 a9 a10 a11 a12 a13 a14 a15 a16 a17 a18 a19) fun y1 =>
 bif (!y1) then
 (Option.bind (F8 FUEL) fun y2 =>
 some y2)
 else (Option.bind (F9 FUEL a0 a1 a2 a3 a4 a5 a6 a7 a8 a9 a10 a11 a12 a13 a14 a15 a16 a17 a18 a19 (0) (0)) fun y3 =>
 Option.bind (F27 FUEL a0 a1 a2 a3 a4 a5 a6 a7 a8 a9 a10 a11 a12 a13 a14 a15 a16 a17 a18 a19) fun y4 =>
 F5_c0 n y3.2.2 (0) (0) a0 a1 a2 a3 a4 a5 a6 a7 a8 a9 a10 a11 a12 a13 a14 a15 a16 a17 a18 a19 a20 a21 a22 a23 a24 a25 y3.1 y3.2.1 y4.q0 y4.q18 y4.q19 y4.q1 y4.q2 y4.q3 y4.q4 y4.q5 y4.q6 y4.q7 y4.q8 y4.q9 y4.q10 y4.q11 y4.q12 y4.q13 y4.q14 y4.q15 y4.q16 y4.q17)

/-! ### garland/garlandlaw14.StabNot -/
def F6 (_n : Nat) (a0 : Int) (a1 a2 : List (Int)) (a3 a4 a5 a6 a7 a8 a9 a10 a11 a12 a13 a14 a15 a16 a17 a18 a19 a20 a21 a22 a23 a24 a25 a26 : Int) (a27 a28 : Bool) (a29 a30 : Int) (a31 : List (Int)) (a32 : ByteArray) (a33 a34 : Int) (a35 : Bool) (a36 a37 : Int) : Option (Bool) :=
  Option.bind (F7 FUEL a0 a1 a2 a3 a4 a5 a6 a7 a8 a9 a10 a11 a12 a13 a14 a15 a16 a17 a18 a19 a22 a23 a24 a25 a26 a27 a28 a29 a30 a31 a32 a33 a34 a35 a36) fun y1 =>
 bif y1 then
 (Option.bind (F8 FUEL) fun y2 =>
 some y2)
 else (Option.bind (F21 FUEL a0 a1 a2 a3 a4 a5 a6 a7 a8 a9 a10 a11 a12 a13 a14 a15 a16 a17 a18 a19) fun y3 =>
 bif (!y3) then
 (Option.bind (F8 FUEL) fun y4 =>
 some y4)
 else (Option.bind (F18 FUEL a20 a21) fun y5 =>
 bif (!y5) then
 (Option.bind (F8 FUEL) fun y6 =>
 some y6)
 else (Option.bind (F12 FUEL a0 a1 a2 a3 a4 a5 a6 a7 a8 a9 a10 a11 a12 a13 a14 a15 a16 a17 a18 a19 a20 a21 a22 a23 a24 a25 a26 a27 a28 a29 a30 a31 a32 a33 a34 a35 a36) fun y7 =>
 bif (ieq a22 (7)) then
 (bif (ieq a20 (1)) then
 (bif (ine a24 a21) then
 (Option.bind (F14 FUEL y7.q0 y7.q1 y7.q2 y7.q3 y7.q4 y7.q5 y7.q6 y7.q7 y7.q8 y7.q9 y7.q10 y7.q11 y7.q12 y7.q13 y7.q14 y7.q15 y7.q16 y7.q17 y7.q18 y7.q19 a0 a1 a2 a3 a4 a5 a6 a7 a8 a9 a10 a11 a12 a13 a14 a15 a16 a17 a18 a19) fun y8 =>
 bif (!y8) then
 (some false)
 else (bif (!((ieq y7.q20 a20) && ((ieq y7.q21 a21) && true))) then
 (some false)
 else (bif (ine (ofN (List.length y7.q22)) (0)) then
 (some false)
 else (Option.bind (F15 FUEL a0 a1 a2 a3 a4 a5 a6 a7 a8 a9 a10 a11 a12 a13 a14 a15 a16 a17 a18 a19 a20 a21 a37) fun y9 =>
 Option.bind (F28 FUEL a0 a1 a2 a3 a4 a5 a6 a7 a8 a9 a10 a11 a12 a13 a14 a15 a16 a17 a18 a19 a37) fun y10 =>
 Option.bind (F14 FUEL y9.q0 y9.q1 y9.q2 y9.q3 y9.q4 y9.q5 y9.q6 y9.q7 y9.q8 y9.q9 y9.q10 y9.q11 y9.q12 y9.q13 y9.q14 y9.q15 y9.q16 y9.q17 y9.q18 y9.q19 y10.q0 y10.q18 y10.q19 y10.q1 y10.q2 y10.q3 y10.q4 y10.q5 y10.q6 y10.q7 y10.q8 y10.q9 y10.q10 y10.q11 y10.q12 y10.q13 y10.q14 y10.q15 y10.q16 y10.q17) fun y11 =>
 bif (!y11) then
 (some false)
 else (bif (!((ieq y9.q20 a20) && ((ieq y9.q21 a21) && true))) then
 (bif (!((ieq y9.q20 (0)) && ((ieq y9.q21 (0)) && true))) then
 (some false)
 else (bif (ine a21 a37) then
 (some false)
 else (bif (ieq a20 (0)) then
 (Option.bind (F8 FUEL) fun y12 =>
 some y12)
 else (bif (ine a21 a37) then
 (Option.bind (F8 FUEL) fun y13 =>
 some y13)
 else (bif ((ieq y9.q20 (0)) && ((ieq y9.q21 (0)) && true)) then
 (Option.bind (F8 FUEL) fun y14 =>
 some y14)
 else (some false))))))
 else (bif (ieq a20 (0)) then
 (Option.bind (F8 FUEL) fun y15 =>
 some y15)
 else (bif (ine a21 a37) then
 (Option.bind (F8 FUEL) fun y16 =>
 some y16)
 else (bif ((ieq y9.q20 (0)) && ((ieq y9.q21 (0)) && true)) then
 (Option.bind (F8 FUEL) fun y17 =>
 some y17)
 else (some false)))))))))
 else (bif (ine a25 a0) then
 (Option.bind (F14 FUEL y7.q0 y7.q1 y7.q2 y7.q3 y7.q4 y7.q5 y7.q6 y7.q7 y7.q8 y7.q9 y7.q10 y7.q11 y7.q12 y7.q13 y7.q14 y7.q15 y7.q16 y7.q17 y7.q18 y7.q19 a0 a1 a2 a3 a4 a5 a6 a7 a8 a9 a10 a11 a12 a13 a14 a15 a16 a17 a18 a19) fun y18 =>
 bif (!y18) then
 (some false)
 else (bif (!((ieq y7.q20 a20) && ((ieq y7.q21 a21) && true))) then
 (some false)
 else (bif (ine (ofN (List.length y7.q22)) (0)) then
 (some false)
 else (Option.bind (F15 FUEL a0 a1 a2 a3 a4 a5 a6 a7 a8 a9 a10 a11 a12 a13 a14 a15 a16 a17 a18 a19 a20 a21 a37) fun y19 =>
 Option.bind (F28 FUEL a0 a1 a2 a3 a4 a5 a6 a7 a8 a9 a10 a11 a12 a13 a14 a15 a16 a17 a18 a19 a37) fun y20 =>
 Option.bind (F14 FUEL y19.q0 y19.q1 y19.q2 y19.q3 y19.q4 y19.q5 y19.q6 y19.q7 y19.q8 y19.q9 y19.q10 y19.q11 y19.q12 y19.q13 y19.q14 y19.q15 y19.q16 y19.q17 y19.q18 y19.q19 y20.q0 y20.q18 y20.q19 y20.q1 y20.q2 y20.q3 y20.q4 y20.q5 y20.q6 y20.q7 y20.q8 y20.q9 y20.q10 y20.q11 y20.q12 y20.q13 y20.q14 y20.q15 y20.q16 y20.q17) fun y21 =>
 bif (!y21) then
 (some false)
 else (bif (!((ieq y19.q20 a20) && ((ieq y19.q21 a21) && true))) then
 (bif (!((ieq y19.q20 (0)) && ((ieq y19.q21 (0)) && true))) then
 (some false)
 else (bif (ine a21 a37) then
 (some false)
 else (bif (ieq a20 (0)) then
 (Option.bind (F8 FUEL) fun y22 =>
 some y22)
 else (bif (ine a21 a37) then
 (Option.bind (F8 FUEL) fun y23 =>
 some y23)
 else (bif ((ieq y19.q20 (0)) && ((ieq y19.q21 (0)) && true)) then
 (Option.bind (F8 FUEL) fun y24 =>
 some y24)
 else (some false))))))
 else (bif (ieq a20 (0)) then
 (Option.bind (F8 FUEL) fun y25 =>
 some y25)
 else (bif (ine a21 a37) then
 (Option.bind (F8 FUEL) fun y26 =>
 some y26)
 else (bif ((ieq y19.q20 (0)) && ((ieq y19.q21 (0)) && true)) then
 (Option.bind (F8 FUEL) fun y27 =>
 some y27)
 else (some false)))))))))
 else (Option.bind (F24 FUEL a22 a23 a24 a25 a26 a27 a28 a29 a30 a31 a32 a33 a34 a35 a36) fun y28 =>
 bif (!y28) then
 (Option.bind (F14 FUEL y7.q0 y7.q1 y7.q2 y7.q3 y7.q4 y7.q5 y7.q6 y7.q7 y7.q8 y7.q9 y7.q10 y7.q11 y7.q12 y7.q13 y7.q14 y7.q15 y7.q16 y7.q17 y7.q18 y7.q19 a0 a1 a2 a3 a4 a5 a6 a7 a8 a9 a10 a11 a12 a13 a14 a15 a16 a17 a18 a19) fun y29 =>
 bif (!y29) then
 (some false)
 else (bif (!((ieq y7.q20 a20) && ((ieq y7.q21 a21) && true))) then
 (some false)
 else (bif (ine (ofN (List.length y7.q22)) (0)) then
 (some false)
 else (Option.bind (F15 FUEL a0 a1 a2 a3 a4 a5 a6 a7 a8 a9 a10 a11 a12 a13 a14 a15 a16 a17 a18 a19 a20 a21 a37) fun y30 =>
 Option.bind (F28 FUEL a0 a1 a2 a3 a4 a5 a6 a7 a8 a9 a10 a11 a12 a13 a14 a15 a16 a17 a18 a19 a37) fun y31 =>
 Option.bind (F14 FUEL y30.q0 y30.q1 y30.q2 y30.q3 y30.q4 y30.q5 y30.q6 y30.q7 y30.q8 y30.q9 y30.q10 y30.q11 y30.q12 y30.q13 y30.q14 y30.q15 y30.q16 y30.q17 y30.q18 y30.q19 y31.q0 y31.q18 y31.q19 y31.q1 y31.q2 y31.q3 y31.q4 y31.q5 y31.q6 y31.q7 y31.q8 y31.q9 y31.q10 y31.q11 y31.q12 y31.q13 y31.q14 y31.q15 y31.q16 y31.q17) fun y32 =>
 bif (!y32) then
 (some false)
 else (bif (!((ieq y30.q20 a20) && ((ieq y30.q21 a21) && true))) then
 (bif (!((ieq y30.q20 (0)) && ((ieq y30.q21 (0)) && true))) then
 (some false)
 else (bif (ine a21 a37) then
 (some false)
 else (bif (ieq a20 (0)) then
 (Option.bind (F8 FUEL) fun y33 =>
 some y33)
 else (bif (ine a21 a37) then
 (Option.bind (F8 FUEL) fun y34 =>
 some y34)
 else (bif ((ieq y30.q20 (0)) && ((ieq y30.q21 (0)) && true)) then
 (Option.bind (F8 FUEL) fun y35 =>
 some y35)
 else (some false))))))
 else (bif (ieq a20 (0)) then
 (Option.bind (F8 FUEL) fun y36 =>
 some y36)
 else (bif (ine a21 a37) then
 (Option.bind (F8 FUEL) fun y37 =>
 some y37)
 else (bif ((ieq y30.q20 (0)) && ((ieq y30.q21 (0)) && true)) then
 (Option.bind (F8 FUEL) fun y38 =>
 some y38)
 else (some false)))))))))
 else (Option.bind (F15 FUEL a0 a1 a2 a3 a4 a5 a6 a7 a8 a9 a10 a11 a12 a13 a14 a15 a16 a17 a18 a19 a20 a21 a37) fun y39 =>
 Option.bind (F28 FUEL a0 a1 a2 a3 a4 a5 a6 a7 a8 a9 a10 a11 a12 a13 a14 a15 a16 a17 a18 a19 a37) fun y40 =>
 Option.bind (F14 FUEL y39.q0 y39.q1 y39.q2 y39.q3 y39.q4 y39.q5 y39.q6 y39.q7 y39.q8 y39.q9 y39.q10 y39.q11 y39.q12 y39.q13 y39.q14 y39.q15 y39.q16 y39.q17 y39.q18 y39.q19 y40.q0 y40.q18 y40.q19 y40.q1 y40.q2 y40.q3 y40.q4 y40.q5 y40.q6 y40.q7 y40.q8 y40.q9 y40.q10 y40.q11 y40.q12 y40.q13 y40.q14 y40.q15 y40.q16 y40.q17) fun y41 =>
 bif (!y41) then
 (some false)
 else (bif (!((ieq y39.q20 a20) && ((ieq y39.q21 a21) && true))) then
 (bif (!((ieq y39.q20 (0)) && ((ieq y39.q21 (0)) && true))) then
 (some false)
 else (bif (ine a21 a37) then
 (some false)
 else (bif (ieq a20 (0)) then
 (Option.bind (F8 FUEL) fun y42 =>
 some y42)
 else (bif (ine a21 a37) then
 (Option.bind (F8 FUEL) fun y43 =>
 some y43)
 else (bif ((ieq y39.q20 (0)) && ((ieq y39.q21 (0)) && true)) then
 (Option.bind (F8 FUEL) fun y44 =>
 some y44)
 else (some false))))))
 else (bif (ieq a20 (0)) then
 (Option.bind (F8 FUEL) fun y45 =>
 some y45)
 else (bif (ine a21 a37) then
 (Option.bind (F8 FUEL) fun y46 =>
 some y46)
 else (bif ((ieq y39.q20 (0)) && ((ieq y39.q21 (0)) && true)) then
 (Option.bind (F8 FUEL) fun y47 =>
 some y47)
 else (some false)))))))))
 else (bif (ieq a20 (2)) then
 (bif (ine a24 a21) then
 (Option.bind (F14 FUEL y7.q0 y7.q1 y7.q2 y7.q3 y7.q4 y7.q5 y7.q6 y7.q7 y7.q8 y7.q9 y7.q10 y7.q11 y7.q12 y7.q13 y7.q14 y7.q15 y7.q16 y7.q17 y7.q18 y7.q19 a0 a1 a2 a3 a4 a5 a6 a7 a8 a9 a10 a11 a12 a13 a14 a15 a16 a17 a18 a19) fun y48 =>
 bif (!y48) then
 (some false)
 else (bif (!((ieq y7.q20 a20) && ((ieq y7.q21 a21) && true))) then
 (some false)
 else (bif (ine (ofN (List.length y7.q22)) (0)) then
 (some false)
 else (Option.bind (F15 FUEL a0 a1 a2 a3 a4 a5 a6 a7 a8 a9 a10 a11 a12 a13 a14 a15 a16 a17 a18 a19 a20 a21 a37) fun y49 =>
 Option.bind (F28 FUEL a0 a1 a2 a3 a4 a5 a6 a7 a8 a9 a10 a11 a12 a13 a14 a15 a16 a17 a18 a19 a37) fun y50 =>
 Option.bind (F14 FUEL y49.q0 y49.q1 y49.q2 y49.q3 y49.q4 y49.q5 y49.q6 y49.q7 y49.q8 y49.q9 y49.q10 y49.q11 y49.q12 y49.q13 y49.q14 y49.q15 y49.q16 y49.q17 y49.q18 y49.q19 y50.q0 y50.q18 y50.q19 y50.q1 y50.q2 y50.q3 y50.q4 y50.q5 y50.q6 y50.q7 y50.q8 y50.q9 y50.q10 y50.q11 y50.q12 y50.q13 y50.q14 y50.q15 y50.q16 y50.q17) fun y51 =>
 bif (!y51) then
 (some false)
 else (bif (!((ieq y49.q20 a20) && ((ieq y49.q21 a21) && true))) then
 (bif (!((ieq y49.q20 (0)) && ((ieq y49.q21 (0)) && true))) then
 (some false)
 else (bif (ine a21 a37) then
 (some false)
 else (bif (ieq a20 (0)) then
 (Option.bind (F8 FUEL) fun y52 =>
 some y52)
 else (bif (ine a21 a37) then
 (Option.bind (F8 FUEL) fun y53 =>
 some y53)
 else (bif ((ieq y49.q20 (0)) && ((ieq y49.q21 (0)) && true)) then
 (Option.bind (F8 FUEL) fun y54 =>
 some y54)
 else (some false))))))
 else (bif (ieq a20 (0)) then
 (Option.bind (F8 FUEL) fun y55 =>
 some y55)
 else (bif (ine a21 a37) then
 (Option.bind (F8 FUEL) fun y56 =>
 some y56)
 else (bif ((ieq y49.q20 (0)) && ((ieq y49.q21 (0)) && true)) then
 (Option.bind (F8 FUEL) fun y57 =>
 some y57)
 else (some false)))))))))
 else (bif (ine a25 a0) then
 (Option.bind (F14 FUEL y7.q0 y7.q1 y7.q2 y7.q3 y7.q4 y7.q5 y7.q6 y7.q7 y7.q8 y7.q9 y7.q10 y7.q11 y7.q12 y7.q13 y7.q14 y7.q15 y7.q16 y7.q17 y7.q18 y7.q19 a0 a1 a2 a3 a4 a5 a6 a7 a8 a9 a10 a11 a12 a13 a14 a15 a16 a17 a18 a19) fun y58 =>
 bif (!y58) then
 (some false)
 else (bif (!((ieq y7.q20 a20) && ((ieq y7.q21 a21) && true))) then
 (some false)
 else (bif (ine (ofN (List.length y7.q22)) (0)) then
 (some false)
 else (Option.bind (F15 FUEL a0 a1 a2 a3 a4 a5 a6 a7 a8 a9 a10 a11 a12 a13 a14 a15 a16 a17 a18 a19 a20 a21 a37) fun y59 =>
 Option.bind (F28 FUEL a0 a1 a2 a3 a4 a5 a6 a7 a8 a9 a10 a11 a12 a13 a14 a15 a16 a17 a18 a19 a37) fun y60 =>
 Option.bind (F14 FUEL y59.q0 y59.q1 y59.q2 y59.q3 y59.q4 y59.q5 y59.q6 y59.q7 y59.q8 y59.q9 y59.q10 y59.q11 y59.q12 y59.q13 y59.q14 y59.q15 y59.q16 y59.q17 y59.q18 y59.q19 y60.q0 y60.q18 y60.q19 y60.q1 y60.q2 y60.q3 y60.q4 y60.q5 y60.q6 y60.q7 y60.q8 y60.q9 y60.q10 y60.q11 y60.q12 y60.q13 y60.q14 y60.q15 y60.q16 y60.q17) fun y61 =>
 bif (!y61) then
 (some false)
 else (bif (!((ieq y59.q20 a20) && ((ieq y59.q21 a21) && true))) then
 (bif (!((ieq y59.q20 (0)) && ((ieq y59.q21 (0)) && true))) then
 (some false)
 else (bif (ine a21 a37) then
 (some false)
 else (bif (ieq a20 (0)) then
 (Option.bind (F8 FUEL) fun y62 =>
 some y62)
 else (bif (ine a21 a37) then
 (Option.bind (F8 FUEL) fun y63 =>
 some y63)
 else (bif ((ieq y59.q20 (0)) && ((ieq y59.q21 (0)) && true)) then
 (Option.bind (F8 FUEL) fun y64 =>
 some y64)
 else (some false))))))
 else (bif (ieq a20 (0)) then
 (Option.bind (F8 FUEL) fun y65 =>
 some y65)
 else (bif (ine a21 a37) then
 (Option.bind (F8 FUEL) fun y66 =>
 some y66)
 else (bif ((ieq y59.q20 (0)) && ((ieq y59.q21 (0)) && true)) then
 (Option.bind (F8 FUEL) fun y67 =>
 some y67)
 else (some false)))))))))
 else (Option.bind (F24 FUEL a22 a23 a24 a25 a26 a27 a28 a29 a30 a31 a32 a33 a34 a35 a36) fun y68 =>
 bif (!y68) then
 (Option.bind (F14 FUEL y7.q0 y7.q1 y7.q2 y7.q3 y7.q4 y7.q5 y7.q6 y7.q7 y7.q8 y7.q9 y7.q10 y7.q11 y7.q12 y7.q13 y7.q14 y7.q15 y7.q16 y7.q17 y7.q18 y7.q19 a0 a1 a2 a3 a4 a5 a6 a7 a8 a9 a10 a11 a12 a13 a14 a15 a16 a17 a18 a19) fun y69 =>
 bif (!y69) then
 (some false)
 else (bif (!((ieq y7.q20 a20) && ((ieq y7.q21 a21) && true))) then
 (some false)
 else (bif (ine (ofN (List.length y7.q22)) (0)) then
 (some false)
 else (Option.bind (F15 FUEL a0 a1 a2 a3 a4 a5 a6 a7 a8 a9 a10 a11 a12 a13 a14 a15 a16 a17 a18 a19 a20 a21 a37) fun y70 =>
 Option.bind (F28 FUEL a0 a1 a2 a3 a4 a5 a6 a7 a8 a9 a10 a11 a12 a13 a14 a15 a16 a17 a18 a19 a37) fun y71 =>
 Option.bind (F14 FUEL y70.q0 y70.q1 y70.q2 y70.q3 y70.q4 y70.q5 y70.q6 y70.q7 y70.q8 y70.q9 y70.q10 y70.q11 y70.q12 y70.q13 y70.q14 y70.q15 y70.q16 y70.q17 y70.q18 y70.q19 y71.q0 y71.q18 y71.q19 y71.q1 y71.q2 y71.q3 y71.q4 y71.q5 y71.q6 y71.q7 y71.q8 y71.q9 y71.q10 y71.q11 y71.q12 y71.q13 y71.q14 y71.q15 y71.q16 y71.q17) fun y72 =>
 bif (!y72) then
 (some false)
 else (bif (!((ieq y70.q20 a20) && ((ieq y70.q21 a21) && true))) then
 (bif (!((ieq y70.q20 (0)) && ((ieq y70.q21 (0)) && true))) then
 (some false)
 else (bif (ine a21 a37) then
 (some false)
 else (bif (ieq a20 (0)) then
 (Option.bind (F8 FUEL) fun y73 =>
 some y73)
 else (bif (ine a21 a37) then
 (Option.bind (F8 FUEL) fun y74 =>
 some y74)
 else (bif ((ieq y70.q20 (0)) && ((ieq y70.q21 (0)) && true)) then
 (Option.bind (F8 FUEL) fun y75 =>
 some y75)
 else (some false))))))
 else (bif (ieq a20 (0)) then
 (Option.bind (F8 FUEL) fun y76 =>
 some y76)
 else (bif (ine a21 a37) then
 (Option.bind (F8 FUEL) fun y77 =>
 some y77)
 else (bif ((ieq y70.q20 (0)) && ((ieq y70.q21 (0)) && true)) then
 (Option.bind (F8 FUEL) fun y78 =>
 some y78)
 else (some false)))))))))
 else (Option.bind (F15 FUEL a0 a1 a2 a3 a4 a5 a6 a7 a8 a9 a10 a11 a12 a13 a14 a15 a16 a17 a18 a19 a20 a21 a37) fun y79 =>
 Option.bind (F28 FUEL a0 a1 a2 a3 a4 a5 a6 a7 a8 a9 a10 a11 a12 a13 a14 a15 a16 a17 a18 a19 a37) fun y80 =>
 Option.bind (F14 FUEL y79.q0 y79.q1 y79.q2 y79.q3 y79.q4 y79.q5 y79.q6 y79.q7 y79.q8 y79.q9 y79.q10 y79.q11 y79.q12 y79.q13 y79.q14 y79.q15 y79.q16 y79.q17 y79.q18 y79.q19 y80.q0 y80.q18 y80.q19 y80.q1 y80.q2 y80.q3 y80.q4 y80.q5 y80.q6 y80.q7 y80.q8 y80.q9 y80.q10 y80.q11 y80.q12 y80.q13 y80.q14 y80.q15 y80.q16 y80.q17) fun y81 =>
 bif (!y81) then
 (some false)
 else (bif (!((ieq y79.q20 a20) && ((ieq y79.q21 a21) && true))) then
 (bif (!((ieq y79.q20 (0)) && ((ieq y79.q21 (0)) && true))) then
 (some false)
 else (bif (ine a21 a37) then
 (some false)
 else (bif (ieq a20 (0)) then
 (Option.bind (F8 FUEL) fun y82 =>
 some y82)
 else (bif (ine a21 a37) then
 (Option.bind (F8 FUEL) fun y83 =>
 some y83)
 else (bif ((ieq y79.q20 (0)) && ((ieq y79.q21 (0)) && true)) then
 (Option.bind (F8 FUEL) fun y84 =>
 some y84)
 else (some false))))))
 else (bif (ieq a20 (0)) then
 (Option.bind (F8 FUEL) fun y85 =>
 some y85)
 else (bif (ine a21 a37) then
 (Option.bind (F8 FUEL) fun y86 =>
 some y86)
 else (bif ((ieq y79.q20 (0)) && ((ieq y79.q21 (0)) && true)) then
 (Option.bind (F8 FUEL) fun y87 =>
 some y87)
 else (some false)))))))))
 else (bif (ieq a22 (9)) then
 (bif (!(ieq a20 (3))) then
 (Option.bind (F14 FUEL y7.q0 y7.q1 y7.q2 y7.q3 y7.q4 y7.q5 y7.q6 y7.q7 y7.q8 y7.q9 y7.q10 y7.q11 y7.q12 y7.q13 y7.q14 y7.q15 y7.q16 y7.q17 y7.q18 y7.q19 a0 a1 a2 a3 a4 a5 a6 a7 a8 a9 a10 a11 a12 a13 a14 a15 a16 a17 a18 a19) fun y88 =>
 bif (!y88) then
 (some false)
 else (bif (!((ieq y7.q20 a20) && ((ieq y7.q21 a21) && true))) then
 (some false)
 else (bif (ine (ofN (List.length y7.q22)) (0)) then
 (some false)
 else (Option.bind (F15 FUEL a0 a1 a2 a3 a4 a5 a6 a7 a8 a9 a10 a11 a12 a13 a14 a15 a16 a17 a18 a19 a20 a21 a37) fun y89 =>
 Option.bind (F28 FUEL a0 a1 a2 a3 a4 a5 a6 a7 a8 a9 a10 a11 a12 a13 a14 a15 a16 a17 a18 a19 a37) fun y90 =>
 Option.bind (F14 FUEL y89.q0 y89.q1 y89.q2 y89.q3 y89.q4 y89.q5 y89.q6 y89.q7 y89.q8 y89.q9 y89.q10 y89.q11 y89.q12 y89.q13 y89.q14 y89.q15 y89.q16 y89.q17 y89.q18 y89.q19 y90.q0 y90.q18 y90.q19 y90.q1 y90.q2 y90.q3 y90.q4 y90.q5 y90.q6 y90.q7 y90.q8 y90.q9 y90.q10 y90.q11 y90.q12 y90.q13 y90.q14 y90.q15 y90.q16 y90.q17) fun y91 =>
 bif (!y91) then
 (some false)
 else (bif (!((ieq y89.q20 a20) && ((ieq y89.q21 a21) && true))) then
 (bif (!((ieq y89.q20 (0)) && ((ieq y89.q21 (0)) && true))) then
 (some false)
 else (bif (ine a21 a37) then
 (some false)
 else (bif (ieq a20 (0)) then
 (Option.bind (F8 FUEL) fun y92 =>
 some y92)
 else (bif (ine a21 a37) then
 (Option.bind (F8 FUEL) fun y93 =>
 some y93)
 else (bif ((ieq y89.q20 (0)) && ((ieq y89.q21 (0)) && true)) then
 (Option.bind (F8 FUEL) fun y94 =>
 some y94)
 else (some false))))))
 else (bif (ieq a20 (0)) then
 (Option.bind (F8 FUEL) fun y95 =>
 some y95)
 else (bif (ine a21 a37) then
 (Option.bind (F8 FUEL) fun y96 =>
 some y96)
 else (bif ((ieq y89.q20 (0)) && ((ieq y89.q21 (0)) && true)) then
 (Option.bind (F8 FUEL) fun y97 =>
 some y97)
 else (some false)))))))))
 else (bif (ine a24 a21) then
 (Option.bind (F14 FUEL y7.q0 y7.q1 y7.q2 y7.q3 y7.q4 y7.q5 y7.q6 y7.q7 y7.q8 y7.q9 y7.q10 y7.q11 y7.q12 y7.q13 y7.q14 y7.q15 y7.q16 y7.q17 y7.q18 y7.q19 a0 a1 a2 a3 a4 a5 a6 a7 a8 a9 a10 a11 a12 a13 a14 a15 a16 a17 a18 a19) fun y98 =>
 bif (!y98) then
 (some false)
 else (bif (!((ieq y7.q20 a20) && ((ieq y7.q21 a21) && true))) then
 (some false)
 else (bif (ine (ofN (List.length y7.q22)) (0)) then
 (some false)
 else (Option.bind (F15 FUEL a0 a1 a2 a3 a4 a5 a6 a7 a8 a9 a10 a11 a12 a13 a14 a15 a16 a17 a18 a19 a20 a21 a37) fun y99 =>
 Option.bind (F28 FUEL a0 a1 a2 a3 a4 a5 a6 a7 a8 a9 a10 a11 a12 a13 a14 a15 a16 a17 a18 a19 a37) fun y100 =>
 Option.bind (F14 FUEL y99.q0 y99.q1 y99.q2 y99.q3 y99.q4 y99.q5 y99.q6 y99.q7 y99.q8 y99.q9 y99.q10 y99.q11 y99.q12 y99.q13 y99.q14 y99.q15 y99.q16 y99.q17 y99.q18 y99.q19 y100.q0 y100.q18 y100.q19 y100.q1 y100.q2 y100.q3 y100.q4 y100.q5 y100.q6 y100.q7 y100.q8 y100.q9 y100.q10 y100.q11 y100.q12 y100.q13 y100.q14 y100.q15 y100.q16 y100.q17) fun y101 =>
 bif (!y101) then
 (some false)
 else (bif (!((ieq y99.q20 a20) && ((ieq y99.q21 a21) && true))) then
 (bif (!((ieq y99.q20 (0)) && ((ieq y99.q21 (0)) && true))) then
 (some false)
 else (bif (ine a21 a37) then
 (some false)
 else (bif (ieq a20 (0)) then
 (Option.bind (F8 FUEL) fun y102 =>
 some y102)
 else (bif (ine a21 a37) then
 (Option.bind (F8 FUEL) fun y103 =>
 some y103)
 else (bif ((ieq y99.q20 (0)) && ((ieq y99.q21 (0)) && true)) then
 (Option.bind (F8 FUEL) fun y104 =>
 some y104)
 else (some false))))))
 else (bif (ieq a20 (0)) then
 (Option.bind (F8 FUEL) fun y105 =>
 some y105)
 else (bif (ine a21 a37) then
 (Option.bind (F8 FUEL) fun y106 =>
 some y106)
 else (bif ((ieq y99.q20 (0)) && ((ieq y99.q21 (0)) && true)) then
 (Option.bind (F8 FUEL) fun y107 =>
 some y107)
 else (some false)))))))))
 else (bif (ine a25 a0) then
 (Option.bind (F14 FUEL y7.q0 y7.q1 y7.q2 y7.q3 y7.q4 y7.q5 y7.q6 y7.q7 y7.q8 y7.q9 y7.q10 y7.q11 y7.q12 y7.q13 y7.q14 y7.q15 y7.q16 y7.q17 y7.q18 y7.q19 a0 a1 a2 a3 a4 a5 a6 a7 a8 a9 a10 a11 a12 a13 a14 a15 a16 a17 a18 a19) fun y108 =>
 bif (!y108) then
 (some false)
 else (bif (!((ieq y7.q20 a20) && ((ieq y7.q21 a21) && true))) then
 (some false)
 else (bif (ine (ofN (List.length y7.q22)) (0)) then
 (some false)
 else (Option.bind (F15 FUEL a0 a1 a2 a3 a4 a5 a6 a7 a8 a9 a10 a11 a12 a13 a14 a15 a16 a17 a18 a19 a20 a21 a37) fun y109 =>
 Option.bind (F28 FUEL a0 a1 a2 a3 a4 a5 a6 a7 a8 a9 a10 a11 a12 a13 a14 a15 a16 a17 a18 a19 a37) fun y110 =>
 Option.bind (F14 FUEL y109.q0 y109.q1 y109.q2 y109.q3 y109.q4 y109.q5 y109.q6 y109.q7 y109.q8 y109.q9 y109.q10 y109.q11 y109.q12 y109.q13 y109.q14 y109.q15 y109.q16 y109.q17 y109.q18 y109.q19 y110.q0 y110.q18 y110.q19 y110.q1 y110.q2 y110.q3 y110.q4 y110.q5 y110.q6 y110.q7 y110.q8 y110.q9 y110.q10 y110.q11 y110.q12 y110.q13 y110.q14 y110.q15 y110.q16 y110.q17) fun y111 =>
 bif (!y111) then
 (some false)
 else (bif (!((ieq y109.q20 a20) && ((ieq y109.q21 a21) && true))) then
 (bif (!((ieq y109.q20 (0)) && ((ieq y109.q21 (0)) && true))) then
 (some false)
 else (bif (ine a21 a37) then
 (some false)
 else (bif (ieq a20 (0)) then
 (Option.bind (F8 FUEL) fun y112 =>
 some y112)
 else (bif (ine a21 a37) then
 (Option.bind (F8 FUEL) fun y113 =>
 some y113)
 else (bif ((ieq y109.q20 (0)) && ((ieq y109.q21 (0)) && true)) then
 (Option.bind (F8 FUEL) fun y114 =>
 some y114)
 else (some false))))))
 else (bif (ieq a20 (0)) then
 (Option.bind (F8 FUEL) fun y115 =>
 some y115)
 else (bif (ine a21 a37) then
 (Option.bind (F8 FUEL) fun y116 =>
 some y116)
 else (bif ((ieq y109.q20 (0)) && ((ieq y109.q21 (0)) && true)) then
 (Option.bind (F8 FUEL) fun y117 =>
 some y117)
 else (some false)))))))))
 else (Option.bind (F24 FUEL a22 a23 a24 a25 a26 a27 a28 a29 a30 a31 a32 a33 a34 a35 a36) fun y118 =>
 bif (!y118) then
 (Option.bind (F14 FUEL y7.q0 y7.q1 y7.q2 y7.q3 y7.q4 y7.q5 y7.q6 y7.q7 y7.q8 y7.q9 y7.q10 y7.q11 y7.q12 y7.q13 y7.q14 y7.q15 y7.q16 y7.q17 y7.q18 y7.q19 a0 a1 a2 a3 a4 a5 a6 a7 a8 a9 a10 a11 a12 a13 a14 a15 a16 a17 a18 a19) fun y119 =>
 bif (!y119) then
 (some false)
 else (bif (!((ieq y7.q20 a20) && ((ieq y7.q21 a21) && true))) then
 (some false)
 else (bif (ine (ofN (List.length y7.q22)) (0)) then
 (some false)
 else (Option.bind (F15 FUEL a0 a1 a2 a3 a4 a5 a6 a7 a8 a9 a10 a11 a12 a13 a14 a15 a16 a17 a18 a19 a20 a21 a37) fun y120 =>
 Option.bind (F28 FUEL a0 a1 a2 a3 a4 a5 a6 a7 a8 a9 a10 a11 a12 a13 a14 a15 a16 a17 a18 a19 a37) fun y121 =>
 Option.bind (F14 FUEL y120.q0 y120.q1 y120.q2 y120.q3 y120.q4 y120.q5 y120.q6 y120.q7 y120.q8 y120.q9 y120.q10 y120.q11 y120.q12 y120.q13 y120.q14 y120.q15 y120.q16 y120.q17 y120.q18 y120.q19 y121.q0 y121.q18 y121.q19 y121.q1 y121.q2 y121.q3 y121.q4 y121.q5 y121.q6 y121.q7 y121.q8 y121.q9 y121.q10 y121.q11 y121.q12 y121.q13 y121.q14 y121.q15 y121.q16 y121.q17) fun y122 =>
 bif (!y122) then
 (some false)
 else (bif (!((ieq y120.q20 a20) && ((ieq y120.q21 a21) && true))) then
 (bif (!((ieq y120.q20 (0)) && ((ieq y120.q21 (0)) && true))) then
 (some false)
 else (bif (ine a21 a37) then
 (some false)
 else (bif (ieq a20 (0)) then
 (Option.bind (F8 FUEL) fun y123 =>
 some y123)
 else (bif (ine a21 a37) then
 (Option.bind (F8 FUEL) fun y124 =>
 some y124)
 else (bif ((ieq y120.q20 (0)) && ((ieq y120.q21 (0)) && true)) then
 (Option.bind (F8 FUEL) fun y125 =>
 some y125)
 else (some false))))))
 else (bif (ieq a20 (0)) then
 (Option.bind (F8 FUEL) fun y126 =>
 some y126)
 else (bif (ine a21 a37) then
 (Option.bind (F8 FUEL) fun y127 =>
 some y127)
 else (bif ((ieq y120.q20 (0)) && ((ieq y120.q21 (0)) && true)) then
 (Option.bind (F8 FUEL) fun y128 =>
 some y128)
 else (some false)))))))))
 else (Option.bind (F15 FUEL a0 a1 a2 a3 a4 a5 a6 a7 a8 a9 a10 a11 a12 a13 a14 a15 a16 a17 a18 a19 a20 a21 a37) fun y129 =>
 Option.bind (F28 FUEL a0 a1 a2 a3 a4 a5 a6 a7 a8 a9 a10 a11 a12 a13 a14 a15 a16 a17 a18 a19 a37) fun y130 =>
 Option.bind (F14 FUEL y129.q0 y129.q1 y129.q2 y129.q3 y129.q4 y129.q5 y129.q6 y129.q7 y129.q8 y129.q9 y129.q10 y129.q11 y129.q12 y129.q13 y129.q14 y129.q15 y129.q16 y129.q17 y129.q18 y129.q19 y130.q0 y130.q18 y130.q19 y130.q1 y130.q2 y130.q3 y130.q4 y130.q5 y130.q6 y130.q7 y130.q8 y130.q9 y130.q10 y130.q11 y130.q12 y130.q13 y130.q14 y130.q15 y130.q16 y130.q17) fun y131 =>
 bif (!y131) then
 (some false)
 else (bif (!((ieq y129.q20 a20) && ((ieq y129.q21 a21) && true))) then
 (bif (!((ieq y129.q20 (0)) && ((ieq y129.q21 (0)) && true))) then
 (some false)
 else (bif (ine a21 a37) then
 (some false)
 else (bif (ieq a20 (0)) then
 (Option.bind (F8 FUEL) fun y132 =>
 some y132)
 else (bif (ine a21 a37) then
 (Option.bind (F8 FUEL) fun y133 =>
 some y133)
 else (bif ((ieq y129.q20 (0)) && ((ieq y129.q21 (0)) && true)) then
 (Option.bind (F8 FUEL) fun y134 =>
 some y134)
 else (some false))))))
 else (bif (ieq a20 (0)) then
 (Option.bind (F8 FUEL) fun y135 =>
 some y135)
 else (bif (ine a21 a37) then
 (Option.bind (F8 FUEL) fun y136 =>
 some y136)
 else (bif ((ieq y129.q20 (0)) && ((ieq y129.q21 (0)) && true)) then
 (Option.bind (F8 FUEL) fun y137 =>
 some y137)
 else (some false))))))))))
 else (Option.bind (F14 FUEL y7.q0 y7.q1 y7.q2 y7.q3 y7.q4 y7.q5 y7.q6 y7.q7 y7.q8 y7.q9 y7.q10 y7.q11 y7.q12 y7.q13 y7.q14 y7.q15 y7.q16 y7.q17 y7.q18 y7.q19 a0 a1 a2 a3 a4 a5 a6 a7 a8 a9 a10 a11 a12 a13 a14 a15 a16 a17 a18 a19) fun y138 =>
 bif (!y138) then
 (some false)
 else (bif (!((ieq y7.q20 a20) && ((ieq y7.q21 a21) && true))) then
 (some false)
 else (bif (ine (ofN (List.length y7.q22)) (0)) then
 (some false)
 else (Option.bind (F15 FUEL a0 a1 a2 a3 a4 a5 a6 a7 a8 a9 a10 a11 a12 a13 a14 a15 a16 a17 a18 a19 a20 a21 a37) fun y139 =>
 Option.bind (F28 FUEL a0 a1 a2 a3 a4 a5 a6 a7 a8 a9 a10 a11 a12 a13 a14 a15 a16 a17 a18 a19 a37) fun y140 =>
 Option.bind (F14 FUEL y139.q0 y139.q1 y139.q2 y139.q3 y139.q4 y139.q5 y139.q6 y139.q7 y139.q8 y139.q9 y139.q10 y139.q11 y139.q12 y139.q13 y139.q14 y139.q15 y139.q16 y139.q17 y139.q18 y139.q19 y140.q0 y140.q18 y140.q19 y140.q1 y140.q2 y140.q3 y140.q4 y140.q5 y140.q6 y140.q7 y140.q8 y140.q9 y140.q10 y140.q11 y140.q12 y140.q13 y140.q14 y140.q15 y140.q16 y140.q17) fun y141 =>
 bif (!y141) then
 (some false)
 else (bif (!((ieq y139.q20 a20) && ((ieq y139.q21 a21) && true))) then
 (bif (!((ieq y139.q20 (0)) && ((ieq y139.q21 (0)) && true))) then
 (some false)
 else (bif (ine a21 a37) then
 (some false)
 else (bif (ieq a20 (0)) then
 (Option.bind (F8 FUEL) fun y142 =>
 some y142)
 else (bif (ine a21 a37) then
 (Option.bind (F8 FUEL) fun y143 =>
 some y143)
 else (bif ((ieq y139.q20 (0)) && ((ieq y139.q21 (0)) && true)) then
 (Option.bind (F8 FUEL) fun y144 =>
 some y144)
 else (some false))))))
 else (bif (ieq a20 (0)) then
 (Option.bind (F8 FUEL) fun y145 =>
 some y145)
 else (bif (ine a21 a37) then
 (Option.bind (F8 FUEL) fun y146 =>
 some y146)
 else (bif ((ieq y139.q20 (0)) && ((ieq y139.q21 (0)) && true)) then
 (Option.bind (F8 FUEL) fun y147 =>
 some y147)
 else (some false))))))))))))
 else (bif (ieq a22 (9)) then
 (bif (!(ieq a20 (3))) then
 (Option.bind (F14 FUEL y7.q0 y7.q1 y7.q2 y7.q3 y7.q4 y7.q5 y7.q6 y7.q7 y7.q8 y7.q9 y7.q10 y7.q11 y7.q12 y7.q13 y7.q14 y7.q15 y7.q16 y7.q17 y7.q18 y7.q19 a0 a1 a2 a3 a4 a5 a6 a7 a8 a9 a10 a11 a12 a13 a14 a15 a16 a17 a18 a19) fun y148 =>
 bif (!y148) then
 (some false)
 else (bif (!((ieq y7.q20 a20) && ((ieq y7.q21 a21) && true))) then
 (some false)
 else (bif (ine (ofN (List.length y7.q22)) (0)) then
 (some false)
 else (Option.bind (F15 FUEL a0 a1 a2 a3 a4 a5 a6 a7 a8 a9 a10 a11 a12 a13 a14 a15 a16 a17 a18 a19 a20 a21 a37) fun y149 =>
 Option.bind (F28 FUEL a0 a1 a2 a3 a4 a5 a6 a7 a8 a9 a10 a11 a12 a13 a14 a15 a16 a17 a18 a19 a37) fun y150 =>
 Option.bind (F14 FUEL y149.q0 y149.q1 y149.q2 y149.q3 y149.q4 y149.q5 y149.q6 y149.q7 y149.q8 y149.q9 y149.q10 y149.q11 y149.q12 y149.q13 y149.q14 y149.q15 y149.q16 y149.q17 y149.q18 y149.q19 y150.q0 y150.q18 y150.q19 y150.q1 y150.q2 y150.q3 y150.q4 y150.q5 y150.q6 y150.q7 y150.q8 y150.q9 y150.q10 y150.q11 y150.q12 y150.q13 y150.q14 y150.q15 y150.q16 y150.q17) fun y151 =>
 bif (!y151) then
 (some false)
 else (bif (!((ieq y149.q20 a20) && ((ieq y149.q21 a21) && true))) then
 (bif (!((ieq y149.q20 (0)) && ((ieq y149.q21 (0)) && true))) then
 (some false)
 else (bif (ine a21 a37) then
 (some false)
 else (bif (ieq a20 (0)) then
 (Option.bind (F8 FUEL) fun y152 =>
 some y152)
 else (bif (ine a21 a37) then
 (Option.bind (F8 FUEL) fun y153 =>
 some y153)
 else (bif ((ieq y149.q20 (0)) && ((ieq y149.q21 (0)) && true)) then
 (Option.bind (F8 FUEL) fun y154 =>
 some y154)
 else (some false))))))
 else (bif (ieq a20 (0)) then
 (Option.bind (F8 FUEL) fun y155 =>
 some y155)
 else (bif (ine a21 a37) then
 (Option.bind (F8 FUEL) fun y156 =>
 some y156)
 else (bif ((ieq y149.q20 (0)) && ((ieq y149.q21 (0)) && true)) then
 (Option.bind (F8 FUEL) fun y157 =>
 some y157)
 else (some false)))))))))
 else (bif (ine a24 a21) then
 (Option.bind (F14 FUEL y7.q0 y7.q1 y7.q2 y7.q3 y7.q4 y7.q5 y7.q6 y7.q7 y7.q8 y7.q9 y7.q10 y7.q11 y7.q12 y7.q13 y7.q14 y7.q15 y7.q16 y7.q17 y7.q18 y7.q19 a0 a1 a2 a3 a4 a5 a6 a7 a8 a9 a10 a11 a12 a13 a14 a15 a16 a17 a18 a19) fun y158 =>
 bif (!y158) then
 (some false)
 else (bif (!((ieq y7.q20 a20) && ((ieq y7.q21 a21) && true))) then
 (some false)
 else (bif (ine (ofN (List.length y7.q22)) (0)) then
 (some false)
 else (Option.bind (F15 FUEL a0 a1 a2 a3 a4 a5 a6 a7 a8 a9 a10 a11 a12 a13 a14 a15 a16 a17 a18 a19 a20 a21 a37) fun y159 =>
 Option.bind (F28 FUEL a0 a1 a2 a3 a4 a5 a6 a7 a8 a9 a10 a11 a12 a13 a14 a15 a16 a17 a18 a19 a37) fun y160 =>
 Option.bind (F14 FUEL y159.q0 y159.q1 y159.q2 y159.q3 y159.q4 y159.q5 y159.q6 y159.q7 y159.q8 y159.q9 y159.q10 y159.q11 y159.q12 y159.q13 y159.q14 y159.q15 y159.q16 y159.q17 y159.q18 y159.q19 y160.q0 y160.q18 y160.q19 y160.q1 y160.q2 y160.q3 y160.q4 y160.q5 y160.q6 y160.q7 y160.q8 y160.q9 y160.q10 y160.q11 y160.q12 y160.q13 y160.q14 y160.q15 y160.q16 y160.q17) fun y161 =>
 bif (!y161) then
 (some false)
 else (bif (!((ieq y159.q20 a20) && ((ieq y159.q21 a21) && true))) then
 (bif (!((ieq y159.q20 (0)) && ((ieq y159.q21 (0)) && true))) then
 (some false)
 else (bif (ine a21 a37) then
 (some false)
 else (bif (ieq a20 (0)) then
 (Option.bind (F8 FUEL) fun y162 =>
 some y162)
 else (bif (ine a21 a37) then
 (Option.bind (F8 FUEL) fun y163 =>
 some y163)
 else (bif ((ieq y159.q20 (0)) && ((ieq y159.q21 (0)) && true)) then
 (Option.bind (F8 FUEL) fun y164 =>
 some y164)
 else (some false))))))
 else (bif (ieq a20 (0)) then
 (Option.bind (F8 FUEL) fun y165 =>
 some y165)
 else (bif (ine a21 a37) then
 (Option.bind (F8 FUEL) fun y166 =>
 some y166)
 else (bif ((ieq y159.q20 (0)) && ((ieq y159.q21 (0)) && true)) then
 (Option.bind (F8 FUEL) fun y167 =>
 some y167)
 else (some false)))))))))
 else (bif (ine a25 a0) then
 (Option.bind (F14 FUEL y7.q0 y7.q1 y7.q2 y7.q3 y7.q4 y7.q5 y7.q6 y7.q7 y7.q8 y7.q9 y7.q10 y7.q11 y7.q12 y7.q13 y7.q14 y7.q15 y7.q16 y7.q17 y7.q18 y7.q19 a0 a1 a2 a3 a4 a5 a6 a7 a8 a9 a10 a11 a12 a13 a14 a15 a16 a17 a18 a19) fun y168 =>
 bif (!y168) then
 (some false)
 else (bif (!((ieq y7.q20 a20) && ((ieq y7.q21 a21) && true))) then
 (some false)
 else (bif (ine (ofN (List.length y7.q22)) (0)) then
 (some false)
 else (Option.bind (F15 FUEL a0 a1 a2 a3 a4 a5 a6 a7 a8 a9 a10 a11 a12 a13 a14 a15 a16 a17 a18 a19 a20 a21 a37) fun y169 =>
 Option.bind (F28 FUEL a0 a1 a2 a3 a4 a5 a6 a7 a8 a9 a10 a11 a12 a13 a14 a15 a16 a17 a18 a19 a37) fun y170 =>
 Option.bind (F14 FUEL y169.q0 y169.q1 y169.q2 y169.q3 y169.q4 y169.q5 y169.q6 y169.q7 y169.q8 y169.q9 y169.q10 y169.q11 y169.q12 y169.q13 y169.q14 y169.q15 y169.q16 y169.q17 y169.q18 y169.q19 y170.q0 y170.q18 y170.q19 y170.q1 y170.q2 y170.q3 y170.q4 y170.q5 y170.q6 y170.q7 y170.q8 y170.q9 y170.q10 y170.q11 y170.q12 y170.q13 y170.q14 y170.q15 y170.q16 y170.q17) fun y171 =>
 bif (!y171) then
 (some false)
 else (bif (!((ieq y169.q20 a20) && ((ieq y169.q21 a21) && true))) then
 (bif (!((ieq y169.q20 (0)) && ((ieq y169.q21 (0)) && true))) then
 (some false)
 else (bif (ine a21 a37) then
 (some false)
 else (bif (ieq a20 (0)) then
 (Option.bind (F8 FUEL) fun y172 =>
 some y172)
 else (bif (ine a21 a37) then
 (Option.bind (F8 FUEL) fun y173 =>
 some y173)
 else (bif ((ieq y169.q20 (0)) && ((ieq y169.q21 (0)) && true)) then
 (Option.bind (F8 FUEL) fun y174 =>
 some y174)
 else (some false))))))
 else (bif (ieq a20 (0)) then
 (Option.bind (F8 FUEL) fun y175 =>
 some y175)
 else (bif (ine a21 a37) then
 (Option.bind (F8 FUEL) fun y176 =>
 some y176)
 else (bif ((ieq y169.q20 (0)) && ((ieq y169.q21 (0)) && true)) then
 (Option.bind (F8 FUEL) fun y177 =>
 some y177)
 else (some false)))))))))
 else (Option.bind (F24 FUEL a22 a23 a24 a25 a26 a27 a28 a29 a30 a31 a32 a33 a34 a35 a36) fun y178 =>
 bif (!y178) then
 (Option.bind (F14 FUEL y7.q0 y7.q1 y7.q2 y7.q3 y7.q4 y7.q5 y7.q6 y7.q7 y7.q8 y7.q9 y7.q10 y7.q11 y7.q12 y7.q13 y7.q14 y7.q15 y7.q16 y7.q17 y7.q18 y7.q19 a0 a1 a2 a3 a4 a5 a6 a7 a8 a9 a10 a11 a12 a13 a14 a15 a16 a17 a18 a19) fun y179 =>
 bif (!y179) then
 (some false)
 else (bif (!((ieq y7.q20 a20) && ((ieq y7.q21 a21) && true))) then
 (some false)
 else (bif (ine (ofN (List.length y7.q22)) (0)) then
 (some false)
 else (Option.bind (F15 FUEL a0 a1 a2 a3 a4 a5 a6 a7 a8 a9 a10 a11 a12 a13 a14 a15 a16 a17 a18 a19 a20 a21 a37) fun y180 =>
 Option.bind (F28 FUEL a0 a1 a2 a3 a4 a5 a6 a7 a8 a9 a10 a11 a12 a13 a14 a15 a16 a17 a18 a19 a37) fun y181 =>
 Option.bind (F14 FUEL y180.q0 y180.q1 y180.q2 y180.q3 y180.q4 y180.q5 y180.q6 y180.q7 y180.q8 y180.q9 y180.q10 y180.q11 y180.q12 y180.q13 y180.q14 y180.q15 y180.q16 y180.q17 y180.q18 y180.q19 y181.q0 y181.q18 y181.q19 y181.q1 y181.q2 y181.q3 y181.q4 y181.q5 y181.q6 y181.q7 y181.q8 y181.q9 y181.q10 y181.q11 y181.q12 y181.q13 y181.q14 y181.q15 y181.q16 y181.q17) fun y182 =>
 bif (!y182) then
 (some false)
 else (bif (!((ieq y180.q20 a20) && ((ieq y180.q21 a21) && true))) then
 (bif (!((ieq y180.q20 (0)) && ((ieq y180.q21 (0)) && true))) then
 (some false)
 else (bif (ine a21 a37) then
 (some false)
 else (bif (ieq a20 (0)) then
 (Option.bind (F8 FUEL) fun y183 =>
 some y183)
 else (bif (ine a21 a37) then
 (Option.bind (F8 FUEL) fun y184 =>
 some y184)
 else (bif ((ieq y180.q20 (0)) && ((ieq y180.q21 (0)) && true)) then
 (Option.bind (F8 FUEL) fun y185 =>
 some y185)
 else (some false))))))
 else (bif (ieq a20 (0)) then
 (Option.bind (F8 FUEL) fun y186 =>
 some y186)
 else (bif (ine a21 a37) then
 (Option.bind (F8 FUEL) fun y187 =>
 some y187)
 else (bif ((ieq y180.q20 (0)) && ((ieq y180.q21 (0)) && true)) then
 (Option.bind (F8 FUEL) fun y188 =>
 some y188)
 else (some false)))))))))
 else (Option.bind (F15 FUEL a0 a1 a2 a3 a4 a5 a6 a7 a8 a9 a10 a11 a12 a13 a14 a15 a16 a17 a18 a19 a20 a21 a37) fun y189 =>
 Option.bind (F28 FUEL a0 a1 a2 a3 a4 a5 a6 a7 a8 a9 a10 a11 a12 a13 a14 a15 a16 a17 a18 a19 a37) fun y190 =>
 Option.bind (F14 FUEL y189.q0 y189.q1 y189.q2 y189.q3 y189.q4 y189.q5 y189.q6 y189.q7 y189.q8 y189.q9 y189.q10 y189.q11 y189.q12 y189.q13 y189.q14 y189.q15 y189.q16 y189.q17 y189.q18 y189.q19 y190.q0 y190.q18 y190.q19 y190.q1 y190.q2 y190.q3 y190.q4 y190.q5 y190.q6 y190.q7 y190.q8 y190.q9 y190.q10 y190.q11 y190.q12 y190.q13 y190.q14 y190.q15 y190.q16 y190.q17) fun y191 =>
 bif (!y191) then
 (some false)
 else (bif (!((ieq y189.q20 a20) && ((ieq y189.q21 a21) && true))) then
 (bif (!((ieq y189.q20 (0)) && ((ieq y189.q21 (0)) && true))) then
 (some false)
 else (bif (ine a21 a37) then
 (some false)
 else (bif (ieq a20 (0)) then
 (Option.bind (F8 FUEL) fun y192 =>
 some y192)
 else (bif (ine a21 a37) then
 (Option.bind (F8 FUEL) fun y193 =>
 some y193)
 else (bif ((ieq y189.q20 (0)) && ((ieq y189.q21 (0)) && true)) then
 (Option.bind (F8 FUEL) fun y194 =>
 some y194)
 else (some false))))))
 else (bif (ieq a20 (0)) then
 (Option.bind (F8 FUEL) fun y195 =>
 some y195)
 else (bif (ine a21 a37) then
 (Option.bind (F8 FUEL) fun y196 =>
 some y196)
 else (bif ((ieq y189.q20 (0)) && ((ieq y189.q21 (0)) && true)) then
 (Option.bind (F8 FUEL) fun y197 =>
 some y197)
 else (some false))))))))))
 else (Option.bind (F14 FUEL y7.q0 y7.q1 y7.q2 y7.q3 y7.q4 y7.q5 y7.q6 y7.q7 y7.q8 y7.q9 y7.q10 y7.q11 y7.q12 y7.q13 y7.q14 y7.q15 y7.q16 y7.q17 y7.q18 y7.q19 a0 a1 a2 a3 a4 a5 a6 a7 a8 a9 a10 a11 a12 a13 a14 a15 a16 a17 a18 a19) fun y198 =>
 bif (!y198) then
 (some false)
 else (bif (!((ieq y7.q20 a20) && ((ieq y7.q21 a21) && true))) then
 (some false)
 else (bif (ine (ofN (List.length y7.q22)) (0)) then
 (some false)
 else (Option.bind (F15 FUEL a0 a1 a2 a3 a4 a5 a6 a7 a8 a9 a10 a11 a12 a13 a14 a15 a16 a17 a18 a19 a20 a21 a37) fun y199 =>
 Option.bind (F28 FUEL a0 a1 a2 a3 a4 a5 a6 a7 a8 a9 a10 a11 a12 a13 a14 a15 a16 a17 a18 a19 a37) fun y200 =>
 Option.bind (F14 FUEL y199.q0 y199.q1 y199.q2 y199.q3 y199.q4 y199.q5 y199.q6 y199.q7 y199.q8 y199.q9 y199.q10 y199.q11 y199.q12 y199.q13 y199.q14 y199.q15 y199.q16 y199.q17 y199.q18 y199.q19 y200.q0 y200.q18 y200.q19 y200.q1 y200.q2 y200.q3 y200.q4 y200.q5 y200.q6 y200.q7 y200.q8 y200.q9 y200.q10 y200.q11 y200.q12 y200.q13 y200.q14 y200.q15 y200.q16 y200.q17) fun y201 =>
 bif (!y201) then
 (some false)
 else (bif (!((ieq y199.q20 a20) && ((ieq y199.q21 a21) && true))) then
 (bif (!((ieq y199.q20 (0)) && ((ieq y199.q21 (0)) && true))) then
 (some false)
 else (bif (ine a21 a37) then
 (some false)
 else (bif (ieq a20 (0)) then
 (Option.bind (F8 FUEL) fun y202 =>
 some y202)
 else (bif (ine a21 a37) then
 (Option.bind (F8 FUEL) fun y203 =>
 some y203)
 else (bif ((ieq y199.q20 (0)) && ((ieq y199.q21 (0)) && true)) then
 (Option.bind (F8 FUEL) fun y204 =>
 some y204)
 else (some false))))))
 else (bif (ieq a20 (0)) then
 (Option.bind (F8 FUEL) fun y205 =>
 some y205)
 else (bif (ine a21 a37) then
 (Option.bind (F8 FUEL) fun y206 =>
 some y206)
 else (bif ((ieq y199.q20 (0)) && ((ieq y199.q21 (0)) && true)) then
 (Option.bind (F8 FUEL) fun y207 =>
 some y207)
 else (some false)))))))))))))

end Go.Proofs.YtjlihanmpblkiaaDoor
