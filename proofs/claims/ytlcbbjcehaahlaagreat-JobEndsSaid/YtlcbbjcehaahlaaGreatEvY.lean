/-
  What the functions of this program compute, in plain words.
-/
import Derived.Test.YtlcbbjcehaahlaaGreatEvR
namespace Go.Proofs.YtlcbbjcehaahlaaGreat
open Go Go.RowKit
set_option maxRecDepth 100000
def F6 (_n : Nat) (_a0 : Int) (a1 a2 : List (Int)) (_a3 _a4 _a5 _a6 _a7 _a8 _a9 _a10 _a11 _a12 _a13 _a14 _a15 _a16 _a17 _a18 _a19 : Int) : Option (Bool) :=
  bif (igt (ofN (List.length a1)) (20)) then
 (some true)
 else (some (igt (ofN (List.length a2)) (20)))
def F18 (_n : Nat) (a0 : Int) : Option (Bool) :=
  bif (ige a0 (0)) then
 (some (ilt a0 (65536)))
 else (some false)
def F37 (_n : Nat) (a0 : Int) : Option (Bool) :=
  bif (ige a0 (0)) then
 (some (ilt a0 (65536)))
 else (some false)
def F38 (_n : Nat) (a0 : Int) : Option (Int) :=
  bif (inz (65536)) then
 (bif (inz (65536)) then
 (some (irem (iadd .i64 (irem a0 (65536)) (65536)) (65536)))
 else (none))
 else (none)
def F75 (_n : Nat) (a0 a1 : Int) : Option (Int) :=
  Option.bind (F38 FUEL a1) fun y1 =>
 Option.bind (F38 FUEL a0) fun y2 =>
 Option.bind (F38 FUEL (isub .i64 y1 y2)) fun y3 =>
 some y3
def F39 (_n : Nat) (a0 a1 a2 : Int) : Option (Bool) :=
  Option.bind (F75 FUEL a0 a2) fun y1 =>
 Option.bind (F75 FUEL a0 a1) fun y2 =>
 some (igt y1 y2)
def F19_c0 : Nat → Int → List (Int) → Int → Option (Bool)
  | 0, _, _, _ => none
  | n + 1, x0, x1, x2 => bif (ilt x2 (ofN (List.length x1))) then
 (bif (inb x2 (List.length x1)) then
 (Option.bind (F37 FUEL (List.getD x1 (Int.toNat x2) 0)) fun y1 =>
 bif (!y1) then
 (some false)
 else (bif (inb x2 (List.length x1)) then
 (Option.bind (F38 FUEL x0) fun y2 =>
 bif (ieq (List.getD x1 (Int.toNat x2) 0) y2) then
 (some false)
 else (bif (igt x2 (0)) then
 (bif (inb (isub .i64 x2 (1)) (List.length x1)) then
 (bif (inb x2 (List.length x1)) then
 (Option.bind (F39 FUEL x0 (List.getD x1 (Int.toNat (isub .i64 x2 (1))) 0) (List.getD x1 (Int.toNat x2) 0)) fun y3 =>
 bif (!y3) then
 (some false)
 else (F19_c0 n x0 x1 (iadd .i64 x2 (1))))
 else (none))
 else (none))
 else (F19_c0 n x0 x1 (iadd .i64 x2 (1)))))
 else (none)))
 else (none))
 else (some (ile (ofN (List.length x1)) (3)))
def F19 (n : Nat) (a0 : Int) (a1 : List (Int)) : Option (Bool) :=
  F19_c0 n a0 a1 (0)
def F20 (_n : Nat) (a0 : Int) (_a1 _a2 : List (Int)) (_a3 _a4 _a5 _a6 _a7 _a8 _a9 _a10 _a11 _a12 _a13 _a14 _a15 _a16 _a17 _a18 _a19 a20 : Int) : Option (Bool) :=
  bif (ieq a20 (-1)) then
 (some true)
 else (Option.bind (F18 FUEL a20) fun y1 =>
 bif y1 then
 (some (ine a20 a0))
 else (some false))
mutual
def F7_c0 : Nat → Int → Int → List (Int) → List (Int) → Int → Int → Int → Int → Int → Int → Int → Int → Int → Int → Int → Int → Int → Int → Int → Int → Int → Option (Bool)
  | 0, _, _, _, _, _, _, _, _, _, _, _, _, _, _, _, _, _, _, _, _, _ => none
  | n + 1, x0, x1, x2, x3, x4, x5, x6, x7, x8, x9, x10, x11, x12, x13, x14, x15, x16, x17, x18, x19, x20 => bif (ilt x0 (ofN (List.length x2))) then
 (bif (inb x0 (List.length x2)) then
 (Option.bind (F18 FUEL (List.getD x2 (Int.toNat x0) 0)) fun y4 =>
 bif (!y4) then
 (some false)
 else (bif (igt x0 (0)) then
 (bif (inb x0 (List.length x2)) then
 (bif (inb (isub .i64 x0 (1)) (List.length x2)) then
 (bif (ile (List.getD x2 (Int.toNat x0) 0) (List.getD x2 (Int.toNat (isub .i64 x0 (1))) 0)) then
 (some false)
 else (F7_c0 n (iadd .i64 x0 (1)) x1 x2 x3 x4 x5 x6 x7 x8 x9 x10 x11 x12 x13 x14 x15 x16 x17 x18 x19 x20))
 else (none))
 else (none))
 else (F7_c0 n (iadd .i64 x0 (1)) x1 x2 x3 x4 x5 x6 x7 x8 x9 x10 x11 x12 x13 x14 x15 x16 x17 x18 x19 x20)))
 else (none))
 else (F7_c1 n (0) x1 x2 x3 x4 x5 x6 x7 x8 x9 x10 x11 x12 x13 x14 x15 x16 x17 x18 x19 x20)
def F7_c1 : Nat → Int → Int → List (Int) → List (Int) → Int → Int → Int → Int → Int → Int → Int → Int → Int → Int → Int → Int → Int → Int → Int → Int → Int → Option (Bool)
  | 0, _, _, _, _, _, _, _, _, _, _, _, _, _, _, _, _, _, _, _, _, _ => none
  | n + 1, x0, x1, x2, x3, x4, x5, x6, x7, x8, x9, x10, x11, x12, x13, x14, x15, x16, x17, x18, x19, x20 => bif (ilt x0 (16)) then
 (bif (inb x0 16) then
 (bif (nlt (Int.toNat x0) 16) then
 (Option.bind (F20 FUEL x1 x2 x3 x4 x5 x6 x7 x8 x9 x10 x11 x12 x13 x14 x15 x16 x17 x18 x19 x20 (List.getD [x5, x6, x7, x8, x9, x10, x11, x12, x13, x14, x15, x16, x17, x18, x19, x20] (Int.toNat x0) 0)) fun y5 =>
 bif (!y5) then
 (some false)
 else (F7_c1 n (iadd .i64 x0 (1)) x1 x2 x3 x4 x5 x6 x7 x8 x9 x10 x11 x12 x13 x14 x15 x16 x17 x18 x19 x20))
 else (none))
 else (none))
 else (some true)
end
def F7 (n : Nat) (a0 : Int) (a1 a2 : List (Int)) (a3 a4 a5 a6 a7 a8 a9 a10 a11 a12 a13 a14 a15 a16 a17 a18 a19 : Int) : Option (Bool) :=
  Option.bind (F18 FUEL a0) fun y1 =>
 bif (!y1) then
 (some false)
 else (bif (ilt (ofN (List.length a1)) (2)) then
 (some false)
 else (bif (igt (ofN (List.length a1)) (4)) then
 (some false)
 else (Option.bind (F19 FUEL a0 a2) fun y2 =>
 bif (!y2) then
 (some false)
 else (Option.bind (F20 FUEL a0 a1 a2 a3 a4 a5 a6 a7 a8 a9 a10 a11 a12 a13 a14 a15 a16 a17 a18 a19 a3) fun y3 =>
 bif (!y3) then
 (some false)
 else (F7_c0 n (0) a0 a1 a2 a3 a4 a5 a6 a7 a8 a9 a10 a11 a12 a13 a14 a15 a16 a17 a18 a19)))))
structure Si19l where
  q0 : Int
  q1 : Int
  q2 : Int
  q3 : Int
  q4 : Int
  q5 : Int
  q6 : Int
  q7 : Int
  q8 : Int
  q9 : Int
  q10 : Int
  q11 : Int
  q12 : Int
  q13 : Int
  q14 : Int
  q15 : Int
  q16 : Int
  q17 : Int
  q18 : Int
  q19 : List (Int)
def F40_c0 : Nat → Int → Int → Int → Int → Int → Int → Int → Int → Int → Int → Int → Int → Int → Int → Int → Int → Int → Int → Int → Int → Int → Int → Int → Int → Int → Int → Int → Int → Int → Int → Int → Int → Int → Int → Int → Int → Int → List (Int) → Option (Si19l)
  | 0, _, _, _, _, _, _, _, _, _, _, _, _, _, _, _, _, _, _, _, _, _, _, _, _, _, _, _, _, _, _, _, _, _, _, _, _, _, _ => none
  | n + 1, x0, x1, x2, x3, x4, x5, x6, x7, x8, x9, x10, x11, x12, x13, x14, x15, x16, x17, x18, x19, x20, x21, x22, x23, x24, x25, x26, x27, x28, x29, x30, x31, x32, x33, x34, x35, x36, x37 => bif (ilt x0 (16)) then
 (bif (inb x0 16) then
 (bif (nlt (Int.toNat x0) 16) then
 (F40_c0 n (iadd .i64 x0 (1)) x1 x2 x3 x4 x5 x6 x7 x8 x9 x10 x11 x12 x13 x14 x15 x16 x17 x18 x19 x20 (List.getD (List.set [x21, x22, x23, x24, x25, x26, x27, x28, x29, x30, x31, x32, x33, x34, x35, x36] (Int.toNat x0) (-1)) 0 0) (List.getD (List.set [x21, x22, x23, x24, x25, x26, x27, x28, x29, x30, x31, x32, x33, x34, x35, x36] (Int.toNat x0) (-1)) 1 0) (List.getD (List.set [x21, x22, x23, x24, x25, x26, x27, x28, x29, x30, x31, x32, x33, x34, x35, x36] (Int.toNat x0) (-1)) 2 0) (List.getD (List.set [x21, x22, x23, x24, x25, x26, x27, x28, x29, x30, x31, x32, x33, x34, x35, x36] (Int.toNat x0) (-1)) 3 0) (List.getD (List.set [x21, x22, x23, x24, x25, x26, x27, x28, x29, x30, x31, x32, x33, x34, x35, x36] (Int.toNat x0) (-1)) 4 0) (List.getD (List.set [x21, x22, x23, x24, x25, x26, x27, x28, x29, x30, x31, x32, x33, x34, x35, x36] (Int.toNat x0) (-1)) 5 0) (List.getD (List.set [x21, x22, x23, x24, x25, x26, x27, x28, x29, x30, x31, x32, x33, x34, x35, x36] (Int.toNat x0) (-1)) 6 0) (List.getD (List.set [x21, x22, x23, x24, x25, x26, x27, x28, x29, x30, x31, x32, x33, x34, x35, x36] (Int.toNat x0) (-1)) 7 0) (List.getD (List.set [x21, x22, x23, x24, x25, x26, x27, x28, x29, x30, x31, x32, x33, x34, x35, x36] (Int.toNat x0) (-1)) 8 0) (List.getD (List.set [x21, x22, x23, x24, x25, x26, x27, x28, x29, x30, x31, x32, x33, x34, x35, x36] (Int.toNat x0) (-1)) 9 0) (List.getD (List.set [x21, x22, x23, x24, x25, x26, x27, x28, x29, x30, x31, x32, x33, x34, x35, x36] (Int.toNat x0) (-1)) 10 0) (List.getD (List.set [x21, x22, x23, x24, x25, x26, x27, x28, x29, x30, x31, x32, x33, x34, x35, x36] (Int.toNat x0) (-1)) 11 0) (List.getD (List.set [x21, x22, x23, x24, x25, x26, x27, x28, x29, x30, x31, x32, x33, x34, x35, x36] (Int.toNat x0) (-1)) 12 0) (List.getD (List.set [x21, x22, x23, x24, x25, x26, x27, x28, x29, x30, x31, x32, x33, x34, x35, x36] (Int.toNat x0) (-1)) 13 0) (List.getD (List.set [x21, x22, x23, x24, x25, x26, x27, x28, x29, x30, x31, x32, x33, x34, x35, x36] (Int.toNat x0) (-1)) 14 0) (List.getD (List.set [x21, x22, x23, x24, x25, x26, x27, x28, x29, x30, x31, x32, x33, x34, x35, x36] (Int.toNat x0) (-1)) 15 0) x37)
 else (none))
 else (none))
 else (Option.bind (F7 FUEL x19 x37 [] x20 x21 x22 x23 x24 x25 x26 x27 x28 x29 x30 x31 x32 x33 x34 x35 x36) fun y1 =>
 bif (!y1) then
 (some ⟨(0), (0), (0), (0), (0), (0), (0), (0), (0), (0), (0), (0), (0), (0), (0), (0), (0), (0), (2), []⟩)
 else (some ⟨x19, x20, x21, x22, x23, x24, x25, x26, x27, x28, x29, x30, x31, x32, x33, x34, x35, x36, (0), x37⟩))
def F40 (n : Nat) (a0 : Int) (a1 : List (Int)) : Option (Si19l) :=
  bif (room (0 + List.length a1) 8) then
 (F40_c0 n (0) (0) (0) (0) (0) (0) (0) (0) (0) (0) (0) (0) (0) (0) (0) (0) (0) (0) (0) a0 (-1) (0) (0) (0) (0) (0) (0) (0) (0) (0) (0) (0) (0) (0) (0) (0) (0) ([] ++ a1))
 else (none)
structure Si18l2 where
  q0 : Int
  q1 : Int
  q2 : Int
  q3 : Int
  q4 : Int
  q5 : Int
  q6 : Int
  q7 : Int
  q8 : Int
  q9 : Int
  q10 : Int
  q11 : Int
  q12 : Int
  q13 : Int
  q14 : Int
  q15 : Int
  q16 : Int
  q17 : Int
  q18 : List (Int)
  q19 : List (Int)
def F76 (_n : Nat) (a0 : Int) (a1 a2 : List (Int)) (a3 a4 a5 a6 a7 a8 a9 a10 a11 a12 a13 a14 a15 a16 a17 a18 a19 : Int) : Option (Si18l2) :=
  bif (room (0 + List.length a1) 8) then
 (bif (room (0 + List.length a2) 8) then
 (some ⟨a0, a3, a4, a5, a6, a7, a8, a9, a10, a11, a12, a13, a14, a15, a16, a17, a18, a19, ([] ++ a1), ([] ++ a2)⟩)
 else (none))
 else (none)
def F41 (_n : Nat) (a0 : Int) (a1 a2 : List (Int)) (a3 a4 a5 a6 a7 a8 a9 a10 a11 a12 a13 a14 a15 a16 a17 a18 a19 : Int) (a20 : List (Int)) : Option (Si18l2) :=
  Option.bind (F76 FUEL a0 a1 a2 a3 a4 a5 a6 a7 a8 a9 a10 a11 a12 a13 a14 a15 a16 a17 a18 a19) fun y1 =>
 Option.bind (F7 FUEL y1.q0 y1.q18 y1.q19 y1.q1 y1.q2 y1.q3 y1.q4 y1.q5 y1.q6 y1.q7 y1.q8 y1.q9 y1.q10 y1.q11 y1.q12 y1.q13 y1.q14 y1.q15 y1.q16 y1.q17) fun y2 =>
 bif y2 then
 (Option.bind (F19 FUEL y1.q0 a20) fun y3 =>
 bif y3 then
 (bif (room (0 + List.length a20) 8) then
 (some ⟨y1.q0, y1.q1, y1.q2, y1.q3, y1.q4, y1.q5, y1.q6, y1.q7, y1.q8, y1.q9, y1.q10, y1.q11, y1.q12, y1.q13, y1.q14, y1.q15, y1.q16, y1.q17, y1.q18, ([] ++ a20)⟩)
 else (none))
 else (some ⟨y1.q0, y1.q1, y1.q2, y1.q3, y1.q4, y1.q5, y1.q6, y1.q7, y1.q8, y1.q9, y1.q10, y1.q11, y1.q12, y1.q13, y1.q14, y1.q15, y1.q16, y1.q17, y1.q18, y1.q19⟩))
 else (some ⟨y1.q0, y1.q1, y1.q2, y1.q3, y1.q4, y1.q5, y1.q6, y1.q7, y1.q8, y1.q9, y1.q10, y1.q11, y1.q12, y1.q13, y1.q14, y1.q15, y1.q16, y1.q17, y1.q18, y1.q19⟩)
def F21 (_n : Nat) : Option (Si18l2) :=
  Option.bind (F40 FUEL (9) [(20), (40)]) fun y1 =>
 Option.bind (F41 FUEL y1.q0 y1.q19 [] y1.q1 y1.q2 y1.q3 y1.q4 y1.q5 y1.q6 y1.q7 y1.q8 y1.q9 y1.q10 y1.q11 y1.q12 y1.q13 y1.q14 y1.q15 y1.q16 y1.q17 [(20)]) fun y2 =>
 some ⟨y2.q0, y2.q1, y2.q2, y2.q3, y2.q4, y2.q5, y2.q6, y2.q7, y2.q8, y2.q9, y2.q10, y2.q11, y2.q12, y2.q13, y2.q14, y2.q15, y2.q16, y2.q17, y2.q18, y2.q19⟩
def F97 (_n : Nat) (a0 : Int) : Option (Int) :=
  some (bits .and .i64 a0 (65535))
def F99 (_n : Nat) (a0 a1 : Int) : Option (Int) :=
  Option.bind (F97 FUEL a0) fun y1 =>
 Option.bind (F97 FUEL (iadd .i64 (iadd .i64 (imul .i64 (40503) y1) (IntKind.wrap .i64 a1)) (1))) fun y2 =>
 some y2
def F77_c0 : Nat → Int → Int → ByteArray → Int → Option (Int)
  | 0, _, _, _, _ => none
  | n + 1, x0, x1, x2, x3 => bif (ilt x1 x0) then
 (bif (inb x1 (ByteArray.size x2)) then
 (Option.bind (F99 FUEL x3 (stat x2 x1)) fun y2 =>
 F77_c0 n x0 (iadd .i64 x1 (1)) x2 y2)
 else (none))
 else (some x3)
def F77 (n : Nat) (a0 : Int) (a1 : ByteArray) : Option (Int) :=
  Option.bind (F97 FUEL a0) fun y1 =>
 F77_c0 n (stlen a1) (0) a1 y1
def F44_c0 : Nat → Option (Int × Int)
  | 0 => none
  | _ + 1 => some ((0), (2))
def F44 (n : Nat) (a0 : ByteArray) : Option (Int × Int) :=
  bif (ilt (stlen a0) (1)) then
 (F44_c0 n )
 else (bif (igt (stlen a0) (20)) then
 (F44_c0 n )
 else (Option.bind (F77 FUEL (7) a0) fun y1 =>
 some (y1, (0))))
def F78 (_n : Nat) (a0 : ByteArray) : Option (Bool) :=
  bif (ige (stlen a0) (1)) then
 (some (ile (stlen a0) (20)))
 else (some false)
def F79 (_n : Nat) (a0 : Int) : Option (Bool) :=
  bif (ige a0 (0)) then
 (some (ile a0 (1048576)))
 else (some false)
def F45 (_n : Nat) (a0 : ByteArray) (a1 a2 : Int) (_a3 : Bool) : Option (Bool) :=
  Option.bind (F78 FUEL a0) fun y1 =>
 bif y1 then
 (Option.bind (F79 FUEL a1) fun y2 =>
 bif y2 then
 (Option.bind (F79 FUEL a2) fun y3 =>
 some y3)
 else (some false))
 else (some false)
structure Sisi2b2 where
  q0 : Int
  q1 : ByteArray
  q2 : Int
  q3 : Int
  q4 : Bool
  q5 : Bool
def F25 (_n : Nat) (a0 a1 : Int) (a2 : ByteArray) (a3 a4 : Int) (a5 : Bool) : Option (Sisi2b2) :=
  bif (ieq a0 (1)) then
 (bif (ige a1 (0)) then
 (some ⟨a1, ByteArray.empty, (0), (0), false, (ilt a1 (65536))⟩)
 else (some ⟨a1, ByteArray.empty, (0), (0), false, false⟩))
 else (bif (ieq a0 (2)) then
 (Option.bind (F44 FUEL a2) fun y1 =>
 bif (ieq y1.2 (0)) then
 (Option.bind (F45 FUEL a2 a3 a4 a5) fun y2 =>
 some ⟨y1.1, a2, a3, a4, a5, y2⟩)
 else (some ⟨y1.1, a2, a3, a4, a5, false⟩))
 else (bif (ieq a0 (3)) then
 (Option.bind (F44 FUEL a2) fun y3 =>
 some ⟨y3.1, a2, (0), (0), false, (ieq y3.2 (0))⟩)
 else (some ⟨(0), ByteArray.empty, (0), (0), false, false⟩)))
def F46 (_n : Nat) (a0 : Int) : Option (Bool) :=
  bif (ige a0 (0)) then
 (some (ilt a0 (65536)))
 else (some false)
def F47_c0 : Nat → List (Int) → List (Int) → Int → Int → Option (Bool)
  | 0, _, _, _, _ => none
  | n + 1, x0, x1, x2, x3 => bif (ilt x3 x2) then
 (bif (inb x3 (List.length x1)) then
 (Option.bind (F46 FUEL (List.getD x1 (Int.toNat x3) 0)) fun y1 =>
 bif (!y1) then
 (some false)
 else (bif (igt x3 (0)) then
 (bif (inb (isub .i64 x3 (1)) (List.length x0)) then
 (bif (ile (List.getD x1 (Int.toNat x3) 0) (List.getD x0 (Int.toNat (isub .i64 x3 (1))) 0)) then
 (some false)
 else (F47_c0 n x0 x1 x2 (iadd .i64 x3 (1))))
 else (none))
 else (F47_c0 n x0 x1 x2 (iadd .i64 x3 (1)))))
 else (none))
 else (some true)
def F47 (n : Nat) (a0 : List (Int)) : Option (Bool) :=
  bif (ilt (ofN (List.length a0)) (2)) then
 (some false)
 else (bif (igt (ofN (List.length a0)) (4)) then
 (some false)
 else (F47_c0 n a0 a0 (ofN (List.length a0)) (0)))
def F50 (_n : Nat) (a0 : Int) : Option (Int) :=
  some (bits .and .i64 a0 (65535))
def F81 (_n : Nat) (a0 : Int) : Option (Bool) :=
  bif (ige a0 (0)) then
 (some (ilt a0 (65536)))
 else (some false)
def F82 (_n : Nat) (a0 a1 : Int) : Option (Int) :=
  Option.bind (F50 FUEL a1) fun y1 =>
 Option.bind (F50 FUEL a0) fun y2 =>
 Option.bind (F50 FUEL (isub .i64 y1 y2)) fun y3 =>
 some y3
def F48_c0 : Nat → Int → List (Int) → Int → Int → Int → Bool → Option (Bool)
  | 0, _, _, _, _, _, _ => none
  | n + 1, x0, x1, x2, x3, x4, x5 => bif (ilt x3 x2) then
 (bif (inb x3 (List.length x1)) then
 (Option.bind (F81 FUEL (List.getD x1 (Int.toNat x3) 0)) fun y2 =>
 bif (!y2) then
 (some false)
 else (Option.bind (F82 FUEL x4 (List.getD x1 (Int.toNat x3) 0)) fun y3 =>
 Option.bind (F82 FUEL x4 x0) fun y4 =>
 bif (ile y3 y4) then
 (some false)
 else (F48_c0 n (List.getD x1 (Int.toNat x3) 0) x1 x2 (iadd .i64 x3 (1)) x4 x5)))
 else (none))
 else (some true)
def F48 (n : Nat) (a0 : Int) (a1 : List (Int)) : Option (Bool) :=
  bif (igt (ofN (List.length a1)) (3)) then
 (some false)
 else (Option.bind (F50 FUEL a0) fun y1 =>
 F48_c0 n y1 a1 (ofN (List.length a1)) (0) y1 false)
mutual
def F26_c0 : Nat → Option (Bool)
  | 0 => none
  | _ + 1 => some false
def F26_c1 : Nat → Int → Int → Int → Int → Int → Int → Int → Int → Int → Int → Int → Int → Int → Int → Int → Int → Int → Int → List (Int) → List (Int) → Int → Int → Int → Int → Int → Int → Int → Int → Int → Int → Int → Int → Int → Int → Int → Int → Int → Option (Bool)
  | 0, _, _, _, _, _, _, _, _, _, _, _, _, _, _, _, _, _, _, _, _, _, _, _, _, _, _, _, _, _, _, _, _, _, _, _, _, _ => none
  | n + 1, x0, x1, x2, x3, x4, x5, x6, x7, x8, x9, x10, x11, x12, x13, x14, x15, x16, x17, x18, x19, x20, x21, x22, x23, x24, x25, x26, x27, x28, x29, x30, x31, x32, x33, x34, x35, x36 => bif (ilt x16 (16)) then
 (bif (inb x16 16) then
 (bif (ine (List.getD [x0, x1, x2, x3, x4, x5, x6, x7, x8, x9, x10, x11, x12, x13, x14, x15] (Int.toNat x16) 0) (-1)) then
 (Option.bind (F46 FUEL (List.getD [x0, x1, x2, x3, x4, x5, x6, x7, x8, x9, x10, x11, x12, x13, x14, x15] (Int.toNat x16) 0)) fun y5 =>
 bif (!y5) then
 (F26_c0 n )
 else (bif (ieq (List.getD [x0, x1, x2, x3, x4, x5, x6, x7, x8, x9, x10, x11, x12, x13, x14, x15] (Int.toNat x16) 0) x17) then
 (F26_c0 n )
 else (F26_c1 n x0 x1 x2 x3 x4 x5 x6 x7 x8 x9 x10 x11 x12 x13 x14 x15 (iadd .i64 x16 (1)) x17 x18 x19 x20 x21 x22 x23 x24 x25 x26 x27 x28 x29 x30 x31 x32 x33 x34 x35 x36)))
 else (F26_c1 n x0 x1 x2 x3 x4 x5 x6 x7 x8 x9 x10 x11 x12 x13 x14 x15 (iadd .i64 x16 (1)) x17 x18 x19 x20 x21 x22 x23 x24 x25 x26 x27 x28 x29 x30 x31 x32 x33 x34 x35 x36))
 else (none))
 else (some true)
end
def F26 (n : Nat) (a0 : Int) (a1 a2 : List (Int)) (a3 a4 a5 a6 a7 a8 a9 a10 a11 a12 a13 a14 a15 a16 a17 a18 a19 : Int) : Option (Bool) :=
  Option.bind (F46 FUEL a0) fun y1 =>
 bif (!y1) then
 (F26_c0 n )
 else (Option.bind (F47 FUEL a1) fun y2 =>
 bif (!y2) then
 (F26_c0 n )
 else (Option.bind (F48 FUEL a0 a2) fun y3 =>
 bif (!y3) then
 (F26_c0 n )
 else (bif (ine a3 (-1)) then
 (Option.bind (F46 FUEL a3) fun y4 =>
 bif (!y4) then
 (F26_c0 n )
 else (bif (ieq a3 a0) then
 (F26_c0 n )
 else (F26_c1 n a4 a5 a6 a7 a8 a9 a10 a11 a12 a13 a14 a15 a16 a17 a18 a19 (0) a0 a1 a2 a3 a4 a5 a6 a7 a8 a9 a10 a11 a12 a13 a14 a15 a16 a17 a18 a19)))
 else (F26_c1 n a4 a5 a6 a7 a8 a9 a10 a11 a12 a13 a14 a15 a16 a17 a18 a19 (0) a0 a1 a2 a3 a4 a5 a6 a7 a8 a9 a10 a11 a12 a13 a14 a15 a16 a17 a18 a19))))
def F111_c0 : Nat → List (Int) → Int → Int → Int → Bool → Option (Int × Bool)
  | 0, _, _, _, _, _ => none
  | _ + 1, x0, x1, x2, _, _ => bif (ilt x2 x1) then
 (bif (inb x2 (List.length x0)) then
 (some ((List.getD x0 (Int.toNat x2) 0), true))
 else (none))
 else (some ((0), false))
def F111 (n : Nat) (a0 : List (Int)) : Option (Int × Bool) :=
  F111_c0 n a0 (ofN (List.length a0)) (0) (0) false
def F112_c0 : Nat → Int → List (Int) → Int → Int → Int → List (Int) → List (Int) → Int → Int → Int → Int → Int → Int → Int → Int → Int → Int → Int → Int → Int → Int → Int → Int → Int → Option (Int)
  | 0, _, _, _, _, _, _, _, _, _, _, _, _, _, _, _, _, _, _, _, _, _, _, _, _ => none
  | n + 1, x0, x1, x2, x3, x4, x5, x6, x7, x8, x9, x10, x11, x12, x13, x14, x15, x16, x17, x18, x19, x20, x21, x22, x23 => bif (ilt x3 x2) then
 (bif (inb x3 (List.length x1)) then
 (bif (ine (List.getD x1 (Int.toNat x3) 0) x4) then
 (bif (ilt x0 (0)) then
 (F112_c0 n (List.getD x1 (Int.toNat x3) 0) x1 x2 (iadd .i64 x3 (1)) x4 x5 x6 x7 x8 x9 x10 x11 x12 x13 x14 x15 x16 x17 x18 x19 x20 x21 x22 x23)
 else (Option.bind (F82 FUEL x4 (List.getD x1 (Int.toNat x3) 0)) fun y1 =>
 Option.bind (F82 FUEL x4 x0) fun y2 =>
 bif (ilt y1 y2) then
 (F112_c0 n (List.getD x1 (Int.toNat x3) 0) x1 x2 (iadd .i64 x3 (1)) x4 x5 x6 x7 x8 x9 x10 x11 x12 x13 x14 x15 x16 x17 x18 x19 x20 x21 x22 x23)
 else (F112_c0 n x0 x1 x2 (iadd .i64 x3 (1)) x4 x5 x6 x7 x8 x9 x10 x11 x12 x13 x14 x15 x16 x17 x18 x19 x20 x21 x22 x23)))
 else (F112_c0 n x0 x1 x2 (iadd .i64 x3 (1)) x4 x5 x6 x7 x8 x9 x10 x11 x12 x13 x14 x15 x16 x17 x18 x19 x20 x21 x22 x23))
 else (none))
 else (some x0)
def F112 (n : Nat) (a0 : Int) (a1 a2 : List (Int)) (a3 a4 a5 a6 a7 a8 a9 a10 a11 a12 a13 a14 a15 a16 a17 a18 a19 : Int) : Option (Int) :=
  F112_c0 n (-1) a1 (ofN (List.length a1)) (0) a0 a1 a2 a3 a4 a5 a6 a7 a8 a9 a10 a11 a12 a13 a14 a15 a16 a17 a18 a19
def F101 (_n : Nat) (a0 : Int) (a1 a2 : List (Int)) (a3 a4 a5 a6 a7 a8 a9 a10 a11 a12 a13 a14 a15 a16 a17 a18 a19 : Int) : Option (Int) :=
  Option.bind (F26 FUEL a0 a1 a2 a3 a4 a5 a6 a7 a8 a9 a10 a11 a12 a13 a14 a15 a16 a17 a18 a19) fun y1 =>
 bif (!y1) then
 (some (-1))
 else (Option.bind (F111 FUEL a2) fun y2 =>
 bif y2.2 then
 (some y2.1)
 else (Option.bind (F112 FUEL a0 a1 a2 a3 a4 a5 a6 a7 a8 a9 a10 a11 a12 a13 a14 a15 a16 a17 a18 a19) fun y3 =>
 some y3))
def F113 (_n : Nat) (a0 a1 a2 : Int) : Option (Bool) :=
  Option.bind (F82 FUEL a0 a1) fun y1 =>
 Option.bind (F82 FUEL a0 a2) fun y2 =>
 bif (ieq y2 (0)) then
 (some (igt y1 (0)))
 else (bif (igt y1 (0)) then
 (some (ilt y1 y2))
 else (some false))
def F102 (_n : Nat) (a0 a1 a2 : Int) : Option (Bool) :=
  Option.bind (F113 FUEL a0 a1 a2) fun y1 =>
 bif y1 then
 (some true)
 else (Option.bind (F50 FUEL a1) fun y2 =>
 Option.bind (F50 FUEL a2) fun y3 =>
 some (ieq y2 y3))
mutual
def F85_c0 : Nat → List (Int) → Int → Int → Int → List (Int) → List (Int) → Int → Int → Int → Int → Int → Int → Int → Int → Int → Int → Int → Int → Int → Int → Int → Int → Int → Int → Int → Int → Option (Int × Bool)
  | 0, _, _, _, _, _, _, _, _, _, _, _, _, _, _, _, _, _, _, _, _, _, _, _, _, _, _ => none
  | n + 1, x0, x1, x2, x3, x4, x5, x6, x7, x8, x9, x10, x11, x12, x13, x14, x15, x16, x17, x18, x19, x20, x21, x22, x23, x24, x25 => bif (ilt x2 x1) then
 (bif (inb x2 (List.length x0)) then
 (Option.bind (F113 FUEL x24 (List.getD x0 (Int.toNat x2) 0) x25) fun y8 =>
 bif y8 then
 (Option.bind (F82 FUEL x24 (List.getD x0 (Int.toNat x2) 0)) fun y9 =>
 Option.bind (F82 FUEL x24 x23) fun y10 =>
 bif (igt y9 y10) then
 (F85_c0 n x0 x1 (iadd .i64 x2 (1)) x3 x4 x5 x6 x7 x8 x9 x10 x11 x12 x13 x14 x15 x16 x17 x18 x19 x20 x21 x22 (List.getD x0 (Int.toNat x2) 0) x24 x25)
 else (F85_c0 n x0 x1 (iadd .i64 x2 (1)) x3 x4 x5 x6 x7 x8 x9 x10 x11 x12 x13 x14 x15 x16 x17 x18 x19 x20 x21 x22 x23 x24 x25))
 else (F85_c0 n x0 x1 (iadd .i64 x2 (1)) x3 x4 x5 x6 x7 x8 x9 x10 x11 x12 x13 x14 x15 x16 x17 x18 x19 x20 x21 x22 x23 x24 x25))
 else (none))
 else (F85_c1 n x7 x8 x9 x10 x11 x12 x13 x14 x15 x16 x17 x18 x19 x20 x21 x22 (0) x23 x24 x25)
def F85_c1 : Nat → Int → Int → Int → Int → Int → Int → Int → Int → Int → Int → Int → Int → Int → Int → Int → Int → Int → Int → Int → Int → Option (Int × Bool)
  | 0, _, _, _, _, _, _, _, _, _, _, _, _, _, _, _, _, _, _, _, _ => none
  | n + 1, x0, x1, x2, x3, x4, x5, x6, x7, x8, x9, x10, x11, x12, x13, x14, x15, x16, x17, x18, x19 => bif (ilt x16 (16)) then
 (bif (inb x16 16) then
 (bif (ine (List.getD [x0, x1, x2, x3, x4, x5, x6, x7, x8, x9, x10, x11, x12, x13, x14, x15] (Int.toNat x16) 0) (-1)) then
 (Option.bind (F113 FUEL x18 (List.getD [x0, x1, x2, x3, x4, x5, x6, x7, x8, x9, x10, x11, x12, x13, x14, x15] (Int.toNat x16) 0) x19) fun y11 =>
 bif y11 then
 (Option.bind (F82 FUEL x18 (List.getD [x0, x1, x2, x3, x4, x5, x6, x7, x8, x9, x10, x11, x12, x13, x14, x15] (Int.toNat x16) 0)) fun y12 =>
 Option.bind (F82 FUEL x18 x17) fun y13 =>
 bif (igt y12 y13) then
 (F85_c1 n x0 x1 x2 x3 x4 x5 x6 x7 x8 x9 x10 x11 x12 x13 x14 x15 (iadd .i64 x16 (1)) (List.getD [x0, x1, x2, x3, x4, x5, x6, x7, x8, x9, x10, x11, x12, x13, x14, x15] (Int.toNat x16) 0) x18 x19)
 else (F85_c1 n x0 x1 x2 x3 x4 x5 x6 x7 x8 x9 x10 x11 x12 x13 x14 x15 (iadd .i64 x16 (1)) x17 x18 x19))
 else (F85_c1 n x0 x1 x2 x3 x4 x5 x6 x7 x8 x9 x10 x11 x12 x13 x14 x15 (iadd .i64 x16 (1)) x17 x18 x19))
 else (F85_c1 n x0 x1 x2 x3 x4 x5 x6 x7 x8 x9 x10 x11 x12 x13 x14 x15 (iadd .i64 x16 (1)) x17 x18 x19))
 else (none))
 else (some (x17, false))
end
def F85 (n : Nat) (a0 : Int) (a1 a2 : List (Int)) (a3 a4 a5 a6 a7 a8 a9 a10 a11 a12 a13 a14 a15 a16 a17 a18 a19 a20 : Int) (a21 : Bool) : Option (Int × Bool) :=
  Option.bind (F26 FUEL a0 a1 a2 a3 a4 a5 a6 a7 a8 a9 a10 a11 a12 a13 a14 a15 a16 a17 a18 a19) fun y1 =>
 bif (!y1) then
 (some ((-1), false))
 else (Option.bind (F101 FUEL a0 a1 a2 a3 a4 a5 a6 a7 a8 a9 a10 a11 a12 a13 a14 a15 a16 a17 a18 a19) fun y2 =>
 Option.bind (F102 FUEL a0 a20 y2) fun y3 =>
 bif y3 then
 (some (y2, true))
 else (bif a21 then
 (some (y2, false))
 else (Option.bind (F101 FUEL a0 a1 a2 a3 a4 a5 a6 a7 a8 a9 a10 a11 a12 a13 a14 a15 a16 a17 a18 a19) fun y4 =>
 Option.bind (F113 FUEL a0 y4 a20) fun y5 =>
 bif y5 then
 (Option.bind (F82 FUEL a0 y4) fun y6 =>
 Option.bind (F82 FUEL a0 y2) fun y7 =>
 bif (igt y6 y7) then
 (F85_c0 n a2 (ofN (List.length a2)) (0) a0 a1 a2 a3 a4 a5 a6 a7 a8 a9 a10 a11 a12 a13 a14 a15 a16 a17 a18 a19 y4 a0 a20)
 else (F85_c0 n a2 (ofN (List.length a2)) (0) a0 a1 a2 a3 a4 a5 a6 a7 a8 a9 a10 a11 a12 a13 a14 a15 a16 a17 a18 a19 y2 a0 a20))
 else (F85_c0 n a2 (ofN (List.length a2)) (0) a0 a1 a2 a3 a4 a5 a6 a7 a8 a9 a10 a11 a12 a13 a14 a15 a16 a17 a18 a19 y2 a0 a20))))
structure Si3b2i where
  q0 : Int
  q1 : Int
  q2 : Int
  q3 : Bool
  q4 : Bool
  q5 : Int
def F27 (_n : Nat) (a0 : Int) (a1 a2 : List (Int)) (a3 a4 a5 a6 a7 a8 a9 a10 a11 a12 a13 a14 a15 a16 a17 a18 a19 a20 : Int) : Option (Si3b2i) :=
  Option.bind (F26 FUEL a0 a1 a2 a3 a4 a5 a6 a7 a8 a9 a10 a11 a12 a13 a14 a15 a16 a17 a18 a19) fun y1 =>
 bif (!y1) then
 (some ⟨(0), (0), (0), false, false, (0)⟩)
 else (Option.bind (F50 FUEL a20) fun y2 =>
 Option.bind (F85 FUEL a0 a1 a2 a3 a4 a5 a6 a7 a8 a9 a10 a11 a12 a13 a14 a15 a16 a17 a18 a19 y2 false) fun y3 =>
 some ⟨y2, y3.1, (0), false, y3.2, (0)⟩)
def F86 (_n : Nat) (_a0 _a1 _a2 : Int) (_a3 a4 : Bool) (a5 : Int) : Option (Bool) :=
  bif a4 then
 (some true)
 else (some (ine a5 (0)))
def F105 (_n : Nat) (a0 : Int) : Option (Bool) :=
  bif (ige a0 (0)) then
 (some (ilt a0 (65536)))
 else (some false)
def F87 (_n : Nat) (a0 a1 a2 : Int) (_a3 a4 : Bool) (a5 : Int) : Option (Bool) :=
  Option.bind (F105 FUEL a0) fun y1 =>
 bif (!y1) then
 (some false)
 else (Option.bind (F105 FUEL a1) fun y2 =>
 bif (!y2) then
 (some false)
 else (bif (ilt a2 (0)) then
 (some false)
 else (bif (igt a2 (41)) then
 (some false)
 else (bif (igt a2 (40)) then
 (bif (ieq a5 (211)) then
 (some (!a4))
 else (some false))
 else (some (ieq a5 (0)))))))
structure Si5b2i2si2bib where
  q0 : Int
  q1 : Int
  q2 : Int
  q3 : Int
  q4 : Int
  q5 : Bool
  q6 : Bool
  q7 : Int
  q8 : Int
  q9 : ByteArray
  q10 : Int
  q11 : Int
  q12 : Bool
  q13 : Int
  q14 : Bool
def F52 (_n : Nat) (a0 a1 a2 : Int) (a3 a4 : Bool) (a5 : Int) : Option (Si5b2i2si2bib) :=
  Option.bind (F86 FUEL a0 a1 a2 a3 a4 a5) fun y1 =>
 bif y1 then
 (some ⟨(0), (0), (0), (0), (0), false, false, (0), (0), ByteArray.empty, (0), (0), false, (0), false⟩)
 else (Option.bind (F87 FUEL a0 a1 a2 a3 a4 a5) fun y2 =>
 bif (!y2) then
 (some ⟨(0), (0), (0), (0), (0), false, false, (0), (0), ByteArray.empty, (0), (0), false, (0), false⟩)
 else (some ⟨(4), (0), (0), a1, a0, a3, false, (0), (0), ByteArray.empty, (0), (0), false, (0), true⟩))
def F107_c0 : Nat → List (Int) → Int → Int → Int → Option (Int)
  | 0, _, _, _, _ => none
  | n + 1, x0, x1, x2, x3 => bif (ilt x3 x2) then
 (bif (inb x3 (List.length x0)) then
 (bif (ieq x1 (List.getD x0 (Int.toNat x3) 0)) then
 (some x3)
 else (F107_c0 n x0 x1 x2 (iadd .i64 x3 (1))))
 else (none))
 else (some (-1))
def F107 (n : Nat) (a0 : List (Int)) (a1 : Int) : Option (Int) :=
  F107_c0 n a0 a1 (ofN (List.length a0)) (0)
def F90 (_n : Nat) (a0 : List (Int)) (a1 : Int) : Option (Bool) :=
  Option.bind (F107 FUEL a0 a1) fun y1 =>
 some (ige y1 (0))
structure Si5b2isi2bi2bll_i5b2i2lsi2bi_ where
  q0 : Int
  q1 : Int
  q2 : Int
  q3 : Int
  q4 : Int
  q5 : Bool
  q6 : Bool
  q7 : Int
  q8 : ByteArray
  q9 : Int
  q10 : Int
  q11 : Bool
  q12 : Int
  q13 : Int
  q14 : Bool
  q15 : List (Int)
  q16 : List (Int × Int × Int × Int × Int × Bool × Bool × Int × Int × (List (Int)) × ByteArray × Int × Int × Bool × Int)
mutual
def F9_c0 : Nat → Int → List (Int) → List (Int) → Int → Int → Int → Int → Int → Int → Int → Int → Int → Int → Int → Int → Int → Int → Int → Int → Int → Int → Int → Int → Int → Int → Bool → Bool → Int → ByteArray → Int → Int → Bool → Int → Int → Bool → Int → Int → Int → Int → Int → Bool → Bool → Int → ByteArray → Int → Int → Bool → Int → Int → Option (Si5b2isi2bi2bll_i5b2i2lsi2bi_)
  | 0, _, _, _, _, _, _, _, _, _, _, _, _, _, _, _, _, _, _, _, _, _, _, _, _, _, _, _, _, _, _, _, _, _, _, _, _, _, _, _, _, _, _, _, _, _, _, _, _, _ => none
  | _ + 1, _, _, _, _, _, _, _, _, _, _, _, _, _, _, _, _, _, _, _, _, x20, _, x22, x23, x24, x25, x26, x27, x28, x29, x30, x31, x32, x33, x34, _, _, _, _, _, _, _, _, _, _, _, _, _, _ => some ⟨x20, (5), x22, x23, x24, x25, x26, x27, x28, x29, x30, x31, x32, x33, x34, [], []⟩
def F9_c1 : Nat → Int → List (Int) → List (Int) → Int → Int → Int → Int → Int → Int → Int → Int → Int → Int → Int → Int → Int → Int → Int → Int → Int → Int → Int → Int → Int → Int → Bool → Bool → Int → ByteArray → Int → Int → Bool → Int → Int → Bool → Int → Int → Int → Int → Int → Bool → Bool → Int → ByteArray → Int → Int → Bool → Int → Int → Option (Si5b2isi2bi2bll_i5b2i2lsi2bi_)
  | 0, _, _, _, _, _, _, _, _, _, _, _, _, _, _, _, _, _, _, _, _, _, _, _, _, _, _, _, _, _, _, _, _, _, _, _, _, _, _, _, _, _, _, _, _, _, _, _, _, _ => none
  | n + 1, x0, x1, x2, x3, x4, x5, x6, x7, x8, x9, x10, x11, x12, x13, x14, x15, x16, x17, x18, x19, x20, x21, x22, x23, x24, x25, x26, x27, x28, x29, x30, x31, _, x33, x34, x35, x36, x37, x38, x39, x40, x41, x42, x43, x44, x45, x46, x47, x48 => bif (ieq x20 (1)) then
 (F9_c2 n x0 x1 x2 x3 x4 x5 x6 x7 x8 x9 x10 x11 x12 x13 x14 x15 x16 x17 x18 x19 x20 x21 x22 x23 x24 x25 x26 x27 x28 x29 x30 x31 x23 x33 x34 x35 x36 x37 x38 x39 x40 x41 x42 x43 x44 x45 x46 x47 x48)
 else (bif (ieq x20 (2)) then
 (bif (ieq x23 x0) then
 (bif (room (List.length [x23] + List.length x2) 8) then
 (bif ((inn (minI (3) (ofN (List.length ([x23] ++ x2))))) && (inbs 0 (Int.toNat (minI (3) (ofN (List.length ([x23] ++ x2))))) (List.length ([x23] ++ x2)))) then
 (F9_c3 n 0 ((Int.toNat (minI (3) (ofN (List.length ([x23] ++ x2))))) - 0) (ofN ((Int.toNat (minI (3) (ofN (List.length ([x23] ++ x2))))) - 0)) (0) false 0 ((Int.toNat (minI (3) (ofN (List.length ([x23] ++ x2))))) - 0) ([x23] ++ x2) x35 x36 x37 x38 x39 x40 x41 x42 x43 x44 x45 x46 x47 x48 x0 x1 x2 x3 x4 x5 x6 x7 x8 x9 x10 x11 x12 x13 x14 x15 x16 x17 x18 x19 x20 x21 x22 x23 x24 x25 x26 x27 x28 x29 x30 x31 x23 x33 x34 [] [])
 else (none))
 else (none))
 else (bif (ieq x20 (2)) then
 (bif (room (List.length ([((1), (0), (0), x23, (0), false, false, (0), (0), [], ByteArray.empty, (0), (0), false, (0))] : List (Int × Int × Int × Int × Int × Bool × Bool × Int × Int × (List (Int)) × ByteArray × Int × Int × Bool × Int))) 136) then
 (some ⟨x20, (2), x22, x23, x24, x25, x26, x27, x28, x29, x30, x31, x23, x33, x34, [], ([((1), (0), (0), x23, (0), false, false, (0), (0), [], ByteArray.empty, (0), (0), false, (0))] : List (Int × Int × Int × Int × Int × Bool × Bool × Int × Int × (List (Int)) × ByteArray × Int × Int × Bool × Int))⟩)
 else (none))
 else (bif (ieq x23 x0) then
 (F9_c2 n x0 x1 x2 x3 x4 x5 x6 x7 x8 x9 x10 x11 x12 x13 x14 x15 x16 x17 x18 x19 x20 x21 x22 x23 x24 x25 x26 x27 x28 x29 x30 x31 x23 x33 true x35 x36 x37 x38 x39 x40 x41 x42 x43 x44 x45 x46 x47 x48)
 else (bif (room (List.length ([((6), (0), (0), x23, (0), false, false, (0), (0), [], x28, (0), (0), false, (0))] : List (Int × Int × Int × Int × Int × Bool × Bool × Int × Int × (List (Int)) × ByteArray × Int × Int × Bool × Int))) 136) then
 (some ⟨x20, (4), x22, x23, x24, x25, x26, x27, x28, x29, x30, x31, x23, x33, x34, [], ([((6), (0), (0), x23, (0), false, false, (0), (0), [], x28, (0), (0), false, (0))] : List (Int × Int × Int × Int × Int × Bool × Bool × Int × Int × (List (Int)) × ByteArray × Int × Int × Bool × Int))⟩)
 else (none)))))
 else (bif (ieq x20 (2)) then
 (bif (room (List.length ([((1), (0), (0), x23, (0), false, false, (0), (0), [], ByteArray.empty, (0), (0), false, (0))] : List (Int × Int × Int × Int × Int × Bool × Bool × Int × Int × (List (Int)) × ByteArray × Int × Int × Bool × Int))) 136) then
 (some ⟨x20, (2), x22, x23, x24, x25, x26, x27, x28, x29, x30, x31, x23, x33, x34, [], ([((1), (0), (0), x23, (0), false, false, (0), (0), [], ByteArray.empty, (0), (0), false, (0))] : List (Int × Int × Int × Int × Int × Bool × Bool × Int × Int × (List (Int)) × ByteArray × Int × Int × Bool × Int))⟩)
 else (none))
 else (bif (ieq x23 x0) then
 (F9_c2 n x0 x1 x2 x3 x4 x5 x6 x7 x8 x9 x10 x11 x12 x13 x14 x15 x16 x17 x18 x19 x20 x21 x22 x23 x24 x25 x26 x27 x28 x29 x30 x31 x23 x33 true x35 x36 x37 x38 x39 x40 x41 x42 x43 x44 x45 x46 x47 x48)
 else (bif (room (List.length ([((6), (0), (0), x23, (0), false, false, (0), (0), [], x28, (0), (0), false, (0))] : List (Int × Int × Int × Int × Int × Bool × Bool × Int × Int × (List (Int)) × ByteArray × Int × Int × Bool × Int))) 136) then
 (some ⟨x20, (4), x22, x23, x24, x25, x26, x27, x28, x29, x30, x31, x23, x33, x34, [], ([((6), (0), (0), x23, (0), false, false, (0), (0), [], x28, (0), (0), false, (0))] : List (Int × Int × Int × Int × Int × Bool × Bool × Int × Int × (List (Int)) × ByteArray × Int × Int × Bool × Int))⟩)
 else (none)))))
def F9_c2 : Nat → Int → List (Int) → List (Int) → Int → Int → Int → Int → Int → Int → Int → Int → Int → Int → Int → Int → Int → Int → Int → Int → Int → Int → Int → Int → Int → Int → Bool → Bool → Int → ByteArray → Int → Int → Bool → Int → Int → Bool → Int → Int → Int → Int → Int → Bool → Bool → Int → ByteArray → Int → Int → Bool → Int → Int → Option (Si5b2isi2bi2bll_i5b2i2lsi2bi_)
  | 0, _, _, _, _, _, _, _, _, _, _, _, _, _, _, _, _, _, _, _, _, _, _, _, _, _, _, _, _, _, _, _, _, _, _, _, _, _, _, _, _, _, _, _, _, _, _, _, _, _ => none
  | _ + 1, _, _, _, _, _, _, _, _, _, _, _, _, _, _, _, _, _, _, _, _, x20, _, x22, x23, x24, x25, x26, x27, x28, x29, x30, x31, x32, _, x34, _, _, _, _, _, _, _, _, _, _, _, _, _, _ => some ⟨x20, (5), x22, x23, x24, x25, x26, x27, x28, x29, x30, x31, x32, (0), x34, [], []⟩
def F9_c3 : Nat → Nat → Nat → Int → Int → Bool → Nat → Nat → List (Int) → Int → Int → Int → Int → Int → Bool → Bool → Int → ByteArray → Int → Int → Bool → Int → Int → Int → List (Int) → List (Int) → Int → Int → Int → Int → Int → Int → Int → Int → Int → Int → Int → Int → Int → Int → Int → Int → Int → Int → Int → Int → Int → Int → Bool → Bool → Int → ByteArray → Int → Int → Bool → Int → Int → Bool → List (Int) → List (Int × Int × Int × Int × Int × Bool × Bool × Int × Int × (List (Int)) × ByteArray × Int × Int × Bool × Int) → Option (Si5b2isi2bi2bll_i5b2i2lsi2bi_)
  | 0, _, _, _, _, _, _, _, _, _, _, _, _, _, _, _, _, _, _, _, _, _, _, _, _, _, _, _, _, _, _, _, _, _, _, _, _, _, _, _, _, _, _, _, _, _, _, _, _, _, _, _, _, _, _, _, _, _, _, _ => none
  | n + 1, x0, x1, x2, x3, x4, x5, x6, x7, x8, x9, x10, x11, x12, x13, x14, x15, x16, x17, x18, x19, x20, x21, x22, x23, x24, x25, x26, x27, x28, x29, x30, x31, x32, x33, x34, x35, x36, x37, x38, x39, x40, x41, x42, x43, x44, x45, x46, x47, x48, x49, x50, x51, x52, x53, x54, x55, x56, x57, x58 => bif (ilt x3 x2) then
 (bif (inb x3 x1) then
 (bif (nlt (x0 + Int.toNat x3) (List.length x7)) then
 (bif ((inn x3) && (inbs 0 (Int.toNat x3) x6)) then
 (Option.bind (F90 FUEL (List.take ((Int.toNat x3) - 0) (List.drop (x5 + 0) x7)) (List.getD x7 (x0 + Int.toNat x3) 0)) fun y5 =>
 bif (!y5) then
 (bif (ieq (List.getD x7 (x0 + Int.toNat x3) 0) x22) then
 (F9_c3 n x0 x1 x2 (iadd .i64 x3 (1)) x4 x5 x6 x7 x8 x9 x10 x11 x12 x13 x14 x15 x16 x17 x18 x19 x20 x21 x22 x23 x24 x25 x26 x27 x28 x29 x30 x31 x32 x33 x34 x35 x36 x37 x38 x39 x40 x41 x42 x43 x44 x45 x46 x47 x48 x49 x50 x51 x52 x53 x54 x55 true x57 x58)
 else (bif (room (List.length x57 + List.length [(List.getD x7 (x0 + Int.toNat x3) 0)]) 8) then
 (bif (room (List.length x58 + List.length ([((5), (0), (0), (List.getD x7 (x0 + Int.toNat x3) 0), (0), false, false, (0), (0), [], x50, x51, x52, x53, (0))] : List (Int × Int × Int × Int × Int × Bool × Bool × Int × Int × (List (Int)) × ByteArray × Int × Int × Bool × Int))) 136) then
 (F9_c3 n x0 x1 x2 (iadd .i64 x3 (1)) x4 x5 x6 x7 x8 x9 x10 x11 x12 x13 x14 x15 x16 x17 x18 x19 x20 x21 x22 x23 x24 x25 x26 x27 x28 x29 x30 x31 x32 x33 x34 x35 x36 x37 x38 x39 x40 x41 x42 x43 x44 x45 x46 x47 x48 x49 x50 x51 x52 x53 x54 x55 x56 (x57 ++ [(List.getD x7 (x0 + Int.toNat x3) 0)]) (x58 ++ ([((5), (0), (0), (List.getD x7 (x0 + Int.toNat x3) 0), (0), false, false, (0), (0), [], x50, x51, x52, x53, (0))] : List (Int × Int × Int × Int × Int × Bool × Bool × Int × Int × (List (Int)) × ByteArray × Int × Int × Bool × Int))))
 else (none))
 else (none)))
 else (F9_c3 n x0 x1 x2 (iadd .i64 x3 (1)) x4 x5 x6 x7 x8 x9 x10 x11 x12 x13 x14 x15 x16 x17 x18 x19 x20 x21 x22 x23 x24 x25 x26 x27 x28 x29 x30 x31 x32 x33 x34 x35 x36 x37 x38 x39 x40 x41 x42 x43 x44 x45 x46 x47 x48 x49 x50 x51 x52 x53 x54 x55 x56 x57 x58))
 else (none))
 else (none))
 else (none))
 else (bif (ieq (ofN (List.length x57)) (0)) then
 (some ⟨x42, (5), x44, x45, x46, x47, x48, x49, x50, x51, x52, x53, x54, x55, x56, [], x58⟩)
 else (some ⟨x42, (3), x44, x45, x46, x47, x48, x49, x50, x51, x52, x53, x54, x55, x56, x57, x58⟩))
end
def F9 (n : Nat) (a0 : Int) (a1 a2 : List (Int)) (a3 a4 a5 a6 a7 a8 a9 a10 a11 a12 a13 a14 a15 a16 a17 a18 a19 a20 a21 : Int) (a22 : ByteArray) (a23 a24 : Int) (a25 : Bool) : Option (Si5b2isi2bi2bll_i5b2i2lsi2bi_) :=
  Option.bind (F25 FUEL a20 a21 a22 a23 a24 a25) fun y1 =>
 bif (!y1.q5) then
 (some ⟨a20, (5), (0), (0), (0), false, false, (0), ByteArray.empty, (0), (0), false, (0), (2), false, [], []⟩)
 else (Option.bind (F26 FUEL a0 a1 a2 a3 a4 a5 a6 a7 a8 a9 a10 a11 a12 a13 a14 a15 a16 a17 a18 a19) fun y2 =>
 bif (!y2) then
 (some ⟨a20, (5), (0), (0), (0), false, false, (0), ByteArray.empty, (0), (0), false, (0), (2), false, [], []⟩)
 else (Option.bind (F27 FUEL a0 a1 a2 a3 a4 a5 a6 a7 a8 a9 a10 a11 a12 a13 a14 a15 a16 a17 a18 a19 y1.q0) fun y3 =>
 bif (ine y3.q5 (0)) then
 (F9_c0 n a0 a1 a2 a3 a4 a5 a6 a7 a8 a9 a10 a11 a12 a13 a14 a15 a16 a17 a18 a19 a20 (0) y3.q0 y3.q1 y3.q2 y3.q3 y3.q4 y3.q5 y1.q1 y1.q2 y1.q3 y1.q4 (0) y3.q5 false (0) (0) (0) (0) (0) false false (0) ByteArray.empty (0) (0) false (0) (0))
 else (bif y3.q4 then
 (F9_c1 n a0 a1 a2 a3 a4 a5 a6 a7 a8 a9 a10 a11 a12 a13 a14 a15 a16 a17 a18 a19 a20 (0) y3.q0 y3.q1 y3.q2 y3.q3 y3.q4 y3.q5 y1.q1 y1.q2 y1.q3 y1.q4 (0) (0) false (0) (0) (0) (0) (0) false false (0) ByteArray.empty (0) (0) false (0) (0))
 else (Option.bind (F52 FUEL y3.q0 y3.q1 y3.q2 y3.q3 y3.q4 y3.q5) fun y4 =>
 bif y4.q14 then
 (bif (room (List.length ([(y4.q0, y4.q1, y4.q2, y4.q3, y4.q4, y4.q5, y4.q6, y4.q7, y4.q8, [], y4.q9, y4.q10, y4.q11, y4.q12, y4.q13)] : List (Int × Int × Int × Int × Int × Bool × Bool × Int × Int × (List (Int)) × ByteArray × Int × Int × Bool × Int))) 136) then
 (some ⟨a20, (1), y3.q0, y3.q1, y3.q2, y3.q3, y3.q4, y3.q5, y1.q1, y1.q2, y1.q3, y1.q4, (0), (0), false, [], ([(y4.q0, y4.q1, y4.q2, y4.q3, y4.q4, y4.q5, y4.q6, y4.q7, y4.q8, [], y4.q9, y4.q10, y4.q11, y4.q12, y4.q13)] : List (Int × Int × Int × Int × Int × Bool × Bool × Int × Int × (List (Int)) × ByteArray × Int × Int × Bool × Int))⟩)
 else (none))
 else (some ⟨a20, (1), y3.q0, y3.q1, y3.q2, y3.q3, y3.q4, y3.q5, y1.q1, y1.q2, y1.q3, y1.q4, (0), (0), false, [], []⟩)))))
structure Si5b2i2si2bil where
  q0 : Int
  q1 : Int
  q2 : Int
  q3 : Int
  q4 : Int
  q5 : Bool
  q6 : Bool
  q7 : Int
  q8 : Int
  q9 : ByteArray
  q10 : Int
  q11 : Int
  q12 : Bool
  q13 : Int
  q14 : List (Int)
def F22 (_n : Nat) (a0 a1 a2 : Int) (a3 : Bool) (a4 : Int) : Option (Si5b2i2si2bil) :=
  bif (ieq a0 (4)) then
 (some ⟨(iadd .u8 a0 (6)), (9437185), a1, (9), (0), false, a3, a2, (0), ByteArray.empty, (0), (0), false, a4, []⟩)
 else (bif (ieq a0 (1)) then
 (some ⟨(iadd .u8 a0 (6)), (9437185), a1, (9), (0), false, false, (0), (-1), ByteArray.empty, (0), (0), false, a4, [(40), (9)]⟩)
 else (some ⟨(iadd .u8 a0 (6)), (9437185), a1, (9), (0), false, false, (0), (0), ByteArray.empty, (0), (0), false, a4, []⟩))
def F43 (_n : Nat) (a0 : List (Int)) : Option ((List (Int))) :=
  bif (List.isEmpty a0) then
 (altE (some [])
 (bif (room (0 + List.length a0) 8) then
 (some ([] ++ a0))
 else (none)))
 else (bif (room (0 + List.length a0) 8) then
 (some ([] ++ a0))
 else (none))
structure Si5b2isi2bi2l where
  q0 : Int
  q1 : Int
  q2 : Int
  q3 : Int
  q4 : Int
  q5 : Bool
  q6 : Bool
  q7 : Int
  q8 : ByteArray
  q9 : Int
  q10 : Int
  q11 : Bool
  q12 : Int
  q13 : Int
  q14 : List (Int)
def F24 (_n : Nat) (a0 a1 a2 a3 a4 : Int) (a5 a6 : Bool) (a7 : Int) (a8 : ByteArray) (a9 a10 : Int) (a11 : Bool) (a12 : Int) (a13 : List (Int)) (a14 : Int) : Option (Si5b2isi2bi2l) :=
  bif (ieq (ofN (List.length a13)) (0)) then
 (some ⟨a0, a1, a2, a3, a4, a5, a6, a7, a8, a9, a10, a11, a12, a14, []⟩)
 else (Option.bind (F43 FUEL a13) fun y1 =>
 some ⟨a0, a1, a2, a3, a4, a5, a6, a7, a8, a9, a10, a11, a12, a14, y1⟩)
def F93_c0 : Nat → Int → List (Int) → List (Int) → Int → Int → Option (Bool)
  | 0, _, _, _, _, _ => none
  | n + 1, x0, x1, x2, x3, x4 => bif (ilt x4 x3) then
 (bif (inb x4 (List.length x2)) then
 (bif (ieq (List.getD x2 (Int.toNat x4) 0) x0) then
 (some false)
 else (bif ((inn x4) && (inbs 0 (Int.toNat x4) (List.length x1))) then
 (Option.bind (F90 FUEL (List.drop 0 (List.take (Int.toNat x4) x1)) (List.getD x2 (Int.toNat x4) 0)) fun y1 =>
 bif y1 then
 (some false)
 else (F93_c0 n x0 x1 x2 x3 (iadd .i64 x4 (1))))
 else (none)))
 else (none))
 else (some true)
def F93 (n : Nat) (a0 : Int) (a1 : List (Int)) : Option (Bool) :=
  F93_c0 n a0 a1 a1 (ofN (List.length a1)) (0)
def F61 (_n : Nat) (a0 _a1 a2 _a3 _a4 : Int) (_a5 _a6 : Bool) (_a7 _a8 : Int) (a9 : List (Int)) (a10 : ByteArray) (a11 a12 : Int) (a13 : Bool) (a14 : Int) : Option (Bool) :=
  bif (ieq a0 (5)) then
 (Option.bind (F45 FUEL a10 a11 a12 a13) fun y1 =>
 some y1)
 else (bif (ieq a0 (6)) then
 (Option.bind (F78 FUEL a10) fun y2 =>
 some y2)
 else (bif (ieq a0 (7)) then
 (bif (ile (ofN (List.length a9)) (3)) then
 (Option.bind (F93 FUEL a2 a9) fun y3 =>
 some y3)
 else (some false))
 else (bif (ieq a0 (11)) then
 (bif (ieq a14 (0)) then
 (some true)
 else (some (ieq a14 (200))))
 else (bif (ieq a0 (12)) then
 (bif (ieq a14 (0)) then
 (Option.bind (F45 FUEL a10 a11 a12 a13) fun y4 =>
 bif y4 then
 (some true)
 else (bif (ieq a14 (201)) then
 (some ((steq a10 ByteArray.empty) && ((ieq a11 (0)) && ((ieq a12 (0)) && ((beqb a13 false) && true)))))
 else (some false)))
 else (bif (ieq a14 (201)) then
 (some ((steq a10 ByteArray.empty) && ((ieq a11 (0)) && ((ieq a12 (0)) && ((beqb a13 false) && true)))))
 else (some false)))
 else (some true)))))
def F63 (_n : Nat) (a0 : Int) : Option (Bool) :=
  bif (ige a0 (0)) then
 (some (ilt a0 (65536)))
 else (some false)
def F95 (_n : Nat) (a0 _a1 _a2 _a3 _a4 : Int) (_a5 _a6 : Bool) (_a7 _a8 : Int) (_a9 : List (Int)) (_a10 : ByteArray) (_a11 _a12 : Int) (_a13 : Bool) (_a14 : Int) : Option (Bool) :=
  bif (ige a0 (1)) then
 (some (ile a0 (6)))
 else (some false)
def F65 (_n : Nat) (a0 a1 a2 a3 a4 : Int) (a5 a6 : Bool) (a7 a8 : Int) (a9 : List (Int)) (a10 : ByteArray) (a11 a12 : Int) (a13 : Bool) (a14 : Int) : Option (Int) :=
  Option.bind (F95 FUEL a0 a1 a2 a3 a4 a5 a6 a7 a8 a9 a10 a11 a12 a13 a14) fun y1 =>
 bif y1 then
 (some a2)
 else (some a3)
def F64 (_n : Nat) (a0 a1 : Int) : Option (Bool) :=
  bif (igt a1 (imul .i64 a0 (1048576))) then
 (some (ile a1 (imul .i64 (iadd .i64 a0 (1)) (1048576))))
 else (some false)
structure Sbi5b2i2si2bi where
  q0 : Bool
  q1 : Int
  q2 : Int
  q3 : Int
  q4 : Int
  q5 : Int
  q6 : Bool
  q7 : Bool
  q8 : Int
  q9 : Int
  q10 : ByteArray
  q11 : Int
  q12 : Int
  q13 : Bool
  q14 : Int
def F67 (_n : Nat) (a0 _a1 _a2 _a3 a4 : Int) (a5 a6 : Bool) (a7 a8 : Int) (a9 : ByteArray) (a10 a11 : Int) (a12 : Bool) (a13 : Int) : Option (Sbi5b2i2si2bi) :=
  bif (ieq a0 (4)) then
 (some ⟨true, (0), (0), (0), (0), (0), false, a6, a7, a8, a9, a10, a11, a12, a13⟩)
 else (bif (ieq a0 (5)) then
 (some ⟨true, (0), (0), (0), (0), a4, a5, a6, a7, a8, ByteArray.empty, (0), (0), false, a13⟩)
 else (bif (ieq a0 (6)) then
 (some ⟨true, (0), (0), (0), (0), a4, a5, a6, a7, a8, ByteArray.empty, a10, a11, a12, a13⟩)
 else (bif (ieq a0 (7)) then
 (some ⟨false, (0), (0), (0), (0), a4, a5, a6, a7, (0), a9, a10, a11, a12, a13⟩)
 else (bif (ieq a0 (10)) then
 (some ⟨true, (0), (0), (0), (0), a4, a5, false, (0), a8, a9, a10, a11, a12, a13⟩)
 else (bif (ieq a0 (11)) then
 (some ⟨true, (0), (0), (0), (0), a4, a5, a6, a7, a8, a9, a10, a11, a12, (0)⟩)
 else (bif (ieq a0 (12)) then
 (some ⟨true, (0), (0), (0), (0), a4, a5, a6, a7, a8, ByteArray.empty, (0), (0), false, (0)⟩)
 else (some ⟨true, (0), (0), (0), (0), a4, a5, a6, a7, a8, a9, a10, a11, a12, a13⟩)))))))
def F42_c0 : Nat → List (Int) → List (Int) → Int → Int → Option (Bool)
  | 0, _, _, _, _ => none
  | n + 1, x0, x1, x2, x3 => bif (ilt x3 x2) then
 (bif (inb x3 (List.length x0)) then
 (bif (inb x3 (List.length x1)) then
 (bif (ine (List.getD x0 (Int.toNat x3) 0) (List.getD x1 (Int.toNat x3) 0)) then
 (some false)
 else (F42_c0 n x0 x1 x2 (iadd .i64 x3 (1))))
 else (none))
 else (none))
 else (some true)
def F42 (n : Nat) (a0 a1 : List (Int)) : Option (Bool) :=
  bif (ine (ofN (List.length a0)) (ofN (List.length a1))) then
 (some false)
 else (F42_c0 n a0 a1 (ofN (List.length a0)) (0))
def F66 (_n : Nat) (a0 a1 a2 a3 a4 : Int) (a5 a6 : Bool) (a7 a8 : Int) (a9 : List (Int)) (a10 : ByteArray) (a11 a12 : Int) (a13 : Bool) (a14 a15 a16 a17 a18 a19 : Int) (a20 a21 : Bool) (a22 a23 : Int) (a24 : List (Int)) (a25 : ByteArray) (a26 a27 : Int) (a28 : Bool) (a29 : Int) : Option (Bool) :=
  bif (ieq a0 a15) then
 (bif (ieq a1 a16) then
 (bif (ieq a2 a17) then
 (bif (ieq a3 a18) then
 (bif (ieq a4 a19) then
 (bif (beqb a5 a20) then
 (bif (beqb a6 a21) then
 (bif (ieq a7 a22) then
 (bif (ieq a8 a23) then
 (Option.bind (F42 FUEL a9 a24) fun y1 =>
 bif y1 then
 (bif ((steq a10 a25) && ((ieq a11 a26) && ((ieq a12 a27) && ((beqb a13 a28) && true)))) then
 (some (ieq a14 a29))
 else (some false))
 else (some false))
 else (some false))
 else (some false))
 else (some false))
 else (some false))
 else (some false))
 else (some false))
 else (some false))
 else (some false))
 else (some false)
mutual
def F30_c0 : Nat → Option (Bool)
  | 0 => none
  | _ + 1 => some false
def F30_c1 : Nat → List (Int) → Int → Int → Int → Int → Int → Int → Int → Bool → Bool → Int → Int → List (Int) → ByteArray → Int → Int → Bool → Int → Option (Bool)
  | 0, _, _, _, _, _, _, _, _, _, _, _, _, _, _, _, _, _, _ => none
  | n + 1, x0, x1, x2, x3, x4, x5, x6, x7, x8, x9, x10, x11, x12, x13, x14, x15, x16, x17 => bif (ilt x2 x1) then
 (bif (inb x2 (List.length x0)) then
 (Option.bind (F63 FUEL (List.getD x0 (Int.toNat x2) 0)) fun y22 =>
 bif (!y22) then
 (F30_c0 n )
 else (F30_c1 n x0 x1 (iadd .i64 x2 (1)) x3 x4 x5 x6 x7 x8 x9 x10 x11 x12 x13 x14 x15 x16 x17))
 else (none))
 else (bif (ieq x5 x6) then
 (F30_c0 n )
 else (Option.bind (F65 FUEL x3 x4 x5 x6 x7 x8 x9 x10 x11 x12 x13 x14 x15 x16 x17) fun y23 =>
 Option.bind (F64 FUEL y23 x4) fun y24 =>
 bif (!y24) then
 (F30_c0 n )
 else (Option.bind (F67 FUEL x3 x4 x5 x6 x7 x8 x9 x10 x11 x13 x14 x15 x16 x17) fun y25 =>
 bif y25.q0 then
 (Option.bind (F66 FUEL y25.q1 y25.q2 y25.q3 y25.q4 y25.q5 y25.q6 y25.q7 y25.q8 y25.q9 x12 y25.q10 y25.q11 y25.q12 y25.q13 y25.q14 (0) (0) (0) (0) (0) false false (0) (0) [] ByteArray.empty (0) (0) false (0)) fun y26 =>
 some y26)
 else (Option.bind (F66 FUEL y25.q1 y25.q2 y25.q3 y25.q4 y25.q5 y25.q6 y25.q7 y25.q8 y25.q9 [] y25.q10 y25.q11 y25.q12 y25.q13 y25.q14 (0) (0) (0) (0) (0) false false (0) (0) [] ByteArray.empty (0) (0) false (0)) fun y27 =>
 some y27))))
end
def F30 (n : Nat) (a0 a1 a2 a3 a4 : Int) (a5 a6 : Bool) (a7 a8 : Int) (a9 : List (Int)) (a10 : ByteArray) (a11 a12 : Int) (a13 : Bool) (a14 : Int) : Option (Bool) :=
  bif (ilt a0 (1)) then
 (F30_c0 n )
 else (bif (ige a0 (13)) then
 (F30_c0 n )
 else (Option.bind (F61 FUEL a0 a1 a2 a3 a4 a5 a6 a7 a8 a9 a10 a11 a12 a13 a14) fun y1 =>
 bif (!y1) then
 (F30_c0 n )
 else (Option.bind (F63 FUEL a2) fun y2 =>
 bif (!y2) then
 (F30_c0 n )
 else (Option.bind (F63 FUEL a3) fun y3 =>
 bif (!y3) then
 (F30_c0 n )
 else (bif (ieq a0 (4)) then
 (Option.bind (F63 FUEL a4) fun y4 =>
 bif (!y4) then
 (F30_c0 n )
 else (bif (ieq a2 a3) then
 (F30_c0 n )
 else (Option.bind (F65 FUEL a0 a1 a2 a3 a4 a5 a6 a7 a8 a9 a10 a11 a12 a13 a14) fun y5 =>
 Option.bind (F64 FUEL y5 a1) fun y6 =>
 bif (!y6) then
 (F30_c0 n )
 else (Option.bind (F67 FUEL a0 a1 a2 a3 a4 a5 a6 a7 a8 a10 a11 a12 a13 a14) fun y7 =>
 bif y7.q0 then
 (Option.bind (F66 FUEL y7.q1 y7.q2 y7.q3 y7.q4 y7.q5 y7.q6 y7.q7 y7.q8 y7.q9 a9 y7.q10 y7.q11 y7.q12 y7.q13 y7.q14 (0) (0) (0) (0) (0) false false (0) (0) [] ByteArray.empty (0) (0) false (0)) fun y8 =>
 some y8)
 else (Option.bind (F66 FUEL y7.q1 y7.q2 y7.q3 y7.q4 y7.q5 y7.q6 y7.q7 y7.q8 y7.q9 [] y7.q10 y7.q11 y7.q12 y7.q13 y7.q14 (0) (0) (0) (0) (0) false false (0) (0) [] ByteArray.empty (0) (0) false (0)) fun y9 =>
 some y9)))))
 else (bif (ieq a0 (10)) then
 (Option.bind (F63 FUEL a7) fun y10 =>
 bif (!y10) then
 (F30_c0 n )
 else (bif (ieq a2 a3) then
 (F30_c0 n )
 else (Option.bind (F65 FUEL a0 a1 a2 a3 a4 a5 a6 a7 a8 a9 a10 a11 a12 a13 a14) fun y11 =>
 Option.bind (F64 FUEL y11 a1) fun y12 =>
 bif (!y12) then
 (F30_c0 n )
 else (Option.bind (F67 FUEL a0 a1 a2 a3 a4 a5 a6 a7 a8 a10 a11 a12 a13 a14) fun y13 =>
 bif y13.q0 then
 (Option.bind (F66 FUEL y13.q1 y13.q2 y13.q3 y13.q4 y13.q5 y13.q6 y13.q7 y13.q8 y13.q9 a9 y13.q10 y13.q11 y13.q12 y13.q13 y13.q14 (0) (0) (0) (0) (0) false false (0) (0) [] ByteArray.empty (0) (0) false (0)) fun y14 =>
 some y14)
 else (Option.bind (F66 FUEL y13.q1 y13.q2 y13.q3 y13.q4 y13.q5 y13.q6 y13.q7 y13.q8 y13.q9 [] y13.q10 y13.q11 y13.q12 y13.q13 y13.q14 (0) (0) (0) (0) (0) false false (0) (0) [] ByteArray.empty (0) (0) false (0)) fun y15 =>
 some y15)))))
 else (bif (ieq a0 (7)) then
 (bif (ine a8 (-1)) then
 (Option.bind (F63 FUEL a8) fun y16 =>
 bif (!y16) then
 (F30_c0 n )
 else (F30_c1 n a9 (ofN (List.length a9)) (0) a0 a1 a2 a3 a4 a5 a6 a7 a8 a9 a10 a11 a12 a13 a14))
 else (F30_c1 n a9 (ofN (List.length a9)) (0) a0 a1 a2 a3 a4 a5 a6 a7 a8 a9 a10 a11 a12 a13 a14))
 else (bif (ieq a2 a3) then
 (F30_c0 n )
 else (Option.bind (F65 FUEL a0 a1 a2 a3 a4 a5 a6 a7 a8 a9 a10 a11 a12 a13 a14) fun y17 =>
 Option.bind (F64 FUEL y17 a1) fun y18 =>
 bif (!y18) then
 (F30_c0 n )
 else (Option.bind (F67 FUEL a0 a1 a2 a3 a4 a5 a6 a7 a8 a10 a11 a12 a13 a14) fun y19 =>
 bif y19.q0 then
 (Option.bind (F66 FUEL y19.q1 y19.q2 y19.q3 y19.q4 y19.q5 y19.q6 y19.q7 y19.q8 y19.q9 a9 y19.q10 y19.q11 y19.q12 y19.q13 y19.q14 (0) (0) (0) (0) (0) false false (0) (0) [] ByteArray.empty (0) (0) false (0)) fun y20 =>
 some y20)
 else (Option.bind (F66 FUEL y19.q1 y19.q2 y19.q3 y19.q4 y19.q5 y19.q6 y19.q7 y19.q8 y19.q9 [] y19.q10 y19.q11 y19.q12 y19.q13 y19.q14 (0) (0) (0) (0) (0) false false (0) (0) [] ByteArray.empty (0) (0) false (0)) fun y21 =>
 some y21)))))))))))
structure Si3b2ib where
  q0 : Int
  q1 : Int
  q2 : Int
  q3 : Bool
  q4 : Bool
  q5 : Int
  q6 : Bool
def F89 (_n : Nat) (a0 a1 a2 : Int) (a3 a4 : Bool) (a5 : Int) : Option (Si3b2ib) :=
  bif (igt (iadd .i64 a2 (1)) (40)) then
 (some ⟨a0, a1, (iadd .i64 a2 (1)), a3, a4, (211), false⟩)
 else (some ⟨a0, a1, (iadd .i64 a2 (1)), a3, a4, a5, true⟩)
def F69_c0 : Nat → Int → Int → Int → Bool → Bool → Int → Int → Int → Int → Bool → Bool → Int → Option (Si3b2i)
  | 0, _, _, _, _, _, _, _, _, _, _, _, _ => none
  | _ + 1, x0, x1, x2, x3, x4, x5, _, _, _, _, _, _ => some ⟨x0, x1, x2, x3, x4, x5⟩
def F69 (n : Nat) (a0 : Int) (a1 a2 : List (Int)) (a3 a4 a5 a6 a7 a8 a9 a10 a11 a12 a13 a14 a15 a16 a17 a18 a19 a20 a21 a22 : Int) (a23 a24 : Bool) (a25 a26 a27 a28 a29 a30 : Int) (a31 a32 : Bool) (a33 a34 : Int) (a35 : List (Int)) (a36 : ByteArray) (a37 a38 : Int) (a39 : Bool) (a40 : Int) : Option (Si3b2i) :=
  Option.bind (F26 FUEL a0 a1 a2 a3 a4 a5 a6 a7 a8 a9 a10 a11 a12 a13 a14 a15 a16 a17 a18 a19) fun y1 =>
 bif (!y1) then
 (F69_c0 n a20 a21 a22 a23 a24 a25 (0) (0) (0) false false (0))
 else (Option.bind (F87 FUEL a20 a21 a22 a23 a24 a25) fun y2 =>
 bif (!y2) then
 (F69_c0 n a20 a21 a22 a23 a24 a25 (0) (0) (0) false false (0))
 else (Option.bind (F86 FUEL a20 a21 a22 a23 a24 a25) fun y3 =>
 bif y3 then
 (F69_c0 n a20 a21 a22 a23 a24 a25 (0) (0) (0) false false (0))
 else (bif (ine a26 (10)) then
 (some ⟨a20, a21, a22, a23, a24, a25⟩)
 else (bif (ine a28 a21) then
 (some ⟨a20, a21, a22, a23, a24, a25⟩)
 else (bif (ine a29 a0) then
 (some ⟨a20, a21, a22, a23, a24, a25⟩)
 else (Option.bind (F30 FUEL a26 a27 a28 a29 a30 a31 a32 a33 a34 a35 a36 a37 a38 a39 a40) fun y4 =>
 bif (!y4) then
 (some ⟨a20, a21, a22, a23, a24, a25⟩)
 else (Option.bind (F89 FUEL a20 a21 a22 a23 a24 a25) fun y5 =>
 bif (!y5.q6) then
 (F69_c0 n y5.q0 y5.q1 y5.q2 y5.q3 y5.q4 y5.q5 (0) (0) (0) false false (0))
 else (bif (ieq a33 a0) then
 (bif (!a32) then
 (Option.bind (F85 FUEL a0 a1 a2 a3 a4 a5 a6 a7 a8 a9 a10 a11 a12 a13 a14 a15 a16 a17 a18 a19 y5.q0 y5.q3) fun y6 =>
 some ⟨y5.q0, y6.1, y5.q2, y5.q3, y6.2, y5.q5⟩)
 else (some ⟨y5.q0, a33, y5.q2, y5.q3, a32, y5.q5⟩))
 else (some ⟨y5.q0, a33, y5.q2, y5.q3, a32, y5.q5⟩)))))))))
structure Si5b2isi2bilibl_i5b2i2lsi2bi_ where
  q0 : Int
  q1 : Int
  q2 : Int
  q3 : Int
  q4 : Int
  q5 : Bool
  q6 : Bool
  q7 : Int
  q8 : ByteArray
  q9 : Int
  q10 : Int
  q11 : Bool
  q12 : Int
  q13 : List (Int)
  q14 : Int
  q15 : Bool
  q16 : List (Int × Int × Int × Int × Int × Bool × Bool × Int × Int × (List (Int)) × ByteArray × Int × Int × Bool × Int)
mutual
def F12_c0 : Nat → Int → List (Int) → List (Int) → Int → Int → Int → Int → Int → Int → Int → Int → Int → Int → Int → Int → Int → Int → Int → Int → Int → Int → Int → Int → Int → Int → Bool → Bool → Int → ByteArray → Int → Int → Bool → Int → Int → Bool → Int → Int → Int → Int → Int → Bool → Bool → Int → ByteArray → Int → Int → Bool → Int → Int → List (Int) → Option (Si5b2isi2bilibl_i5b2i2lsi2bi_)
  | 0, _, _, _, _, _, _, _, _, _, _, _, _, _, _, _, _, _, _, _, _, _, _, _, _, _, _, _, _, _, _, _, _, _, _, _, _, _, _, _, _, _, _, _, _, _, _, _, _, _, _ => none
  | _ + 1, _, _, _, _, _, _, _, _, _, _, _, _, _, _, _, _, _, _, _, _, x20, _, x22, x23, x24, x25, x26, x27, x28, x29, x30, x31, x32, x33, x34, _, _, _, _, _, _, _, _, _, _, _, _, _, _, _ => some ⟨x20, (5), x22, x23, x24, x25, x26, x27, x28, x29, x30, x31, x32, [], x33, x34, []⟩
def F12_c1 : Nat → Int → List (Int) → List (Int) → Int → Int → Int → Int → Int → Int → Int → Int → Int → Int → Int → Int → Int → Int → Int → Int → Int → Int → Int → Int → Int → Int → Bool → Bool → Int → ByteArray → Int → Int → Bool → Int → Int → Bool → Int → Int → Int → Int → Int → Bool → Bool → Int → ByteArray → Int → Int → Bool → Int → Int → List (Int) → Option (Si5b2isi2bilibl_i5b2i2lsi2bi_)
  | 0, _, _, _, _, _, _, _, _, _, _, _, _, _, _, _, _, _, _, _, _, _, _, _, _, _, _, _, _, _, _, _, _, _, _, _, _, _, _, _, _, _, _, _, _, _, _, _, _, _, _ => none
  | n + 1, x0, x1, x2, x3, x4, x5, x6, x7, x8, x9, x10, x11, x12, x13, x14, x15, x16, x17, x18, x19, x20, x21, x22, x23, x24, x25, x26, x27, x28, x29, x30, x31, _, x33, x34, x35, x36, x37, x38, x39, x40, x41, x42, x43, x44, x45, x46, x47, x48, x49 => bif (ieq x20 (1)) then
 (F12_c4 n x0 x1 x2 x3 x4 x5 x6 x7 x8 x9 x10 x11 x12 x13 x14 x15 x16 x17 x18 x19 x20 x21 x22 x23 x24 x25 x26 x27 x28 x29 x30 x31 x23 x33 x34 x35 x36 x37 x38 x39 x40 x41 x42 x43 x44 x45 x46 x47 x48 x49)
 else (bif (ieq x20 (2)) then
 (bif (ieq x23 x0) then
 (bif (room (List.length [x23] + List.length x2) 8) then
 (bif ((inn (minI (3) (ofN (List.length ([x23] ++ x2))))) && (inbs 0 (Int.toNat (minI (3) (ofN (List.length ([x23] ++ x2))))) (List.length ([x23] ++ x2)))) then
 (F12_c5 n 0 ((Int.toNat (minI (3) (ofN (List.length ([x23] ++ x2))))) - 0) (ofN ((Int.toNat (minI (3) (ofN (List.length ([x23] ++ x2))))) - 0)) (0) false 0 ((Int.toNat (minI (3) (ofN (List.length ([x23] ++ x2))))) - 0) ([x23] ++ x2) x35 x36 x37 x38 x39 x40 x41 x42 x43 x44 x45 x46 x47 x48 x0 x1 x2 x3 x4 x5 x6 x7 x8 x9 x10 x11 x12 x13 x14 x15 x16 x17 x18 x19 x20 x21 x22 x23 x24 x25 x26 x27 x28 x29 x30 x31 x23 x33 x34 [] [])
 else (none))
 else (none))
 else (bif (ieq x20 (2)) then
 (bif (room (List.length ([((1), (0), (0), x23, (0), false, false, (0), (0), [], ByteArray.empty, (0), (0), false, (0))] : List (Int × Int × Int × Int × Int × Bool × Bool × Int × Int × (List (Int)) × ByteArray × Int × Int × Bool × Int))) 136) then
 (some ⟨x20, (2), x22, x23, x24, x25, x26, x27, x28, x29, x30, x31, x23, x49, x33, x34, ([((1), (0), (0), x23, (0), false, false, (0), (0), [], ByteArray.empty, (0), (0), false, (0))] : List (Int × Int × Int × Int × Int × Bool × Bool × Int × Int × (List (Int)) × ByteArray × Int × Int × Bool × Int))⟩)
 else (none))
 else (bif (ieq x23 x0) then
 (F12_c4 n x0 x1 x2 x3 x4 x5 x6 x7 x8 x9 x10 x11 x12 x13 x14 x15 x16 x17 x18 x19 x20 x21 x22 x23 x24 x25 x26 x27 x28 x29 x30 x31 x23 x33 true x35 x36 x37 x38 x39 x40 x41 x42 x43 x44 x45 x46 x47 x48 x49)
 else (bif (room (List.length ([((6), (0), (0), x23, (0), false, false, (0), (0), [], x28, (0), (0), false, (0))] : List (Int × Int × Int × Int × Int × Bool × Bool × Int × Int × (List (Int)) × ByteArray × Int × Int × Bool × Int))) 136) then
 (some ⟨x20, (4), x22, x23, x24, x25, x26, x27, x28, x29, x30, x31, x23, x49, x33, x34, ([((6), (0), (0), x23, (0), false, false, (0), (0), [], x28, (0), (0), false, (0))] : List (Int × Int × Int × Int × Int × Bool × Bool × Int × Int × (List (Int)) × ByteArray × Int × Int × Bool × Int))⟩)
 else (none)))))
 else (bif (ieq x20 (2)) then
 (bif (room (List.length ([((1), (0), (0), x23, (0), false, false, (0), (0), [], ByteArray.empty, (0), (0), false, (0))] : List (Int × Int × Int × Int × Int × Bool × Bool × Int × Int × (List (Int)) × ByteArray × Int × Int × Bool × Int))) 136) then
 (some ⟨x20, (2), x22, x23, x24, x25, x26, x27, x28, x29, x30, x31, x23, x49, x33, x34, ([((1), (0), (0), x23, (0), false, false, (0), (0), [], ByteArray.empty, (0), (0), false, (0))] : List (Int × Int × Int × Int × Int × Bool × Bool × Int × Int × (List (Int)) × ByteArray × Int × Int × Bool × Int))⟩)
 else (none))
 else (bif (ieq x23 x0) then
 (F12_c4 n x0 x1 x2 x3 x4 x5 x6 x7 x8 x9 x10 x11 x12 x13 x14 x15 x16 x17 x18 x19 x20 x21 x22 x23 x24 x25 x26 x27 x28 x29 x30 x31 x23 x33 true x35 x36 x37 x38 x39 x40 x41 x42 x43 x44 x45 x46 x47 x48 x49)
 else (bif (room (List.length ([((6), (0), (0), x23, (0), false, false, (0), (0), [], x28, (0), (0), false, (0))] : List (Int × Int × Int × Int × Int × Bool × Bool × Int × Int × (List (Int)) × ByteArray × Int × Int × Bool × Int))) 136) then
 (some ⟨x20, (4), x22, x23, x24, x25, x26, x27, x28, x29, x30, x31, x23, x49, x33, x34, ([((6), (0), (0), x23, (0), false, false, (0), (0), [], x28, (0), (0), false, (0))] : List (Int × Int × Int × Int × Int × Bool × Bool × Int × Int × (List (Int)) × ByteArray × Int × Int × Bool × Int))⟩)
 else (none)))))
def F12_c2 : Nat → Nat → Nat → Int → Int → Bool → Nat → Nat → List (Int) → Int → Int → Int → Int → Int → Bool → Bool → Int → ByteArray → Int → Int → Bool → Int → Int → Int → List (Int) → List (Int) → Int → Int → Int → Int → Int → Int → Int → Int → Int → Int → Int → Int → Int → Int → Int → Int → Int → Int → Int → Int → Int → Int → Bool → Bool → Int → ByteArray → Int → Int → Bool → Int → Int → Bool → List (Int) → List (Int × Int × Int × Int × Int × Bool × Bool × Int × Int × (List (Int)) × ByteArray × Int × Int × Bool × Int) → Option (Si5b2isi2bilibl_i5b2i2lsi2bi_)
  | 0, _, _, _, _, _, _, _, _, _, _, _, _, _, _, _, _, _, _, _, _, _, _, _, _, _, _, _, _, _, _, _, _, _, _, _, _, _, _, _, _, _, _, _, _, _, _, _, _, _, _, _, _, _, _, _, _, _, _, _ => none
  | n + 1, x0, x1, x2, x3, x4, x5, x6, x7, x8, x9, x10, x11, x12, x13, x14, x15, x16, x17, x18, x19, x20, x21, x22, x23, x24, x25, x26, x27, x28, x29, x30, x31, x32, x33, x34, x35, x36, x37, x38, x39, x40, x41, x42, x43, x44, x45, x46, x47, x48, x49, x50, x51, x52, x53, x54, x55, x56, x57, x58 => bif (ilt x3 x2) then
 (bif (inb x3 x1) then
 (bif (nlt (x0 + Int.toNat x3) (List.length x7)) then
 (bif ((inn x3) && (inbs 0 (Int.toNat x3) x6)) then
 (Option.bind (F90 FUEL (List.take ((Int.toNat x3) - 0) (List.drop (x5 + 0) x7)) (List.getD x7 (x0 + Int.toNat x3) 0)) fun y7 =>
 bif (!y7) then
 (bif (ieq (List.getD x7 (x0 + Int.toNat x3) 0) x22) then
 (F12_c2 n x0 x1 x2 (iadd .i64 x3 (1)) x4 x5 x6 x7 x8 x9 x10 x11 x12 x13 x14 x15 x16 x17 x18 x19 x20 x21 x22 x23 x24 x25 x26 x27 x28 x29 x30 x31 x32 x33 x34 x35 x36 x37 x38 x39 x40 x41 x42 x43 x44 x45 x46 x47 x48 x49 x50 x51 x52 x53 x54 x55 true x57 x58)
 else (bif (room (List.length x57 + List.length [(List.getD x7 (x0 + Int.toNat x3) 0)]) 8) then
 (bif (room (List.length x58 + List.length ([((5), (0), (0), (List.getD x7 (x0 + Int.toNat x3) 0), (0), false, false, (0), (0), [], x50, x51, x52, x53, (0))] : List (Int × Int × Int × Int × Int × Bool × Bool × Int × Int × (List (Int)) × ByteArray × Int × Int × Bool × Int))) 136) then
 (F12_c2 n x0 x1 x2 (iadd .i64 x3 (1)) x4 x5 x6 x7 x8 x9 x10 x11 x12 x13 x14 x15 x16 x17 x18 x19 x20 x21 x22 x23 x24 x25 x26 x27 x28 x29 x30 x31 x32 x33 x34 x35 x36 x37 x38 x39 x40 x41 x42 x43 x44 x45 x46 x47 x48 x49 x50 x51 x52 x53 x54 x55 x56 (x57 ++ [(List.getD x7 (x0 + Int.toNat x3) 0)]) (x58 ++ ([((5), (0), (0), (List.getD x7 (x0 + Int.toNat x3) 0), (0), false, false, (0), (0), [], x50, x51, x52, x53, (0))] : List (Int × Int × Int × Int × Int × Bool × Bool × Int × Int × (List (Int)) × ByteArray × Int × Int × Bool × Int))))
 else (none))
 else (none)))
 else (F12_c2 n x0 x1 x2 (iadd .i64 x3 (1)) x4 x5 x6 x7 x8 x9 x10 x11 x12 x13 x14 x15 x16 x17 x18 x19 x20 x21 x22 x23 x24 x25 x26 x27 x28 x29 x30 x31 x32 x33 x34 x35 x36 x37 x38 x39 x40 x41 x42 x43 x44 x45 x46 x47 x48 x49 x50 x51 x52 x53 x54 x55 x56 x57 x58))
 else (none))
 else (none))
 else (none))
 else (bif (ieq (ofN (List.length x57)) (0)) then
 (some ⟨x42, (5), x44, x45, x46, x47, x48, x49, x50, x51, x52, x53, x54, [], x55, x56, x58⟩)
 else (some ⟨x42, (3), x44, x45, x46, x47, x48, x49, x50, x51, x52, x53, x54, x57, x55, x56, x58⟩))
def F12_c3 : Nat → Int → Int → Int → List (Int) → Int → Int → List (Int) → List (Int) → Int → Int → Int → Int → Int → Int → Int → Int → Int → Int → Int → Int → Int → Int → Int → Int → Int → Int → Int → Int → Int → Int → Bool → Bool → Int → ByteArray → Int → Int → Bool → Int → Int → Bool → Int → Int → Int → Int → Int → Bool → Bool → Int → ByteArray → Int → Int → Bool → Int → Int → Option (Si5b2isi2bilibl_i5b2i2lsi2bi_)
  | 0, _, _, _, _, _, _, _, _, _, _, _, _, _, _, _, _, _, _, _, _, _, _, _, _, _, _, _, _, _, _, _, _, _, _, _, _, _, _, _, _, _, _, _, _, _, _, _, _, _, _, _, _, _, _ => none
  | n + 1, x0, x1, x2, x3, x4, x5, x6, x7, x8, x9, x10, x11, x12, x13, x14, x15, x16, x17, x18, x19, x20, x21, x22, x23, x24, x25, x26, x27, x28, x29, x30, x31, x32, x33, x34, x35, x36, x37, x38, x39, x40, x41, x42, x43, x44, x45, x46, x47, x48, x49, x50, x51, x52, x53 => bif (ilt x1 x0) then
 (bif (inb x1 (List.length x3)) then
 (bif (nlt (Int.toNat x1) (List.length x3)) then
 (bif (ieq (List.getD x3 (Int.toNat x1) 0) x4) then
 (bif (ieq x1 (-1)) then
 (bif (ine x2 (0)) then
 (bif (ieq (ofN (List.length x3)) (0)) then
 (some ⟨x25, (5), x27, x28, x29, x30, x31, x32, x33, x34, x35, x36, x37, [], x2, x39, []⟩)
 else (some ⟨x25, x26, x27, x28, x29, x30, x31, x32, x33, x34, x35, x36, x37, x3, x2, x39, []⟩))
 else (bif (ieq (ofN (List.length x3)) (0)) then
 (some ⟨x25, (5), x27, x28, x29, x30, x31, x32, x33, x34, x35, x36, x37, [], x38, x39, []⟩)
 else (some ⟨x25, x26, x27, x28, x29, x30, x31, x32, x33, x34, x35, x36, x37, x3, x38, x39, []⟩)))
 else (F12_c6 n x1 (iadd .i64 x1 (1)) x2 x3 x4 x5 x6 x7 x8 x9 x10 x11 x12 x13 x14 x15 x16 x17 x18 x19 x20 x21 x22 x23 x24 x25 x26 x27 x28 x29 x30 x31 x32 x33 x34 x35 x36 x37 x38 x39 x40 x41 x42 x43 x44 x45 x46 x47 x48 x49 x50 x51 x52 x53))
 else (F12_c3 n x0 (iadd .i64 x1 (1)) x2 x3 x4 x5 x6 x7 x8 x9 x10 x11 x12 x13 x14 x15 x16 x17 x18 x19 x20 x21 x22 x23 x24 x25 x26 x27 x28 x29 x30 x31 x32 x33 x34 x35 x36 x37 x38 x39 x40 x41 x42 x43 x44 x45 x46 x47 x48 x49 x50 x51 x52 x53))
 else (none))
 else (none))
 else (bif (ieq (-1) (-1)) then
 (bif (ine x2 (0)) then
 (bif (ieq (ofN (List.length x3)) (0)) then
 (some ⟨x25, (5), x27, x28, x29, x30, x31, x32, x33, x34, x35, x36, x37, [], x2, x39, []⟩)
 else (some ⟨x25, x26, x27, x28, x29, x30, x31, x32, x33, x34, x35, x36, x37, x3, x2, x39, []⟩))
 else (bif (ieq (ofN (List.length x3)) (0)) then
 (some ⟨x25, (5), x27, x28, x29, x30, x31, x32, x33, x34, x35, x36, x37, [], x38, x39, []⟩)
 else (some ⟨x25, x26, x27, x28, x29, x30, x31, x32, x33, x34, x35, x36, x37, x3, x38, x39, []⟩)))
 else (F12_c6 n (-1) (iadd .i64 (-1) (1)) x2 x3 x4 x5 x6 x7 x8 x9 x10 x11 x12 x13 x14 x15 x16 x17 x18 x19 x20 x21 x22 x23 x24 x25 x26 x27 x28 x29 x30 x31 x32 x33 x34 x35 x36 x37 x38 x39 x40 x41 x42 x43 x44 x45 x46 x47 x48 x49 x50 x51 x52 x53))
def F12_c4 : Nat → Int → List (Int) → List (Int) → Int → Int → Int → Int → Int → Int → Int → Int → Int → Int → Int → Int → Int → Int → Int → Int → Int → Int → Int → Int → Int → Int → Bool → Bool → Int → ByteArray → Int → Int → Bool → Int → Int → Bool → Int → Int → Int → Int → Int → Bool → Bool → Int → ByteArray → Int → Int → Bool → Int → Int → List (Int) → Option (Si5b2isi2bilibl_i5b2i2lsi2bi_)
  | 0, _, _, _, _, _, _, _, _, _, _, _, _, _, _, _, _, _, _, _, _, _, _, _, _, _, _, _, _, _, _, _, _, _, _, _, _, _, _, _, _, _, _, _, _, _, _, _, _, _, _ => none
  | _ + 1, _, _, _, _, _, _, _, _, _, _, _, _, _, _, _, _, _, _, _, _, x20, _, x22, x23, x24, x25, x26, x27, x28, x29, x30, x31, x32, _, x34, _, _, _, _, _, _, _, _, _, _, _, _, _, _, _ => some ⟨x20, (5), x22, x23, x24, x25, x26, x27, x28, x29, x30, x31, x32, [], (0), x34, []⟩
def F12_c5 : Nat → Nat → Nat → Int → Int → Bool → Nat → Nat → List (Int) → Int → Int → Int → Int → Int → Bool → Bool → Int → ByteArray → Int → Int → Bool → Int → Int → Int → List (Int) → List (Int) → Int → Int → Int → Int → Int → Int → Int → Int → Int → Int → Int → Int → Int → Int → Int → Int → Int → Int → Int → Int → Int → Int → Bool → Bool → Int → ByteArray → Int → Int → Bool → Int → Int → Bool → List (Int) → List (Int × Int × Int × Int × Int × Bool × Bool × Int × Int × (List (Int)) × ByteArray × Int × Int × Bool × Int) → Option (Si5b2isi2bilibl_i5b2i2lsi2bi_)
  | 0, _, _, _, _, _, _, _, _, _, _, _, _, _, _, _, _, _, _, _, _, _, _, _, _, _, _, _, _, _, _, _, _, _, _, _, _, _, _, _, _, _, _, _, _, _, _, _, _, _, _, _, _, _, _, _, _, _, _, _ => none
  | n + 1, x0, x1, x2, x3, x4, x5, x6, x7, x8, x9, x10, x11, x12, x13, x14, x15, x16, x17, x18, x19, x20, x21, x22, x23, x24, x25, x26, x27, x28, x29, x30, x31, x32, x33, x34, x35, x36, x37, x38, x39, x40, x41, x42, x43, x44, x45, x46, x47, x48, x49, x50, x51, x52, x53, x54, x55, x56, x57, x58 => bif (ilt x3 x2) then
 (bif (inb x3 x1) then
 (bif (nlt (x0 + Int.toNat x3) (List.length x7)) then
 (bif ((inn x3) && (inbs 0 (Int.toNat x3) x6)) then
 (Option.bind (F90 FUEL (List.take ((Int.toNat x3) - 0) (List.drop (x5 + 0) x7)) (List.getD x7 (x0 + Int.toNat x3) 0)) fun y8 =>
 bif (!y8) then
 (bif (ieq (List.getD x7 (x0 + Int.toNat x3) 0) x22) then
 (F12_c5 n x0 x1 x2 (iadd .i64 x3 (1)) x4 x5 x6 x7 x8 x9 x10 x11 x12 x13 x14 x15 x16 x17 x18 x19 x20 x21 x22 x23 x24 x25 x26 x27 x28 x29 x30 x31 x32 x33 x34 x35 x36 x37 x38 x39 x40 x41 x42 x43 x44 x45 x46 x47 x48 x49 x50 x51 x52 x53 x54 x55 true x57 x58)
 else (bif (room (List.length x57 + List.length [(List.getD x7 (x0 + Int.toNat x3) 0)]) 8) then
 (bif (room (List.length x58 + List.length ([((5), (0), (0), (List.getD x7 (x0 + Int.toNat x3) 0), (0), false, false, (0), (0), [], x50, x51, x52, x53, (0))] : List (Int × Int × Int × Int × Int × Bool × Bool × Int × Int × (List (Int)) × ByteArray × Int × Int × Bool × Int))) 136) then
 (F12_c5 n x0 x1 x2 (iadd .i64 x3 (1)) x4 x5 x6 x7 x8 x9 x10 x11 x12 x13 x14 x15 x16 x17 x18 x19 x20 x21 x22 x23 x24 x25 x26 x27 x28 x29 x30 x31 x32 x33 x34 x35 x36 x37 x38 x39 x40 x41 x42 x43 x44 x45 x46 x47 x48 x49 x50 x51 x52 x53 x54 x55 x56 (x57 ++ [(List.getD x7 (x0 + Int.toNat x3) 0)]) (x58 ++ ([((5), (0), (0), (List.getD x7 (x0 + Int.toNat x3) 0), (0), false, false, (0), (0), [], x50, x51, x52, x53, (0))] : List (Int × Int × Int × Int × Int × Bool × Bool × Int × Int × (List (Int)) × ByteArray × Int × Int × Bool × Int))))
 else (none))
 else (none)))
 else (F12_c5 n x0 x1 x2 (iadd .i64 x3 (1)) x4 x5 x6 x7 x8 x9 x10 x11 x12 x13 x14 x15 x16 x17 x18 x19 x20 x21 x22 x23 x24 x25 x26 x27 x28 x29 x30 x31 x32 x33 x34 x35 x36 x37 x38 x39 x40 x41 x42 x43 x44 x45 x46 x47 x48 x49 x50 x51 x52 x53 x54 x55 x56 x57 x58))
 else (none))
 else (none))
 else (none))
 else (bif (ieq (ofN (List.length x57)) (0)) then
 (some ⟨x42, (5), x44, x45, x46, x47, x48, x49, x50, x51, x52, x53, x54, [], x55, x56, x58⟩)
 else (some ⟨x42, (3), x44, x45, x46, x47, x48, x49, x50, x51, x52, x53, x54, x57, x55, x56, x58⟩))
def F12_c6 : Nat → Int → Int → Int → List (Int) → Int → Int → List (Int) → List (Int) → Int → Int → Int → Int → Int → Int → Int → Int → Int → Int → Int → Int → Int → Int → Int → Int → Int → Int → Int → Int → Int → Int → Bool → Bool → Int → ByteArray → Int → Int → Bool → Int → Int → Bool → Int → Int → Int → Int → Int → Bool → Bool → Int → ByteArray → Int → Int → Bool → Int → Int → Option (Si5b2isi2bilibl_i5b2i2lsi2bi_)
  | 0, _, _, _, _, _, _, _, _, _, _, _, _, _, _, _, _, _, _, _, _, _, _, _, _, _, _, _, _, _, _, _, _, _, _, _, _, _, _, _, _, _, _, _, _, _, _, _, _, _, _, _, _, _, _ => none
  | n + 1, x0, x1, x2, x3, x4, x5, x6, x7, x8, x9, x10, x11, x12, x13, x14, x15, x16, x17, x18, x19, x20, x21, x22, x23, x24, x25, x26, x27, x28, x29, x30, x31, x32, x33, x34, x35, x36, x37, x38, x39, x40, x41, x42, x43, x44, x45, x46, x47, x48, x49, x50, x51, x52, x53 => bif (ilt x1 (ofN (List.length x3))) then
 (bif (inb x1 (List.length x3)) then
 (bif (nlt (Int.toNat x1) (List.length x3)) then
 (bif (!(ieq (List.getD x3 (Int.toNat x1) 0) x4)) then
 (bif (inb x0 (List.length x3)) then
 (bif (nlt (Int.toNat x0) (List.length x3)) then
 (F12_c6 n (iadd .i64 x0 (1)) (iadd .i64 x1 (1)) x2 (List.set x3 (Int.toNat x0) (List.getD x3 (Int.toNat x1) 0)) x4 x5 x6 x7 x8 x9 x10 x11 x12 x13 x14 x15 x16 x17 x18 x19 x20 x21 x22 x23 x24 x25 x26 x27 x28 x29 x30 x31 x32 x33 x34 x35 x36 x37 x38 x39 x40 x41 x42 x43 x44 x45 x46 x47 x48 x49 x50 x51 x52 x53)
 else (none))
 else (none))
 else (F12_c6 n x0 (iadd .i64 x1 (1)) x2 x3 x4 x5 x6 x7 x8 x9 x10 x11 x12 x13 x14 x15 x16 x17 x18 x19 x20 x21 x22 x23 x24 x25 x26 x27 x28 x29 x30 x31 x32 x33 x34 x35 x36 x37 x38 x39 x40 x41 x42 x43 x44 x45 x46 x47 x48 x49 x50 x51 x52 x53))
 else (none))
 else (none))
 else (bif (((inn x0) && true) && (inbs (Int.toNat x0) (List.length x3) (List.length x3))) then
 (bif (nlt 0 ((List.length x3) - (Int.toNat x0))) then
 (bif ((inn x0) && (inbs 0 (Int.toNat x0) (List.length (List.take (Int.toNat x0) x3 ++ List.replicate ((List.length x3) - (Int.toNat x0)) (0) ++ List.drop ((Int.toNat x0) + ((List.length x3) - (Int.toNat x0))) x3)))) then
 (bif (ine x2 (0)) then
 (bif (ieq (ofN ((Int.toNat x0) - 0)) (0)) then
 (some ⟨x25, (5), x27, x28, x29, x30, x31, x32, x33, x34, x35, x36, x37, [], x2, x39, []⟩)
 else (some ⟨x25, x26, x27, x28, x29, x30, x31, x32, x33, x34, x35, x36, x37, (List.take ((Int.toNat x0) - 0) (List.drop 0 (List.take (Int.toNat x0) x3 ++ List.replicate ((List.length x3) - (Int.toNat x0)) (0) ++ List.drop ((Int.toNat x0) + ((List.length x3) - (Int.toNat x0))) x3))), x2, x39, []⟩))
 else (bif (ieq (ofN ((Int.toNat x0) - 0)) (0)) then
 (some ⟨x25, (5), x27, x28, x29, x30, x31, x32, x33, x34, x35, x36, x37, [], x38, x39, []⟩)
 else (some ⟨x25, x26, x27, x28, x29, x30, x31, x32, x33, x34, x35, x36, x37, (List.take ((Int.toNat x0) - 0) (List.drop 0 (List.take (Int.toNat x0) x3 ++ List.replicate ((List.length x3) - (Int.toNat x0)) (0) ++ List.drop ((Int.toNat x0) + ((List.length x3) - (Int.toNat x0))) x3))), x38, x39, []⟩)))
 else (none))
 else (none))
 else (none))
end
def F12 (n : Nat) (a0 : Int) (a1 a2 : List (Int)) (a3 a4 a5 a6 a7 a8 a9 a10 a11 a12 a13 a14 a15 a16 a17 a18 a19 a20 a21 a22 a23 a24 : Int) (a25 a26 : Bool) (a27 : Int) (a28 : ByteArray) (a29 a30 : Int) (a31 : Bool) (a32 : Int) (a33 : List (Int)) (a34 a35 a36 a37 a38 a39 : Int) (a40 a41 : Bool) (a42 a43 : Int) (a44 : List (Int)) (a45 : ByteArray) (a46 a47 : Int) (a48 : Bool) (a49 : Int) : Option (Si5b2isi2bilibl_i5b2i2lsi2bi_) :=
  Option.bind (F24 FUEL a20 a21 a22 a23 a24 a25 a26 a27 a28 a29 a30 a31 a32 a33 a34) fun y1 =>
 Option.bind (F26 FUEL a0 a1 a2 a3 a4 a5 a6 a7 a8 a9 a10 a11 a12 a13 a14 a15 a16 a17 a18 a19) fun y2 =>
 bif y2 then
 (Option.bind (F30 FUEL a35 a36 a37 a38 a39 a40 a41 a42 a43 a44 a45 a46 a47 a48 a49) fun y3 =>
 bif y3 then
 (bif (ieq a38 a0) then
 (bif (ieq a21 (1)) then
 (bif (ieq a35 (10)) then
 (bif (ieq a37 y1.q3) then
 (Option.bind (F69 FUEL a0 a1 a2 a3 a4 a5 a6 a7 a8 a9 a10 a11 a12 a13 a14 a15 a16 a17 a18 a19 y1.q2 y1.q3 y1.q4 y1.q5 y1.q6 y1.q7 a35 a36 a37 a38 a39 a40 a41 a42 a43 a44 a45 a46 a47 a48 a49) fun y4 =>
 bif (ine y4.q5 (0)) then
 (F12_c0 n a0 a1 a2 a3 a4 a5 a6 a7 a8 a9 a10 a11 a12 a13 a14 a15 a16 a17 a18 a19 y1.q0 y1.q1 y4.q0 y4.q1 y4.q2 y4.q3 y4.q4 y4.q5 y1.q8 y1.q9 y1.q10 y1.q11 y1.q12 y4.q5 false (0) (0) (0) (0) (0) false false (0) ByteArray.empty (0) (0) false (0) (0) y1.q14)
 else (bif y4.q4 then
 (F12_c1 n a0 a1 a2 a3 a4 a5 a6 a7 a8 a9 a10 a11 a12 a13 a14 a15 a16 a17 a18 a19 y1.q0 y1.q1 y4.q0 y4.q1 y4.q2 y4.q3 y4.q4 y4.q5 y1.q8 y1.q9 y1.q10 y1.q11 y1.q12 y1.q13 false (0) (0) (0) (0) (0) false false (0) ByteArray.empty (0) (0) false (0) (0) y1.q14)
 else (Option.bind (F52 FUEL y4.q0 y4.q1 y4.q2 y4.q3 y4.q4 y4.q5) fun y5 =>
 bif y5.q14 then
 (bif (room (List.length ([(y5.q0, y5.q1, y5.q2, y5.q3, y5.q4, y5.q5, y5.q6, y5.q7, y5.q8, [], y5.q9, y5.q10, y5.q11, y5.q12, y5.q13)] : List (Int × Int × Int × Int × Int × Bool × Bool × Int × Int × (List (Int)) × ByteArray × Int × Int × Bool × Int))) 136) then
 (some ⟨y1.q0, (1), y4.q0, y4.q1, y4.q2, y4.q3, y4.q4, y4.q5, y1.q8, y1.q9, y1.q10, y1.q11, y1.q12, y1.q14, y1.q13, false, ([(y5.q0, y5.q1, y5.q2, y5.q3, y5.q4, y5.q5, y5.q6, y5.q7, y5.q8, [], y5.q9, y5.q10, y5.q11, y5.q12, y5.q13)] : List (Int × Int × Int × Int × Int × Bool × Bool × Int × Int × (List (Int)) × ByteArray × Int × Int × Bool × Int))⟩)
 else (none))
 else (some ⟨y1.q0, (1), y4.q0, y4.q1, y4.q2, y4.q3, y4.q4, y4.q5, y1.q8, y1.q9, y1.q10, y1.q11, y1.q12, y1.q14, y1.q13, false, []⟩))))
 else (some ⟨y1.q0, y1.q1, y1.q2, y1.q3, y1.q4, y1.q5, y1.q6, y1.q7, y1.q8, y1.q9, y1.q10, y1.q11, y1.q12, y1.q14, y1.q13, false, []⟩))
 else (some ⟨y1.q0, y1.q1, y1.q2, y1.q3, y1.q4, y1.q5, y1.q6, y1.q7, y1.q8, y1.q9, y1.q10, y1.q11, y1.q12, y1.q14, y1.q13, false, []⟩))
 else (bif (ieq a21 (2)) then
 (bif (ieq a35 (7)) then
 (bif (ieq a37 y1.q12) then
 (bif (room (List.length [y1.q12] + List.length a44) 8) then
 (bif ((inn (minI (3) (ofN (List.length ([y1.q12] ++ a44))))) && (inbs 0 (Int.toNat (minI (3) (ofN (List.length ([y1.q12] ++ a44))))) (List.length ([y1.q12] ++ a44)))) then
 (F12_c2 n 0 ((Int.toNat (minI (3) (ofN (List.length ([y1.q12] ++ a44))))) - 0) (ofN ((Int.toNat (minI (3) (ofN (List.length ([y1.q12] ++ a44))))) - 0)) (0) false 0 ((Int.toNat (minI (3) (ofN (List.length ([y1.q12] ++ a44))))) - 0) ([y1.q12] ++ a44) (0) (0) (0) (0) (0) false false (0) ByteArray.empty (0) (0) false (0) (0) a0 a1 a2 a3 a4 a5 a6 a7 a8 a9 a10 a11 a12 a13 a14 a15 a16 a17 a18 a19 y1.q0 y1.q1 y1.q2 y1.q3 y1.q4 y1.q5 y1.q6 y1.q7 y1.q8 y1.q9 y1.q10 y1.q11 y1.q12 y1.q13 false [] [])
 else (none))
 else (none))
 else (some ⟨y1.q0, y1.q1, y1.q2, y1.q3, y1.q4, y1.q5, y1.q6, y1.q7, y1.q8, y1.q9, y1.q10, y1.q11, y1.q12, y1.q14, y1.q13, false, []⟩))
 else (some ⟨y1.q0, y1.q1, y1.q2, y1.q3, y1.q4, y1.q5, y1.q6, y1.q7, y1.q8, y1.q9, y1.q10, y1.q11, y1.q12, y1.q14, y1.q13, false, []⟩))
 else (bif (ieq a21 (3)) then
 (bif (ieq a35 (11)) then
 (Option.bind (F90 FUEL y1.q14 a37) fun y6 =>
 bif (!y6) then
 (some ⟨y1.q0, y1.q1, y1.q2, y1.q3, y1.q4, y1.q5, y1.q6, y1.q7, y1.q8, y1.q9, y1.q10, y1.q11, y1.q12, y1.q14, y1.q13, false, []⟩)
 else (F12_c3 n (ofN (List.length y1.q14)) (0) a49 y1.q14 a37 a0 a1 a2 a3 a4 a5 a6 a7 a8 a9 a10 a11 a12 a13 a14 a15 a16 a17 a18 a19 y1.q0 y1.q1 y1.q2 y1.q3 y1.q4 y1.q5 y1.q6 y1.q7 y1.q8 y1.q9 y1.q10 y1.q11 y1.q12 y1.q13 false (0) (0) (0) (0) (0) false false (0) ByteArray.empty (0) (0) false (0) (0)))
 else (some ⟨y1.q0, y1.q1, y1.q2, y1.q3, y1.q4, y1.q5, y1.q6, y1.q7, y1.q8, y1.q9, y1.q10, y1.q11, y1.q12, y1.q14, y1.q13, false, []⟩))
 else (bif (ieq a21 (4)) then
 (bif (ieq a35 (12)) then
 (bif (ieq a37 y1.q12) then
 (bif (ieq a49 (0)) then
 (some ⟨y1.q0, (5), y1.q2, y1.q3, y1.q4, y1.q5, y1.q6, y1.q7, a45, a46, a47, a48, y1.q12, [], a49, false, []⟩)
 else (some ⟨y1.q0, (5), y1.q2, y1.q3, y1.q4, y1.q5, y1.q6, y1.q7, y1.q8, y1.q9, y1.q10, y1.q11, y1.q12, [], a49, false, []⟩))
 else (some ⟨y1.q0, y1.q1, y1.q2, y1.q3, y1.q4, y1.q5, y1.q6, y1.q7, y1.q8, y1.q9, y1.q10, y1.q11, y1.q12, y1.q14, y1.q13, false, []⟩))
 else (some ⟨y1.q0, y1.q1, y1.q2, y1.q3, y1.q4, y1.q5, y1.q6, y1.q7, y1.q8, y1.q9, y1.q10, y1.q11, y1.q12, y1.q14, y1.q13, false, []⟩))
 else (some ⟨y1.q0, y1.q1, y1.q2, y1.q3, y1.q4, y1.q5, y1.q6, y1.q7, y1.q8, y1.q9, y1.q10, y1.q11, y1.q12, y1.q14, y1.q13, false, []⟩)))))
 else (some ⟨y1.q0, y1.q1, y1.q2, y1.q3, y1.q4, y1.q5, y1.q6, y1.q7, y1.q8, y1.q9, y1.q10, y1.q11, y1.q12, y1.q14, y1.q13, false, []⟩))
 else (some ⟨y1.q0, y1.q1, y1.q2, y1.q3, y1.q4, y1.q5, y1.q6, y1.q7, y1.q8, y1.q9, y1.q10, y1.q11, y1.q12, y1.q14, y1.q13, false, []⟩))
 else (some ⟨y1.q0, y1.q1, y1.q2, y1.q3, y1.q4, y1.q5, y1.q6, y1.q7, y1.q8, y1.q9, y1.q10, y1.q11, y1.q12, y1.q14, y1.q13, false, []⟩)
def F58_c0 : Nat → Int → Int → Int → Bool → Bool → Int → Int → Int → Int → Bool → Bool → Int → Option (Si3b2i)
  | 0, _, _, _, _, _, _, _, _, _, _, _, _ => none
  | _ + 1, x0, x1, x2, x3, x4, x5, _, _, _, _, _, _ => some ⟨x0, x1, x2, x3, x4, x5⟩
def F58 (n : Nat) (a0 : Int) (a1 a2 : List (Int)) (a3 a4 a5 a6 a7 a8 a9 a10 a11 a12 a13 a14 a15 a16 a17 a18 a19 a20 a21 a22 : Int) (a23 a24 : Bool) (a25 : Int) : Option (Si3b2i) :=
  Option.bind (F26 FUEL a0 a1 a2 a3 a4 a5 a6 a7 a8 a9 a10 a11 a12 a13 a14 a15 a16 a17 a18 a19) fun y1 =>
 bif (!y1) then
 (F58_c0 n a20 a21 a22 a23 a24 a25 (0) (0) (0) false false (0))
 else (Option.bind (F87 FUEL a20 a21 a22 a23 a24 a25) fun y2 =>
 bif (!y2) then
 (F58_c0 n a20 a21 a22 a23 a24 a25 (0) (0) (0) false false (0))
 else (Option.bind (F86 FUEL a20 a21 a22 a23 a24 a25) fun y3 =>
 bif y3 then
 (F58_c0 n a20 a21 a22 a23 a24 a25 (0) (0) (0) false false (0))
 else (Option.bind (F89 FUEL a20 a21 a22 a23 a24 a25) fun y4 =>
 bif (!y4.q6) then
 (F58_c0 n y4.q0 y4.q1 y4.q2 y4.q3 y4.q4 y4.q5 (0) (0) (0) false false (0))
 else (Option.bind (F85 FUEL a0 a1 a2 a3 a4 a5 a6 a7 a8 a9 a10 a11 a12 a13 a14 a15 a16 a17 a18 a19 y4.q0 true) fun y5 =>
 some ⟨y4.q0, y5.1, y4.q2, true, y5.2, y4.q5⟩))))
mutual
def F11_c0 : Nat → Int → List (Int) → List (Int) → Int → Int → Int → Int → Int → Int → Int → Int → Int → Int → Int → Int → Int → Int → Int → Int → Int → Int → Int → Int → Int → Int → Bool → Bool → Int → ByteArray → Int → Int → Bool → Int → Int → Bool → Int → Int → Int → Int → Int → Bool → Bool → Int → ByteArray → Int → Int → Bool → Int → Int → List (Int) → Option (Si5b2isi2bilibl_i5b2i2lsi2bi_)
  | 0, _, _, _, _, _, _, _, _, _, _, _, _, _, _, _, _, _, _, _, _, _, _, _, _, _, _, _, _, _, _, _, _, _, _, _, _, _, _, _, _, _, _, _, _, _, _, _, _, _, _ => none
  | _ + 1, _, _, _, _, _, _, _, _, _, _, _, _, _, _, _, _, _, _, _, _, x20, _, x22, x23, x24, x25, x26, x27, x28, x29, x30, x31, x32, x33, x34, _, _, _, _, _, _, _, _, _, _, _, _, _, _, _ => some ⟨x20, (5), x22, x23, x24, x25, x26, x27, x28, x29, x30, x31, x32, [], x33, x34, []⟩
def F11_c1 : Nat → Int → List (Int) → List (Int) → Int → Int → Int → Int → Int → Int → Int → Int → Int → Int → Int → Int → Int → Int → Int → Int → Int → Int → Int → Int → Int → Int → Bool → Bool → Int → ByteArray → Int → Int → Bool → Int → Int → Bool → Int → Int → Int → Int → Int → Bool → Bool → Int → ByteArray → Int → Int → Bool → Int → Int → List (Int) → Option (Si5b2isi2bilibl_i5b2i2lsi2bi_)
  | 0, _, _, _, _, _, _, _, _, _, _, _, _, _, _, _, _, _, _, _, _, _, _, _, _, _, _, _, _, _, _, _, _, _, _, _, _, _, _, _, _, _, _, _, _, _, _, _, _, _, _ => none
  | n + 1, x0, x1, x2, x3, x4, x5, x6, x7, x8, x9, x10, x11, x12, x13, x14, x15, x16, x17, x18, x19, x20, x21, x22, x23, x24, x25, x26, x27, x28, x29, x30, x31, _, x33, x34, x35, x36, x37, x38, x39, x40, x41, x42, x43, x44, x45, x46, x47, x48, x49 => bif (ieq x20 (1)) then
 (F11_c3 n x0 x1 x2 x3 x4 x5 x6 x7 x8 x9 x10 x11 x12 x13 x14 x15 x16 x17 x18 x19 x20 x21 x22 x23 x24 x25 x26 x27 x28 x29 x30 x31 x23 x33 x34 x35 x36 x37 x38 x39 x40 x41 x42 x43 x44 x45 x46 x47 x48 x49)
 else (bif (ieq x20 (2)) then
 (bif (ieq x23 x0) then
 (bif (room (List.length [x23] + List.length x2) 8) then
 (bif ((inn (minI (3) (ofN (List.length ([x23] ++ x2))))) && (inbs 0 (Int.toNat (minI (3) (ofN (List.length ([x23] ++ x2))))) (List.length ([x23] ++ x2)))) then
 (F11_c4 n 0 ((Int.toNat (minI (3) (ofN (List.length ([x23] ++ x2))))) - 0) (ofN ((Int.toNat (minI (3) (ofN (List.length ([x23] ++ x2))))) - 0)) (0) false 0 ((Int.toNat (minI (3) (ofN (List.length ([x23] ++ x2))))) - 0) ([x23] ++ x2) x35 x36 x37 x38 x39 x40 x41 x42 x43 x44 x45 x46 x47 x48 x0 x1 x2 x3 x4 x5 x6 x7 x8 x9 x10 x11 x12 x13 x14 x15 x16 x17 x18 x19 x20 x21 x22 x23 x24 x25 x26 x27 x28 x29 x30 x31 x23 x33 x34 [] [])
 else (none))
 else (none))
 else (bif (ieq x20 (2)) then
 (bif (room (List.length ([((1), (0), (0), x23, (0), false, false, (0), (0), [], ByteArray.empty, (0), (0), false, (0))] : List (Int × Int × Int × Int × Int × Bool × Bool × Int × Int × (List (Int)) × ByteArray × Int × Int × Bool × Int))) 136) then
 (some ⟨x20, (2), x22, x23, x24, x25, x26, x27, x28, x29, x30, x31, x23, x49, x33, x34, ([((1), (0), (0), x23, (0), false, false, (0), (0), [], ByteArray.empty, (0), (0), false, (0))] : List (Int × Int × Int × Int × Int × Bool × Bool × Int × Int × (List (Int)) × ByteArray × Int × Int × Bool × Int))⟩)
 else (none))
 else (bif (ieq x23 x0) then
 (F11_c3 n x0 x1 x2 x3 x4 x5 x6 x7 x8 x9 x10 x11 x12 x13 x14 x15 x16 x17 x18 x19 x20 x21 x22 x23 x24 x25 x26 x27 x28 x29 x30 x31 x23 x33 true x35 x36 x37 x38 x39 x40 x41 x42 x43 x44 x45 x46 x47 x48 x49)
 else (bif (room (List.length ([((6), (0), (0), x23, (0), false, false, (0), (0), [], x28, (0), (0), false, (0))] : List (Int × Int × Int × Int × Int × Bool × Bool × Int × Int × (List (Int)) × ByteArray × Int × Int × Bool × Int))) 136) then
 (some ⟨x20, (4), x22, x23, x24, x25, x26, x27, x28, x29, x30, x31, x23, x49, x33, x34, ([((6), (0), (0), x23, (0), false, false, (0), (0), [], x28, (0), (0), false, (0))] : List (Int × Int × Int × Int × Int × Bool × Bool × Int × Int × (List (Int)) × ByteArray × Int × Int × Bool × Int))⟩)
 else (none)))))
 else (bif (ieq x20 (2)) then
 (bif (room (List.length ([((1), (0), (0), x23, (0), false, false, (0), (0), [], ByteArray.empty, (0), (0), false, (0))] : List (Int × Int × Int × Int × Int × Bool × Bool × Int × Int × (List (Int)) × ByteArray × Int × Int × Bool × Int))) 136) then
 (some ⟨x20, (2), x22, x23, x24, x25, x26, x27, x28, x29, x30, x31, x23, x49, x33, x34, ([((1), (0), (0), x23, (0), false, false, (0), (0), [], ByteArray.empty, (0), (0), false, (0))] : List (Int × Int × Int × Int × Int × Bool × Bool × Int × Int × (List (Int)) × ByteArray × Int × Int × Bool × Int))⟩)
 else (none))
 else (bif (ieq x23 x0) then
 (F11_c3 n x0 x1 x2 x3 x4 x5 x6 x7 x8 x9 x10 x11 x12 x13 x14 x15 x16 x17 x18 x19 x20 x21 x22 x23 x24 x25 x26 x27 x28 x29 x30 x31 x23 x33 true x35 x36 x37 x38 x39 x40 x41 x42 x43 x44 x45 x46 x47 x48 x49)
 else (bif (room (List.length ([((6), (0), (0), x23, (0), false, false, (0), (0), [], x28, (0), (0), false, (0))] : List (Int × Int × Int × Int × Int × Bool × Bool × Int × Int × (List (Int)) × ByteArray × Int × Int × Bool × Int))) 136) then
 (some ⟨x20, (4), x22, x23, x24, x25, x26, x27, x28, x29, x30, x31, x23, x49, x33, x34, ([((6), (0), (0), x23, (0), false, false, (0), (0), [], x28, (0), (0), false, (0))] : List (Int × Int × Int × Int × Int × Bool × Bool × Int × Int × (List (Int)) × ByteArray × Int × Int × Bool × Int))⟩)
 else (none)))))
def F11_c2 : Nat → Int → Int → Int → List (Int) → Int → Int → List (Int) → List (Int) → Int → Int → Int → Int → Int → Int → Int → Int → Int → Int → Int → Int → Int → Int → Int → Int → Int → Int → Int → Int → Int → Int → Bool → Bool → Int → ByteArray → Int → Int → Bool → Int → Int → Bool → Int → Int → Int → Int → Int → Bool → Bool → Int → ByteArray → Int → Int → Bool → Int → Int → Option (Si5b2isi2bilibl_i5b2i2lsi2bi_)
  | 0, _, _, _, _, _, _, _, _, _, _, _, _, _, _, _, _, _, _, _, _, _, _, _, _, _, _, _, _, _, _, _, _, _, _, _, _, _, _, _, _, _, _, _, _, _, _, _, _, _, _, _, _, _, _ => none
  | n + 1, x0, x1, x2, x3, x4, x5, x6, x7, x8, x9, x10, x11, x12, x13, x14, x15, x16, x17, x18, x19, x20, x21, x22, x23, x24, x25, x26, x27, x28, x29, x30, x31, x32, x33, x34, x35, x36, x37, x38, x39, x40, x41, x42, x43, x44, x45, x46, x47, x48, x49, x50, x51, x52, x53 => bif (ilt x1 x0) then
 (bif (inb x1 (List.length x3)) then
 (bif (nlt (Int.toNat x1) (List.length x3)) then
 (bif (ieq (List.getD x3 (Int.toNat x1) 0) x4) then
 (bif (ieq x1 (-1)) then
 (bif (ine x2 (0)) then
 (bif (ieq (ofN (List.length x3)) (0)) then
 (some ⟨x25, (5), x27, x28, x29, x30, x31, x32, x33, x34, x35, x36, x37, [], x2, x39, []⟩)
 else (some ⟨x25, x26, x27, x28, x29, x30, x31, x32, x33, x34, x35, x36, x37, x3, x2, x39, []⟩))
 else (bif (ieq (ofN (List.length x3)) (0)) then
 (some ⟨x25, (5), x27, x28, x29, x30, x31, x32, x33, x34, x35, x36, x37, [], x38, x39, []⟩)
 else (some ⟨x25, x26, x27, x28, x29, x30, x31, x32, x33, x34, x35, x36, x37, x3, x38, x39, []⟩)))
 else (F11_c5 n x1 (iadd .i64 x1 (1)) x2 x3 x4 x5 x6 x7 x8 x9 x10 x11 x12 x13 x14 x15 x16 x17 x18 x19 x20 x21 x22 x23 x24 x25 x26 x27 x28 x29 x30 x31 x32 x33 x34 x35 x36 x37 x38 x39 x40 x41 x42 x43 x44 x45 x46 x47 x48 x49 x50 x51 x52 x53))
 else (F11_c2 n x0 (iadd .i64 x1 (1)) x2 x3 x4 x5 x6 x7 x8 x9 x10 x11 x12 x13 x14 x15 x16 x17 x18 x19 x20 x21 x22 x23 x24 x25 x26 x27 x28 x29 x30 x31 x32 x33 x34 x35 x36 x37 x38 x39 x40 x41 x42 x43 x44 x45 x46 x47 x48 x49 x50 x51 x52 x53))
 else (none))
 else (none))
 else (bif (ieq (-1) (-1)) then
 (bif (ine x2 (0)) then
 (bif (ieq (ofN (List.length x3)) (0)) then
 (some ⟨x25, (5), x27, x28, x29, x30, x31, x32, x33, x34, x35, x36, x37, [], x2, x39, []⟩)
 else (some ⟨x25, x26, x27, x28, x29, x30, x31, x32, x33, x34, x35, x36, x37, x3, x2, x39, []⟩))
 else (bif (ieq (ofN (List.length x3)) (0)) then
 (some ⟨x25, (5), x27, x28, x29, x30, x31, x32, x33, x34, x35, x36, x37, [], x38, x39, []⟩)
 else (some ⟨x25, x26, x27, x28, x29, x30, x31, x32, x33, x34, x35, x36, x37, x3, x38, x39, []⟩)))
 else (F11_c5 n (-1) (iadd .i64 (-1) (1)) x2 x3 x4 x5 x6 x7 x8 x9 x10 x11 x12 x13 x14 x15 x16 x17 x18 x19 x20 x21 x22 x23 x24 x25 x26 x27 x28 x29 x30 x31 x32 x33 x34 x35 x36 x37 x38 x39 x40 x41 x42 x43 x44 x45 x46 x47 x48 x49 x50 x51 x52 x53))
def F11_c3 : Nat → Int → List (Int) → List (Int) → Int → Int → Int → Int → Int → Int → Int → Int → Int → Int → Int → Int → Int → Int → Int → Int → Int → Int → Int → Int → Int → Int → Bool → Bool → Int → ByteArray → Int → Int → Bool → Int → Int → Bool → Int → Int → Int → Int → Int → Bool → Bool → Int → ByteArray → Int → Int → Bool → Int → Int → List (Int) → Option (Si5b2isi2bilibl_i5b2i2lsi2bi_)
  | 0, _, _, _, _, _, _, _, _, _, _, _, _, _, _, _, _, _, _, _, _, _, _, _, _, _, _, _, _, _, _, _, _, _, _, _, _, _, _, _, _, _, _, _, _, _, _, _, _, _, _ => none
  | _ + 1, _, _, _, _, _, _, _, _, _, _, _, _, _, _, _, _, _, _, _, _, x20, _, x22, x23, x24, x25, x26, x27, x28, x29, x30, x31, x32, _, x34, _, _, _, _, _, _, _, _, _, _, _, _, _, _, _ => some ⟨x20, (5), x22, x23, x24, x25, x26, x27, x28, x29, x30, x31, x32, [], (0), x34, []⟩
def F11_c4 : Nat → Nat → Nat → Int → Int → Bool → Nat → Nat → List (Int) → Int → Int → Int → Int → Int → Bool → Bool → Int → ByteArray → Int → Int → Bool → Int → Int → Int → List (Int) → List (Int) → Int → Int → Int → Int → Int → Int → Int → Int → Int → Int → Int → Int → Int → Int → Int → Int → Int → Int → Int → Int → Int → Int → Bool → Bool → Int → ByteArray → Int → Int → Bool → Int → Int → Bool → List (Int) → List (Int × Int × Int × Int × Int × Bool × Bool × Int × Int × (List (Int)) × ByteArray × Int × Int × Bool × Int) → Option (Si5b2isi2bilibl_i5b2i2lsi2bi_)
  | 0, _, _, _, _, _, _, _, _, _, _, _, _, _, _, _, _, _, _, _, _, _, _, _, _, _, _, _, _, _, _, _, _, _, _, _, _, _, _, _, _, _, _, _, _, _, _, _, _, _, _, _, _, _, _, _, _, _, _, _ => none
  | n + 1, x0, x1, x2, x3, x4, x5, x6, x7, x8, x9, x10, x11, x12, x13, x14, x15, x16, x17, x18, x19, x20, x21, x22, x23, x24, x25, x26, x27, x28, x29, x30, x31, x32, x33, x34, x35, x36, x37, x38, x39, x40, x41, x42, x43, x44, x45, x46, x47, x48, x49, x50, x51, x52, x53, x54, x55, x56, x57, x58 => bif (ilt x3 x2) then
 (bif (inb x3 x1) then
 (bif (nlt (x0 + Int.toNat x3) (List.length x7)) then
 (bif ((inn x3) && (inbs 0 (Int.toNat x3) x6)) then
 (Option.bind (F90 FUEL (List.take ((Int.toNat x3) - 0) (List.drop (x5 + 0) x7)) (List.getD x7 (x0 + Int.toNat x3) 0)) fun y6 =>
 bif (!y6) then
 (bif (ieq (List.getD x7 (x0 + Int.toNat x3) 0) x22) then
 (F11_c4 n x0 x1 x2 (iadd .i64 x3 (1)) x4 x5 x6 x7 x8 x9 x10 x11 x12 x13 x14 x15 x16 x17 x18 x19 x20 x21 x22 x23 x24 x25 x26 x27 x28 x29 x30 x31 x32 x33 x34 x35 x36 x37 x38 x39 x40 x41 x42 x43 x44 x45 x46 x47 x48 x49 x50 x51 x52 x53 x54 x55 true x57 x58)
 else (bif (room (List.length x57 + List.length [(List.getD x7 (x0 + Int.toNat x3) 0)]) 8) then
 (bif (room (List.length x58 + List.length ([((5), (0), (0), (List.getD x7 (x0 + Int.toNat x3) 0), (0), false, false, (0), (0), [], x50, x51, x52, x53, (0))] : List (Int × Int × Int × Int × Int × Bool × Bool × Int × Int × (List (Int)) × ByteArray × Int × Int × Bool × Int))) 136) then
 (F11_c4 n x0 x1 x2 (iadd .i64 x3 (1)) x4 x5 x6 x7 x8 x9 x10 x11 x12 x13 x14 x15 x16 x17 x18 x19 x20 x21 x22 x23 x24 x25 x26 x27 x28 x29 x30 x31 x32 x33 x34 x35 x36 x37 x38 x39 x40 x41 x42 x43 x44 x45 x46 x47 x48 x49 x50 x51 x52 x53 x54 x55 x56 (x57 ++ [(List.getD x7 (x0 + Int.toNat x3) 0)]) (x58 ++ ([((5), (0), (0), (List.getD x7 (x0 + Int.toNat x3) 0), (0), false, false, (0), (0), [], x50, x51, x52, x53, (0))] : List (Int × Int × Int × Int × Int × Bool × Bool × Int × Int × (List (Int)) × ByteArray × Int × Int × Bool × Int))))
 else (none))
 else (none)))
 else (F11_c4 n x0 x1 x2 (iadd .i64 x3 (1)) x4 x5 x6 x7 x8 x9 x10 x11 x12 x13 x14 x15 x16 x17 x18 x19 x20 x21 x22 x23 x24 x25 x26 x27 x28 x29 x30 x31 x32 x33 x34 x35 x36 x37 x38 x39 x40 x41 x42 x43 x44 x45 x46 x47 x48 x49 x50 x51 x52 x53 x54 x55 x56 x57 x58))
 else (none))
 else (none))
 else (none))
 else (bif (ieq (ofN (List.length x57)) (0)) then
 (some ⟨x42, (5), x44, x45, x46, x47, x48, x49, x50, x51, x52, x53, x54, [], x55, x56, x58⟩)
 else (some ⟨x42, (3), x44, x45, x46, x47, x48, x49, x50, x51, x52, x53, x54, x57, x55, x56, x58⟩))
def F11_c5 : Nat → Int → Int → Int → List (Int) → Int → Int → List (Int) → List (Int) → Int → Int → Int → Int → Int → Int → Int → Int → Int → Int → Int → Int → Int → Int → Int → Int → Int → Int → Int → Int → Int → Int → Bool → Bool → Int → ByteArray → Int → Int → Bool → Int → Int → Bool → Int → Int → Int → Int → Int → Bool → Bool → Int → ByteArray → Int → Int → Bool → Int → Int → Option (Si5b2isi2bilibl_i5b2i2lsi2bi_)
  | 0, _, _, _, _, _, _, _, _, _, _, _, _, _, _, _, _, _, _, _, _, _, _, _, _, _, _, _, _, _, _, _, _, _, _, _, _, _, _, _, _, _, _, _, _, _, _, _, _, _, _, _, _, _, _ => none
  | n + 1, x0, x1, x2, x3, x4, x5, x6, x7, x8, x9, x10, x11, x12, x13, x14, x15, x16, x17, x18, x19, x20, x21, x22, x23, x24, x25, x26, x27, x28, x29, x30, x31, x32, x33, x34, x35, x36, x37, x38, x39, x40, x41, x42, x43, x44, x45, x46, x47, x48, x49, x50, x51, x52, x53 => bif (ilt x1 (ofN (List.length x3))) then
 (bif (inb x1 (List.length x3)) then
 (bif (nlt (Int.toNat x1) (List.length x3)) then
 (bif (!(ieq (List.getD x3 (Int.toNat x1) 0) x4)) then
 (bif (inb x0 (List.length x3)) then
 (bif (nlt (Int.toNat x0) (List.length x3)) then
 (F11_c5 n (iadd .i64 x0 (1)) (iadd .i64 x1 (1)) x2 (List.set x3 (Int.toNat x0) (List.getD x3 (Int.toNat x1) 0)) x4 x5 x6 x7 x8 x9 x10 x11 x12 x13 x14 x15 x16 x17 x18 x19 x20 x21 x22 x23 x24 x25 x26 x27 x28 x29 x30 x31 x32 x33 x34 x35 x36 x37 x38 x39 x40 x41 x42 x43 x44 x45 x46 x47 x48 x49 x50 x51 x52 x53)
 else (none))
 else (none))
 else (F11_c5 n x0 (iadd .i64 x1 (1)) x2 x3 x4 x5 x6 x7 x8 x9 x10 x11 x12 x13 x14 x15 x16 x17 x18 x19 x20 x21 x22 x23 x24 x25 x26 x27 x28 x29 x30 x31 x32 x33 x34 x35 x36 x37 x38 x39 x40 x41 x42 x43 x44 x45 x46 x47 x48 x49 x50 x51 x52 x53))
 else (none))
 else (none))
 else (bif (((inn x0) && true) && (inbs (Int.toNat x0) (List.length x3) (List.length x3))) then
 (bif (nlt 0 ((List.length x3) - (Int.toNat x0))) then
 (bif ((inn x0) && (inbs 0 (Int.toNat x0) (List.length (List.take (Int.toNat x0) x3 ++ List.replicate ((List.length x3) - (Int.toNat x0)) (0) ++ List.drop ((Int.toNat x0) + ((List.length x3) - (Int.toNat x0))) x3)))) then
 (bif (ine x2 (0)) then
 (bif (ieq (ofN ((Int.toNat x0) - 0)) (0)) then
 (some ⟨x25, (5), x27, x28, x29, x30, x31, x32, x33, x34, x35, x36, x37, [], x2, x39, []⟩)
 else (some ⟨x25, x26, x27, x28, x29, x30, x31, x32, x33, x34, x35, x36, x37, (List.take ((Int.toNat x0) - 0) (List.drop 0 (List.take (Int.toNat x0) x3 ++ List.replicate ((List.length x3) - (Int.toNat x0)) (0) ++ List.drop ((Int.toNat x0) + ((List.length x3) - (Int.toNat x0))) x3))), x2, x39, []⟩))
 else (bif (ieq (ofN ((Int.toNat x0) - 0)) (0)) then
 (some ⟨x25, (5), x27, x28, x29, x30, x31, x32, x33, x34, x35, x36, x37, [], x38, x39, []⟩)
 else (some ⟨x25, x26, x27, x28, x29, x30, x31, x32, x33, x34, x35, x36, x37, (List.take ((Int.toNat x0) - 0) (List.drop 0 (List.take (Int.toNat x0) x3 ++ List.replicate ((List.length x3) - (Int.toNat x0)) (0) ++ List.drop ((Int.toNat x0) + ((List.length x3) - (Int.toNat x0))) x3))), x38, x39, []⟩)))
 else (none))
 else (none))
 else (none))
end
def F11 (n : Nat) (a0 : Int) (a1 a2 : List (Int)) (a3 a4 a5 a6 a7 a8 a9 a10 a11 a12 a13 a14 a15 a16 a17 a18 a19 a20 a21 a22 a23 a24 : Int) (a25 a26 : Bool) (a27 : Int) (a28 : ByteArray) (a29 a30 : Int) (a31 : Bool) (a32 : Int) (a33 : List (Int)) (a34 a35 : Int) : Option (Si5b2isi2bilibl_i5b2i2lsi2bi_) :=
  Option.bind (F24 FUEL a20 a21 a22 a23 a24 a25 a26 a27 a28 a29 a30 a31 a32 a33 a34) fun y1 =>
 Option.bind (F26 FUEL a0 a1 a2 a3 a4 a5 a6 a7 a8 a9 a10 a11 a12 a13 a14 a15 a16 a17 a18 a19) fun y2 =>
 bif y2 then
 (bif (ieq a21 (1)) then
 (bif (ieq y1.q3 a35) then
 (Option.bind (F58 FUEL a0 a1 a2 a3 a4 a5 a6 a7 a8 a9 a10 a11 a12 a13 a14 a15 a16 a17 a18 a19 y1.q2 y1.q3 y1.q4 y1.q5 y1.q6 y1.q7) fun y3 =>
 bif (ine y3.q5 (0)) then
 (F11_c0 n a0 a1 a2 a3 a4 a5 a6 a7 a8 a9 a10 a11 a12 a13 a14 a15 a16 a17 a18 a19 y1.q0 y1.q1 y3.q0 y3.q1 y3.q2 y3.q3 y3.q4 y3.q5 y1.q8 y1.q9 y1.q10 y1.q11 y1.q12 y3.q5 false (0) (0) (0) (0) (0) false false (0) ByteArray.empty (0) (0) false (0) (0) y1.q14)
 else (bif y3.q4 then
 (F11_c1 n a0 a1 a2 a3 a4 a5 a6 a7 a8 a9 a10 a11 a12 a13 a14 a15 a16 a17 a18 a19 y1.q0 y1.q1 y3.q0 y3.q1 y3.q2 y3.q3 y3.q4 y3.q5 y1.q8 y1.q9 y1.q10 y1.q11 y1.q12 y1.q13 false (0) (0) (0) (0) (0) false false (0) ByteArray.empty (0) (0) false (0) (0) y1.q14)
 else (Option.bind (F52 FUEL y3.q0 y3.q1 y3.q2 y3.q3 y3.q4 y3.q5) fun y4 =>
 bif y4.q14 then
 (bif (room (List.length ([(y4.q0, y4.q1, y4.q2, y4.q3, y4.q4, y4.q5, y4.q6, y4.q7, y4.q8, [], y4.q9, y4.q10, y4.q11, y4.q12, y4.q13)] : List (Int × Int × Int × Int × Int × Bool × Bool × Int × Int × (List (Int)) × ByteArray × Int × Int × Bool × Int))) 136) then
 (some ⟨y1.q0, (1), y3.q0, y3.q1, y3.q2, y3.q3, y3.q4, y3.q5, y1.q8, y1.q9, y1.q10, y1.q11, y1.q12, y1.q14, y1.q13, false, ([(y4.q0, y4.q1, y4.q2, y4.q3, y4.q4, y4.q5, y4.q6, y4.q7, y4.q8, [], y4.q9, y4.q10, y4.q11, y4.q12, y4.q13)] : List (Int × Int × Int × Int × Int × Bool × Bool × Int × Int × (List (Int)) × ByteArray × Int × Int × Bool × Int))⟩)
 else (none))
 else (some ⟨y1.q0, (1), y3.q0, y3.q1, y3.q2, y3.q3, y3.q4, y3.q5, y1.q8, y1.q9, y1.q10, y1.q11, y1.q12, y1.q14, y1.q13, false, []⟩))))
 else (some ⟨y1.q0, y1.q1, y1.q2, y1.q3, y1.q4, y1.q5, y1.q6, y1.q7, y1.q8, y1.q9, y1.q10, y1.q11, y1.q12, y1.q14, y1.q13, false, []⟩))
 else (bif (ieq a21 (2)) then
 (bif (ieq y1.q12 a35) then
 (some ⟨y1.q0, (5), y1.q2, y1.q3, y1.q4, y1.q5, y1.q6, y1.q7, y1.q8, y1.q9, y1.q10, y1.q11, y1.q12, [], (210), false, []⟩)
 else (some ⟨y1.q0, y1.q1, y1.q2, y1.q3, y1.q4, y1.q5, y1.q6, y1.q7, y1.q8, y1.q9, y1.q10, y1.q11, y1.q12, y1.q14, y1.q13, false, []⟩))
 else (bif (ieq a21 (3)) then
 (Option.bind (F90 FUEL y1.q14 a35) fun y5 =>
 bif (!y5) then
 (some ⟨y1.q0, y1.q1, y1.q2, y1.q3, y1.q4, y1.q5, y1.q6, y1.q7, y1.q8, y1.q9, y1.q10, y1.q11, y1.q12, y1.q14, y1.q13, false, []⟩)
 else (F11_c2 n (ofN (List.length y1.q14)) (0) (210) y1.q14 a35 a0 a1 a2 a3 a4 a5 a6 a7 a8 a9 a10 a11 a12 a13 a14 a15 a16 a17 a18 a19 y1.q0 y1.q1 y1.q2 y1.q3 y1.q4 y1.q5 y1.q6 y1.q7 y1.q8 y1.q9 y1.q10 y1.q11 y1.q12 y1.q13 false (0) (0) (0) (0) (0) false false (0) ByteArray.empty (0) (0) false (0) (0)))
 else (bif (ieq a21 (4)) then
 (bif (ieq y1.q12 a35) then
 (some ⟨y1.q0, (5), y1.q2, y1.q3, y1.q4, y1.q5, y1.q6, y1.q7, y1.q8, y1.q9, y1.q10, y1.q11, y1.q12, [], (210), false, []⟩)
 else (some ⟨y1.q0, y1.q1, y1.q2, y1.q3, y1.q4, y1.q5, y1.q6, y1.q7, y1.q8, y1.q9, y1.q10, y1.q11, y1.q12, y1.q14, y1.q13, false, []⟩))
 else (some ⟨y1.q0, y1.q1, y1.q2, y1.q3, y1.q4, y1.q5, y1.q6, y1.q7, y1.q8, y1.q9, y1.q10, y1.q11, y1.q12, y1.q14, y1.q13, false, []⟩)))))
 else (some ⟨y1.q0, y1.q1, y1.q2, y1.q3, y1.q4, y1.q5, y1.q6, y1.q7, y1.q8, y1.q9, y1.q10, y1.q11, y1.q12, y1.q14, y1.q13, false, []⟩)
def F23 (_n : Nat) (a0 a1 a2 a3 a4 : Int) (a5 a6 : Bool) (a7 : Int) (a8 : ByteArray) (a9 a10 : Int) (a11 : Bool) (a12 : Int) (a13 : List (Int)) (a14 a15 a16 a17 a18 a19 : Int) (a20 a21 : Bool) (a22 : Int) (a23 : ByteArray) (a24 a25 : Int) (a26 : Bool) (a27 : Int) (a28 : List (Int)) (a29 : Int) : Option (Bool) :=
  bif (ieq a0 a15) then
 (bif (ieq a1 a16) then
 (bif ((ieq a2 a17) && ((ieq a3 a18) && ((ieq a4 a19) && ((beqb a5 a20) && ((beqb a6 a21) && ((ieq a7 a22) && true)))))) then
 (bif ((steq a8 a23) && ((ieq a9 a24) && ((ieq a10 a25) && ((beqb a11 a26) && true)))) then
 (bif (ieq a12 a27) then
 (Option.bind (F42 FUEL a13 a28) fun y1 =>
 bif y1 then
 (some (ieq a14 a29))
 else (some false))
 else (some false))
 else (some false))
 else (some false))
 else (some false))
 else (some false)
def F8 (_n : Nat) : Option (Bool) :=
  Option.bind (F21 FUEL) fun y1 =>
 Option.bind (F9 FUEL y1.q0 y1.q18 y1.q19 y1.q1 y1.q2 y1.q3 y1.q4 y1.q5 y1.q6 y1.q7 y1.q8 y1.q9 y1.q10 y1.q11 y1.q12 y1.q13 y1.q14 y1.q15 y1.q16 y1.q17 (1) (15) ByteArray.empty (0) (0) false) fun y2 =>
 Option.bind (F21 FUEL) fun y3 =>
 Option.bind (F9 FUEL y3.q0 y3.q18 y3.q19 y3.q1 y3.q2 y3.q3 y3.q4 y3.q5 y3.q6 y3.q7 y3.q8 y3.q9 y3.q10 y3.q11 y3.q12 y3.q13 y3.q14 y3.q15 y3.q16 y3.q17 (1) (30) ByteArray.empty (0) (0) false) fun y4 =>
 bif (ine (ofN (List.length y4.q16)) (1)) then
 (some false)
 else (Option.bind (F21 FUEL) fun y5 =>
 Option.bind (F22 FUEL (4) (20) (40) true (0)) fun y6 =>
 Option.bind (F12 FUEL y5.q0 y5.q18 y5.q19 y5.q1 y5.q2 y5.q3 y5.q4 y5.q5 y5.q6 y5.q7 y5.q8 y5.q9 y5.q10 y5.q11 y5.q12 y5.q13 y5.q14 y5.q15 y5.q16 y5.q17 y4.q0 y4.q1 y4.q2 y4.q3 y4.q4 y4.q5 y4.q6 y4.q7 y4.q8 y4.q9 y4.q10 y4.q11 y4.q12 y4.q15 y4.q13 y6.q0 y6.q1 y6.q2 y6.q3 y6.q4 y6.q5 y6.q6 y6.q7 y6.q8 y6.q14 y6.q9 y6.q10 y6.q11 y6.q12 y6.q13) fun y7 =>
 Option.bind (F21 FUEL) fun y8 =>
 Option.bind (F9 FUEL y8.q0 y8.q18 y8.q19 y8.q1 y8.q2 y8.q3 y8.q4 y8.q5 y8.q6 y8.q7 y8.q8 y8.q9 y8.q10 y8.q11 y8.q12 y8.q13 y8.q14 y8.q15 y8.q16 y8.q17 (2) (0) (ByteArray.mk #[97]) (3) (0) false) fun y9 =>
 bif (ine (ofN (List.length y9.q16)) (1)) then
 (some false)
 else (bif (inb (0) (List.length y9.q16)) then
 (bif (ine (List.getD y9.q16 (Int.toNat (0)) (0, 0, 0, 0, 0, false, false, 0, 0, [], ByteArray.empty, 0, 0, false, 0)).1 (4)) then
 (some false)
 else (Option.bind (F21 FUEL) fun y10 =>
 bif (inb (0) (List.length y9.q16)) then
 (Option.bind (F22 FUEL (4) (List.getD y9.q16 (Int.toNat (0)) (0, 0, 0, 0, 0, false, false, 0, 0, [], ByteArray.empty, 0, 0, false, 0)).2.2.2.1 (20) true (0)) fun y11 =>
 Option.bind (F12 FUEL y10.q0 y10.q18 y10.q19 y10.q1 y10.q2 y10.q3 y10.q4 y10.q5 y10.q6 y10.q7 y10.q8 y10.q9 y10.q10 y10.q11 y10.q12 y10.q13 y10.q14 y10.q15 y10.q16 y10.q17 y9.q0 y9.q1 y9.q2 y9.q3 y9.q4 y9.q5 y9.q6 y9.q7 y9.q8 y9.q9 y9.q10 y9.q11 y9.q12 y9.q15 y9.q13 y11.q0 y11.q1 y11.q2 y11.q3 y11.q4 y11.q5 y11.q6 y11.q7 y11.q8 y11.q14 y11.q9 y11.q10 y11.q11 y11.q12 y11.q13) fun y12 =>
 Option.bind (F21 FUEL) fun y13 =>
 Option.bind (F22 FUEL (1) (20) (0) false (0)) fun y14 =>
 Option.bind (F12 FUEL y13.q0 y13.q18 y13.q19 y13.q1 y13.q2 y13.q3 y13.q4 y13.q5 y13.q6 y13.q7 y13.q8 y13.q9 y13.q10 y13.q11 y13.q12 y13.q13 y13.q14 y13.q15 y13.q16 y13.q17 y12.q0 y12.q1 y12.q2 y12.q3 y12.q4 y12.q5 y12.q6 y12.q7 y12.q8 y12.q9 y12.q10 y12.q11 y12.q12 y12.q13 y12.q14 y14.q0 y14.q1 y14.q2 y14.q3 y14.q4 y14.q5 y14.q6 y14.q7 y14.q8 y14.q14 y14.q9 y14.q10 y14.q11 y14.q12 y14.q13) fun y15 =>
 bif (ine (ofN (List.length y15.q16)) (2)) then
 (some false)
 else (Option.bind (F21 FUEL) fun y16 =>
 Option.bind (F22 FUEL (5) (20) (0) false (0)) fun y17 =>
 Option.bind (F12 FUEL y16.q0 y16.q18 y16.q19 y16.q1 y16.q2 y16.q3 y16.q4 y16.q5 y16.q6 y16.q7 y16.q8 y16.q9 y16.q10 y16.q11 y16.q12 y16.q13 y16.q14 y16.q15 y16.q16 y16.q17 y15.q0 y15.q1 y15.q2 y15.q3 y15.q4 y15.q5 y15.q6 y15.q7 y15.q8 y15.q9 y15.q10 y15.q11 y15.q12 y15.q13 y15.q14 y17.q0 y17.q1 y17.q2 y17.q3 y17.q4 y17.q5 y17.q6 y17.q7 y17.q8 y17.q14 y17.q9 y17.q10 y17.q11 y17.q12 y17.q13) fun y18 =>
 Option.bind (F21 FUEL) fun y19 =>
 Option.bind (F11 FUEL y19.q0 y19.q18 y19.q19 y19.q1 y19.q2 y19.q3 y19.q4 y19.q5 y19.q6 y19.q7 y19.q8 y19.q9 y19.q10 y19.q11 y19.q12 y19.q13 y19.q14 y19.q15 y19.q16 y19.q17 y18.q0 y18.q1 y18.q2 y18.q3 y18.q4 y18.q5 y18.q6 y18.q7 y18.q8 y18.q9 y18.q10 y18.q11 y18.q12 y18.q13 y18.q14 (40)) fun y20 =>
 Option.bind (F21 FUEL) fun y21 =>
 Option.bind (F9 FUEL y21.q0 y21.q18 y21.q19 y21.q1 y21.q2 y21.q3 y21.q4 y21.q5 y21.q6 y21.q7 y21.q8 y21.q9 y21.q10 y21.q11 y21.q12 y21.q13 y21.q14 y21.q15 y21.q16 y21.q17 (3) (0) ByteArray.empty (0) (0) false) fun y22 =>
 bif (ieq y2.q1 (5)) then
 (bif (ieq y2.q12 (20)) then
 (bif (ieq y2.q13 (0)) then
 (bif (ieq (ofN (List.length y2.q16)) (0)) then
 (bif (!y2.q14) then
 (bif (inb (0) (List.length y4.q16)) then
 (bif (nlt (Int.toNat (0)) (List.length y4.q16)) then
 (bif (ieq (List.getD y4.q16 (Int.toNat (0)) (0, 0, 0, 0, 0, false, false, 0, 0, [], ByteArray.empty, 0, 0, false, 0)).2.2.2.1 (20)) then
 (bif (inb (0) (List.length y4.q16)) then
 (bif (nlt (Int.toNat (0)) (List.length y4.q16)) then
 (bif (ieq (List.getD y4.q16 (Int.toNat (0)) (0, 0, 0, 0, 0, false, false, 0, 0, [], ByteArray.empty, 0, 0, false, 0)).1 (4)) then
 (bif (inb (0) (List.length y4.q16)) then
 (bif (nlt (Int.toNat (0)) (List.length y4.q16)) then
 (bif (ieq (List.getD y4.q16 (Int.toNat (0)) (0, 0, 0, 0, 0, false, false, 0, 0, [], ByteArray.empty, 0, 0, false, 0)).2.2.2.2.1 (30)) then
 (bif (ieq y7.q1 (5)) then
 (bif (ieq y7.q12 (40)) then
 (bif (ieq (ofN (List.length y7.q16)) (0)) then
 (bif y15.q15 then
 (bif (ieq y20.q1 (5)) then
 (bif (ieq y20.q14 (210)) then
 (bif (ieq y22.q1 (5)) then
 (bif (ieq y22.q13 (2)) then
 (Option.bind (F24 FUEL y20.q0 y20.q1 y20.q2 y20.q3 y20.q4 y20.q5 y20.q6 y20.q7 y20.q8 y20.q9 y20.q10 y20.q11 y20.q12 y20.q13 y20.q14) fun y23 =>
 Option.bind (F23 FUEL y20.q0 y20.q1 y20.q2 y20.q3 y20.q4 y20.q5 y20.q6 y20.q7 y20.q8 y20.q9 y20.q10 y20.q11 y20.q12 y20.q13 y20.q14 y23.q0 y23.q1 y23.q2 y23.q3 y23.q4 y23.q5 y23.q6 y23.q7 y23.q8 y23.q9 y23.q10 y23.q11 y23.q12 y23.q14 y23.q13) fun y24 =>
 some y24)
 else (some false))
 else (some false))
 else (some false))
 else (some false))
 else (some false))
 else (some false))
 else (some false))
 else (some false))
 else (some false))
 else (none))
 else (none))
 else (some false))
 else (none))
 else (none))
 else (some false))
 else (none))
 else (none))
 else (some false))
 else (some false))
 else (some false))
 else (some false))
 else (some false)))
 else (none)))
 else (none)))
def F32 (_n : Nat) (a0 : Int) : Option (Bool) :=
  bif (ige a0 (0)) then
 (some (ilt a0 (65536)))
 else (some false)
def F73 (_n : Nat) (a0 _a1 _a2 _a3 _a4 : Int) (_a5 _a6 : Bool) (_a7 _a8 : Int) (_a9 : List (Int)) (_a10 : ByteArray) (_a11 _a12 : Int) (_a13 : Bool) (_a14 : Int) : Option (Bool) :=
  bif (ige a0 (1)) then
 (some (ile a0 (6)))
 else (some false)
def F33 (_n : Nat) (a0 a1 a2 a3 a4 : Int) (a5 a6 : Bool) (a7 a8 : Int) (a9 : List (Int)) (a10 : ByteArray) (a11 a12 : Int) (a13 : Bool) (a14 : Int) : Option (Int) :=
  Option.bind (F73 FUEL a0 a1 a2 a3 a4 a5 a6 a7 a8 a9 a10 a11 a12 a13 a14) fun y1 =>
 bif y1 then
 (some a2)
 else (some a3)
def F35 (_n : Nat) (a0 a1 a2 a3 a4 : Int) (a5 a6 : Bool) (a7 a8 : Int) (a9 : ByteArray) (a10 a11 : Int) (a12 : Bool) (a13 : Int) : Option (Sbi5b2i2si2bi) :=
  bif (ieq a0 (4)) then
 (some ⟨true, a0, a1, a2, a3, (0), false, a6, a7, a8, a9, a10, a11, a12, a13⟩)
 else (bif (ieq a0 (5)) then
 (bif (ieq a0 (5)) then
 (some ⟨true, a0, a1, a2, a3, a4, a5, a6, a7, a8, ByteArray.empty, (0), (0), false, a13⟩)
 else (bif (ieq a0 (7)) then
 (some ⟨false, a0, a1, a2, a3, a4, a5, a6, a7, (0), a9, a10, a11, a12, a13⟩)
 else (bif (ieq a0 (10)) then
 (some ⟨true, a0, a1, a2, a3, a4, a5, false, (0), a8, a9, a10, a11, a12, a13⟩)
 else (bif (ieq a0 (11)) then
 (some ⟨true, a0, a1, a2, a3, a4, a5, a6, a7, a8, a9, a10, a11, a12, (0)⟩)
 else (bif (ieq a0 (12)) then
 (some ⟨true, a0, a1, a2, a3, a4, a5, a6, a7, a8, ByteArray.empty, (0), (0), false, (0)⟩)
 else (some ⟨true, a0, a1, a2, a3, a4, a5, a6, a7, a8, a9, a10, a11, a12, a13⟩))))))
 else (bif (ieq a0 (6)) then
 (some ⟨true, a0, a1, a2, a3, a4, a5, a6, a7, a8, ByteArray.empty, (0), (0), false, a13⟩)
 else (bif (ieq a0 (7)) then
 (some ⟨false, a0, a1, a2, a3, a4, a5, a6, a7, (0), a9, a10, a11, a12, a13⟩)
 else (bif (ieq a0 (10)) then
 (some ⟨true, a0, a1, a2, a3, a4, a5, false, (0), a8, a9, a10, a11, a12, a13⟩)
 else (bif (ieq a0 (11)) then
 (some ⟨true, a0, a1, a2, a3, a4, a5, a6, a7, a8, a9, a10, a11, a12, (0)⟩)
 else (bif (ieq a0 (12)) then
 (some ⟨true, a0, a1, a2, a3, a4, a5, a6, a7, a8, ByteArray.empty, (0), (0), false, (0)⟩)
 else (some ⟨true, a0, a1, a2, a3, a4, a5, a6, a7, a8, a9, a10, a11, a12, a13⟩)))))))
def F34_c0 : Nat → Int → Int → Int → Int → Int → Int → Bool → Bool → Int → Int → List (Int) → ByteArray → Int → Int → Bool → Int → Int → Int → Int → Int → Int → Bool → Bool → Int → Int → List (Int) → ByteArray → Int → Int → Bool → Int → Option (Bool)
  | 0, _, _, _, _, _, _, _, _, _, _, _, _, _, _, _, _, _, _, _, _, _, _, _, _, _, _, _, _, _, _, _ => none
  | n + 1, x0, x1, x2, x3, x4, x5, x6, x7, x8, x9, x10, x11, x12, x13, x14, x15, x16, x17, x18, x19, x20, x21, x22, x23, x24, x25, x26, x27, x28, x29, x30 => bif (ilt x0 (ofN (List.length x10))) then
 (bif (inb x0 (List.length x10)) then
 (bif (inb x0 (List.length x25)) then
 (bif (ine (List.getD x10 (Int.toNat x0) 0) (List.getD x25 (Int.toNat x0) 0)) then
 (some false)
 else (F34_c0 n (iadd .i64 x0 (1)) x1 x2 x3 x4 x5 x6 x7 x8 x9 x10 x11 x12 x13 x14 x15 x16 x17 x18 x19 x20 x21 x22 x23 x24 x25 x26 x27 x28 x29 x30))
 else (none))
 else (none))
 else (bif (ieq x1 x16) then
 (bif (ieq x2 x17) then
 (bif (ieq x3 x18) then
 (bif (ieq x4 x19) then
 (bif (ieq x5 x20) then
 (bif (beqb x6 x21) then
 (bif (beqb x7 x22) then
 (bif (ieq x8 x23) then
 (bif (ieq x9 x24) then
 (bif ((steq x11 x26) && ((ieq x12 x27) && ((ieq x13 x28) && ((beqb x14 x29) && true)))) then
 (some (ieq x15 x30))
 else (some false))
 else (some false))
 else (some false))
 else (some false))
 else (some false))
 else (some false))
 else (some false))
 else (some false))
 else (some false))
 else (some false))
def F34 (n : Nat) (a0 a1 a2 a3 a4 : Int) (a5 a6 : Bool) (a7 a8 : Int) (a9 : List (Int)) (a10 : ByteArray) (a11 a12 : Int) (a13 : Bool) (a14 a15 a16 a17 a18 a19 : Int) (a20 a21 : Bool) (a22 a23 : Int) (a24 : List (Int)) (a25 : ByteArray) (a26 a27 : Int) (a28 : Bool) (a29 : Int) : Option (Bool) :=
  bif (ine (ofN (List.length a9)) (ofN (List.length a24))) then
 (some false)
 else (F34_c0 n (0) a0 a1 a2 a3 a4 a5 a6 a7 a8 a9 a10 a11 a12 a13 a14 a15 a16 a17 a18 a19 a20 a21 a22 a23 a24 a25 a26 a27 a28 a29)
def F17 (_n : Nat) (a0 : ByteArray) (a1 a2 : Int) (_a3 : Bool) : Option (Bool) :=
  bif (ige (stlen a0) (1)) then
 (bif (ile (stlen a0) (20)) then
 (bif (ige a1 (0)) then
 (bif (ile a1 (1048576)) then
 (bif (ige a2 (0)) then
 (some (ile a2 (1048576)))
 else (some false))
 else (some false))
 else (some false))
 else (some false))
 else (some false)
mutual
def F74_c0 : Nat → List (Int) → Int → Int → Option (Bool)
  | 0, _, _, _ => none
  | n + 1, x0, x1, x2 => bif (ilt x2 (ofN (List.length x0))) then
 (bif (inb x2 (List.length x0)) then
 (Option.bind (F32 FUEL (List.getD x0 (Int.toNat x2) 0)) fun y1 =>
 bif (!y1) then
 (some false)
 else (bif (inb x2 (List.length x0)) then
 (bif (ieq (List.getD x0 (Int.toNat x2) 0) x1) then
 (some false)
 else (F74_c1 n x0 x1 x2 (0)))
 else (none)))
 else (none))
 else (some (ile (ofN (List.length x0)) (3)))
def F74_c1 : Nat → List (Int) → Int → Int → Int → Option (Bool)
  | 0, _, _, _, _ => none
  | n + 1, x0, x1, x2, x3 => bif (ilt x3 x2) then
 (bif (inb x3 (List.length x0)) then
 (bif (inb x2 (List.length x0)) then
 (bif (ieq (List.getD x0 (Int.toNat x3) 0) (List.getD x0 (Int.toNat x2) 0)) then
 (some false)
 else (F74_c1 n x0 x1 x2 (iadd .i64 x3 (1))))
 else (none))
 else (none))
 else (F74_c0 n x0 x1 (iadd .i64 x2 (1)))
end
def F74 (n : Nat) (a0 : List (Int)) (a1 : Int) : Option (Bool) :=
  F74_c0 n a0 a1 (0)
def F36 (_n : Nat) (a0 _a1 a2 _a3 a4 : Int) (_a5 _a6 : Bool) (a7 a8 : Int) (a9 : List (Int)) (a10 : ByteArray) (a11 a12 : Int) (a13 : Bool) (a14 : Int) : Option (Bool) :=
  bif (ieq a0 (4)) then
 (Option.bind (F32 FUEL a4) fun y1 =>
 some y1)
 else (bif (ieq a0 (5)) then
 (Option.bind (F17 FUEL a10 a11 a12 a13) fun y2 =>
 some y2)
 else (bif (ieq a0 (6)) then
 (Option.bind (F17 FUEL a10 a11 a12 a13) fun y3 =>
 bif y3 then
 (some ((steq a10 a10) && ((ieq a11 (0)) && ((ieq a12 (0)) && ((beqb a13 false) && true)))))
 else (some false))
 else (bif (ieq a0 (7)) then
 (bif (ieq a8 (-1)) then
 (Option.bind (F74 FUEL a9 a2) fun y4 =>
 some y4)
 else (Option.bind (F32 FUEL a8) fun y5 =>
 bif y5 then
 (Option.bind (F74 FUEL a9 a2) fun y6 =>
 some y6)
 else (some false)))
 else (bif (ieq a0 (10)) then
 (Option.bind (F32 FUEL a7) fun y7 =>
 some y7)
 else (bif (ieq a0 (11)) then
 (bif (ieq a14 (0)) then
 (some true)
 else (some (ieq a14 (200))))
 else (bif (ieq a0 (12)) then
 (bif (ieq a14 (0)) then
 (Option.bind (F17 FUEL a10 a11 a12 a13) fun y8 =>
 bif y8 then
 (some true)
 else (bif (ieq a14 (201)) then
 (some ((steq a10 ByteArray.empty) && ((ieq a11 (0)) && ((ieq a12 (0)) && ((beqb a13 false) && true)))))
 else (some false)))
 else (bif (ieq a14 (201)) then
 (some ((steq a10 ByteArray.empty) && ((ieq a11 (0)) && ((ieq a12 (0)) && ((beqb a13 false) && true)))))
 else (some false)))
 else (some true)))))))
def F16 (_n : Nat) (a0 a1 a2 a3 a4 : Int) (a5 a6 : Bool) (a7 a8 : Int) (a9 : List (Int)) (a10 : ByteArray) (a11 a12 : Int) (a13 : Bool) (a14 : Int) : Option (Bool) :=
  bif (ilt a0 (1)) then
 (some false)
 else (bif (ige a0 (13)) then
 (some false)
 else (Option.bind (F32 FUEL a2) fun y1 =>
 bif (!y1) then
 (some false)
 else (Option.bind (F32 FUEL a3) fun y2 =>
 bif (!y2) then
 (some false)
 else (bif (ieq a2 a3) then
 (some false)
 else (Option.bind (F33 FUEL a0 a1 a2 a3 a4 a5 a6 a7 a8 a9 a10 a11 a12 a13 a14) fun y3 =>
 bif (ilt a1 (iadd .i64 (imul .i64 y3 (1048576)) (1))) then
 (some false)
 else (bif (ige a1 (iadd .i64 (iadd .i64 (imul .i64 y3 (1048576)) (1)) (1048576))) then
 (some false)
 else (Option.bind (F35 FUEL a0 a1 a2 a3 a4 a5 a6 a7 a8 a10 a11 a12 a13 a14) fun y4 =>
 bif y4.q0 then
 (Option.bind (F34 FUEL y4.q1 y4.q2 y4.q3 y4.q4 y4.q5 y4.q6 y4.q7 y4.q8 y4.q9 a9 y4.q10 y4.q11 y4.q12 y4.q13 y4.q14 a0 a1 a2 a3 (0) false false (0) (0) [] ByteArray.empty (0) (0) false (0)) fun y5 =>
 bif y5 then
 (Option.bind (F36 FUEL a0 a1 a2 a3 a4 a5 a6 a7 a8 a9 a10 a11 a12 a13 a14) fun y6 =>
 some y6)
 else (some false))
 else (Option.bind (F34 FUEL y4.q1 y4.q2 y4.q3 y4.q4 y4.q5 y4.q6 y4.q7 y4.q8 y4.q9 [] y4.q10 y4.q11 y4.q12 y4.q13 y4.q14 a0 a1 a2 a3 (0) false false (0) (0) [] ByteArray.empty (0) (0) false (0)) fun y7 =>
 bif y7 then
 (Option.bind (F36 FUEL a0 a1 a2 a3 a4 a5 a6 a7 a8 a9 a10 a11 a12 a13 a14) fun y8 =>
 some y8)
 else (some false)))))))))
def F13_c0 : Nat → Int → Int → Int → Int → Int → Int → Bool → Bool → Int → ByteArray → Int → Int → Bool → Int → List (Int) → Int → Int → Int → Int → Int → Int → Bool → Bool → Int → ByteArray → Int → Int → Bool → Int → List (Int) → Int → Option (Bool)
  | 0, _, _, _, _, _, _, _, _, _, _, _, _, _, _, _, _, _, _, _, _, _, _, _, _, _, _, _, _, _, _, _ => none
  | n + 1, x0, x1, x2, x3, x4, x5, x6, x7, x8, x9, x10, x11, x12, x13, x14, x15, x16, x17, x18, x19, x20, x21, x22, x23, x24, x25, x26, x27, x28, x29, x30 => bif (ilt x0 (ofN (List.length x14))) then
 (bif (inb x0 (List.length x14)) then
 (bif (inb x0 (List.length x29)) then
 (bif (ine (List.getD x14 (Int.toNat x0) 0) (List.getD x29 (Int.toNat x0) 0)) then
 (some false)
 else (F13_c0 n (iadd .i64 x0 (1)) x1 x2 x3 x4 x5 x6 x7 x8 x9 x10 x11 x12 x13 x14 x15 x16 x17 x18 x19 x20 x21 x22 x23 x24 x25 x26 x27 x28 x29 x30))
 else (none))
 else (none))
 else (bif (ieq x1 x16) then
 (bif (ieq x2 x17) then
 (bif ((ieq x3 x18) && ((ieq x4 x19) && ((ieq x5 x20) && ((beqb x6 x21) && ((beqb x7 x22) && ((ieq x8 x23) && true)))))) then
 (bif ((steq x9 x24) && ((ieq x10 x25) && ((ieq x11 x26) && ((beqb x12 x27) && true)))) then
 (bif (ieq x13 x28) then
 (some (ieq x15 x30))
 else (some false))
 else (some false))
 else (some false))
 else (some false))
 else (some false))
def F13 (n : Nat) (a0 a1 a2 a3 a4 : Int) (a5 a6 : Bool) (a7 : Int) (a8 : ByteArray) (a9 a10 : Int) (a11 : Bool) (a12 : Int) (a13 : List (Int)) (a14 a15 a16 a17 a18 a19 : Int) (a20 a21 : Bool) (a22 : Int) (a23 : ByteArray) (a24 a25 : Int) (a26 : Bool) (a27 : Int) (a28 : List (Int)) (a29 : Int) : Option (Bool) :=
  bif (ine (ofN (List.length a13)) (ofN (List.length a28))) then
 (some false)
 else (F13_c0 n (0) a0 a1 a2 a3 a4 a5 a6 a7 a8 a9 a10 a11 a12 a13 a14 a15 a16 a17 a18 a19 a20 a21 a22 a23 a24 a25 a26 a27 a28 a29)
def F3_c0 : Nat → Int → List (Bool × Bool × Int × (List (Int)) × Bool) → Bool → Bool → Int → Int → Int → List (Int) → List (Int) → Int → Int → Int → Int → Int → Int → Int → Int → Int → Int → Int → Int → Int → Int → Int → Int → Int → Int → Int → Int → Int → Int → Bool → Bool → Int → ByteArray → Int → Int → Bool → Int → List (Int) → Int → List (Int × Int × Int × Int × Int × Bool × Bool × Int × Int × (List (Int)) × ByteArray × Int × Int × Bool × Int) → Option (Bool)
  | 0, _, _, _, _, _, _, _, _, _, _, _, _, _, _, _, _, _, _, _, _, _, _, _, _, _, _, _, _, _, _, _, _, _, _, _, _, _, _, _, _, _, _ => none
  | n + 1, x0, x1, x2, x3, x4, x5, x6, x7, x8, x9, x10, x11, x12, x13, x14, x15, x16, x17, x18, x19, x20, x21, x22, x23, x24, x25, x26, x27, x28, x29, x30, x31, x32, x33, x34, x35, x36, x37, x38, x39, x40, x41 => bif (ilt x5 (ofN (List.length x1))) then
 (bif (ine x27 (5)) then
 (bif (ieq (ofN (List.length x41)) (0)) then
 (some false)
 else (bif (inb (0) (List.length x41)) then
 (bif (nlt (Int.toNat (0)) (List.length x41)) then
 (bif (inb x5 (List.length x1)) then
 (bif (ieq (List.getD x41 (Int.toNat (0)) (0, 0, 0, 0, 0, false, false, 0, 0, [], ByteArray.empty, 0, 0, false, 0)).1 (4)) then
 (Option.bind (F16 FUEL (iadd .u8 (List.getD x41 (Int.toNat (0)) (0, 0, 0, 0, 0, false, false, 0, 0, [], ByteArray.empty, 0, 0, false, 0)).1 (6)) (iadd .i64 (imul .i64 x6 (1048576)) (1)) (List.getD x41 (Int.toNat (0)) (0, 0, 0, 0, 0, false, false, 0, 0, [], ByteArray.empty, 0, 0, false, 0)).2.2.2.1 x6 (0) false (List.getD x1 (Int.toNat x5) (false, false, 0, [], false)).2.1 (List.getD x1 (Int.toNat x5) (false, false, 0, [], false)).2.2.1 (0) [] ByteArray.empty (0) (0) false (0)) fun y8 =>
 bif (inb x5 (List.length x1)) then
 (bif (List.getD x1 (Int.toNat x5) (false, false, 0, [], false)).1 then
 (Option.bind (F11 FUEL x6 x7 x8 x9 x10 x11 x12 x13 x14 x15 x16 x17 x18 x19 x20 x21 x22 x23 x24 x25 x26 x27 x28 x29 x30 x31 x32 x33 x34 x35 x36 x37 x38 x39 x40 (List.getD x41 (Int.toNat (0)) (0, 0, 0, 0, 0, false, false, 0, 0, [], ByteArray.empty, 0, 0, false, 0)).2.2.2.1) fun y9 =>
 bif x3 then
 (bif x2 then
 (bif (((inn (1)) && true) && (inbs (Int.toNat (1)) (List.length x41) (List.length x41))) then
 (bif (full (Int.toNat (1)) ((List.length x41) - (Int.toNat (1))) (List.length x41) && room (((List.length x41) - (Int.toNat (1))) + List.length y9.q16) 136) then
 (F3_c0 n x0 x1 true true (iadd .i64 x4 (1)) (iadd .i64 x5 (1)) x6 x7 x8 x9 x10 x11 x12 x13 x14 x15 x16 x17 x18 x19 x20 x21 x22 x23 x24 x25 y9.q0 y9.q1 y9.q2 y9.q3 y9.q4 y9.q5 y9.q6 y9.q7 y9.q8 y9.q9 y9.q10 y9.q11 y9.q12 y9.q13 y9.q14 (List.drop (Int.toNat (1)) x41 ++ y9.q16))
 else (none))
 else (none))
 else (bif (((inn (1)) && true) && (inbs (Int.toNat (1)) (List.length x41) (List.length x41))) then
 (bif (full (Int.toNat (1)) ((List.length x41) - (Int.toNat (1))) (List.length x41) && room (((List.length x41) - (Int.toNat (1))) + List.length y9.q16) 136) then
 (F3_c0 n x0 x1 y9.q15 true (iadd .i64 x4 (1)) (iadd .i64 x5 (1)) x6 x7 x8 x9 x10 x11 x12 x13 x14 x15 x16 x17 x18 x19 x20 x21 x22 x23 x24 x25 y9.q0 y9.q1 y9.q2 y9.q3 y9.q4 y9.q5 y9.q6 y9.q7 y9.q8 y9.q9 y9.q10 y9.q11 y9.q12 y9.q13 y9.q14 (List.drop (Int.toNat (1)) x41 ++ y9.q16))
 else (none))
 else (none)))
 else (bif x2 then
 (bif (((inn (1)) && true) && (inbs (Int.toNat (1)) (List.length x41) (List.length x41))) then
 (bif (full (Int.toNat (1)) ((List.length x41) - (Int.toNat (1))) (List.length x41) && room (((List.length x41) - (Int.toNat (1))) + List.length y9.q16) 136) then
 (F3_c0 n x0 x1 true (ieq (List.getD x41 (Int.toNat (0)) (0, 0, 0, 0, 0, false, false, 0, 0, [], ByteArray.empty, 0, 0, false, 0)).1 (5)) (iadd .i64 x4 (1)) (iadd .i64 x5 (1)) x6 x7 x8 x9 x10 x11 x12 x13 x14 x15 x16 x17 x18 x19 x20 x21 x22 x23 x24 x25 y9.q0 y9.q1 y9.q2 y9.q3 y9.q4 y9.q5 y9.q6 y9.q7 y9.q8 y9.q9 y9.q10 y9.q11 y9.q12 y9.q13 y9.q14 (List.drop (Int.toNat (1)) x41 ++ y9.q16))
 else (none))
 else (none))
 else (bif (((inn (1)) && true) && (inbs (Int.toNat (1)) (List.length x41) (List.length x41))) then
 (bif (full (Int.toNat (1)) ((List.length x41) - (Int.toNat (1))) (List.length x41) && room (((List.length x41) - (Int.toNat (1))) + List.length y9.q16) 136) then
 (F3_c0 n x0 x1 y9.q15 (ieq (List.getD x41 (Int.toNat (0)) (0, 0, 0, 0, 0, false, false, 0, 0, [], ByteArray.empty, 0, 0, false, 0)).1 (5)) (iadd .i64 x4 (1)) (iadd .i64 x5 (1)) x6 x7 x8 x9 x10 x11 x12 x13 x14 x15 x16 x17 x18 x19 x20 x21 x22 x23 x24 x25 y9.q0 y9.q1 y9.q2 y9.q3 y9.q4 y9.q5 y9.q6 y9.q7 y9.q8 y9.q9 y9.q10 y9.q11 y9.q12 y9.q13 y9.q14 (List.drop (Int.toNat (1)) x41 ++ y9.q16))
 else (none))
 else (none))))
 else (bif (!y8) then
 (Option.bind (F11 FUEL x6 x7 x8 x9 x10 x11 x12 x13 x14 x15 x16 x17 x18 x19 x20 x21 x22 x23 x24 x25 x26 x27 x28 x29 x30 x31 x32 x33 x34 x35 x36 x37 x38 x39 x40 (List.getD x41 (Int.toNat (0)) (0, 0, 0, 0, 0, false, false, 0, 0, [], ByteArray.empty, 0, 0, false, 0)).2.2.2.1) fun y10 =>
 bif x3 then
 (bif x2 then
 (bif (((inn (1)) && true) && (inbs (Int.toNat (1)) (List.length x41) (List.length x41))) then
 (bif (full (Int.toNat (1)) ((List.length x41) - (Int.toNat (1))) (List.length x41) && room (((List.length x41) - (Int.toNat (1))) + List.length y10.q16) 136) then
 (F3_c0 n x0 x1 true true (iadd .i64 x4 (1)) (iadd .i64 x5 (1)) x6 x7 x8 x9 x10 x11 x12 x13 x14 x15 x16 x17 x18 x19 x20 x21 x22 x23 x24 x25 y10.q0 y10.q1 y10.q2 y10.q3 y10.q4 y10.q5 y10.q6 y10.q7 y10.q8 y10.q9 y10.q10 y10.q11 y10.q12 y10.q13 y10.q14 (List.drop (Int.toNat (1)) x41 ++ y10.q16))
 else (none))
 else (none))
 else (bif (((inn (1)) && true) && (inbs (Int.toNat (1)) (List.length x41) (List.length x41))) then
 (bif (full (Int.toNat (1)) ((List.length x41) - (Int.toNat (1))) (List.length x41) && room (((List.length x41) - (Int.toNat (1))) + List.length y10.q16) 136) then
 (F3_c0 n x0 x1 y10.q15 true (iadd .i64 x4 (1)) (iadd .i64 x5 (1)) x6 x7 x8 x9 x10 x11 x12 x13 x14 x15 x16 x17 x18 x19 x20 x21 x22 x23 x24 x25 y10.q0 y10.q1 y10.q2 y10.q3 y10.q4 y10.q5 y10.q6 y10.q7 y10.q8 y10.q9 y10.q10 y10.q11 y10.q12 y10.q13 y10.q14 (List.drop (Int.toNat (1)) x41 ++ y10.q16))
 else (none))
 else (none)))
 else (bif x2 then
 (bif (((inn (1)) && true) && (inbs (Int.toNat (1)) (List.length x41) (List.length x41))) then
 (bif (full (Int.toNat (1)) ((List.length x41) - (Int.toNat (1))) (List.length x41) && room (((List.length x41) - (Int.toNat (1))) + List.length y10.q16) 136) then
 (F3_c0 n x0 x1 true (ieq (List.getD x41 (Int.toNat (0)) (0, 0, 0, 0, 0, false, false, 0, 0, [], ByteArray.empty, 0, 0, false, 0)).1 (5)) (iadd .i64 x4 (1)) (iadd .i64 x5 (1)) x6 x7 x8 x9 x10 x11 x12 x13 x14 x15 x16 x17 x18 x19 x20 x21 x22 x23 x24 x25 y10.q0 y10.q1 y10.q2 y10.q3 y10.q4 y10.q5 y10.q6 y10.q7 y10.q8 y10.q9 y10.q10 y10.q11 y10.q12 y10.q13 y10.q14 (List.drop (Int.toNat (1)) x41 ++ y10.q16))
 else (none))
 else (none))
 else (bif (((inn (1)) && true) && (inbs (Int.toNat (1)) (List.length x41) (List.length x41))) then
 (bif (full (Int.toNat (1)) ((List.length x41) - (Int.toNat (1))) (List.length x41) && room (((List.length x41) - (Int.toNat (1))) + List.length y10.q16) 136) then
 (F3_c0 n x0 x1 y10.q15 (ieq (List.getD x41 (Int.toNat (0)) (0, 0, 0, 0, 0, false, false, 0, 0, [], ByteArray.empty, 0, 0, false, 0)).1 (5)) (iadd .i64 x4 (1)) (iadd .i64 x5 (1)) x6 x7 x8 x9 x10 x11 x12 x13 x14 x15 x16 x17 x18 x19 x20 x21 x22 x23 x24 x25 y10.q0 y10.q1 y10.q2 y10.q3 y10.q4 y10.q5 y10.q6 y10.q7 y10.q8 y10.q9 y10.q10 y10.q11 y10.q12 y10.q13 y10.q14 (List.drop (Int.toNat (1)) x41 ++ y10.q16))
 else (none))
 else (none))))
 else (Option.bind (F12 FUEL x6 x7 x8 x9 x10 x11 x12 x13 x14 x15 x16 x17 x18 x19 x20 x21 x22 x23 x24 x25 x26 x27 x28 x29 x30 x31 x32 x33 x34 x35 x36 x37 x38 x39 x40 (iadd .u8 (List.getD x41 (Int.toNat (0)) (0, 0, 0, 0, 0, false, false, 0, 0, [], ByteArray.empty, 0, 0, false, 0)).1 (6)) (iadd .i64 (imul .i64 x6 (1048576)) (1)) (List.getD x41 (Int.toNat (0)) (0, 0, 0, 0, 0, false, false, 0, 0, [], ByteArray.empty, 0, 0, false, 0)).2.2.2.1 x6 (0) false (List.getD x1 (Int.toNat x5) (false, false, 0, [], false)).2.1 (List.getD x1 (Int.toNat x5) (false, false, 0, [], false)).2.2.1 (0) [] ByteArray.empty (0) (0) false (0)) fun y11 =>
 bif x3 then
 (bif x2 then
 (bif (((inn (1)) && true) && (inbs (Int.toNat (1)) (List.length x41) (List.length x41))) then
 (bif (full (Int.toNat (1)) ((List.length x41) - (Int.toNat (1))) (List.length x41) && room (((List.length x41) - (Int.toNat (1))) + List.length y11.q16) 136) then
 (F3_c0 n x0 x1 true true (iadd .i64 x4 (1)) (iadd .i64 x5 (1)) x6 x7 x8 x9 x10 x11 x12 x13 x14 x15 x16 x17 x18 x19 x20 x21 x22 x23 x24 x25 y11.q0 y11.q1 y11.q2 y11.q3 y11.q4 y11.q5 y11.q6 y11.q7 y11.q8 y11.q9 y11.q10 y11.q11 y11.q12 y11.q13 y11.q14 (List.drop (Int.toNat (1)) x41 ++ y11.q16))
 else (none))
 else (none))
 else (bif (((inn (1)) && true) && (inbs (Int.toNat (1)) (List.length x41) (List.length x41))) then
 (bif (full (Int.toNat (1)) ((List.length x41) - (Int.toNat (1))) (List.length x41) && room (((List.length x41) - (Int.toNat (1))) + List.length y11.q16) 136) then
 (F3_c0 n x0 x1 y11.q15 true (iadd .i64 x4 (1)) (iadd .i64 x5 (1)) x6 x7 x8 x9 x10 x11 x12 x13 x14 x15 x16 x17 x18 x19 x20 x21 x22 x23 x24 x25 y11.q0 y11.q1 y11.q2 y11.q3 y11.q4 y11.q5 y11.q6 y11.q7 y11.q8 y11.q9 y11.q10 y11.q11 y11.q12 y11.q13 y11.q14 (List.drop (Int.toNat (1)) x41 ++ y11.q16))
 else (none))
 else (none)))
 else (bif (ieq (List.getD x41 (Int.toNat (0)) (0, 0, 0, 0, 0, false, false, 0, 0, [], ByteArray.empty, 0, 0, false, 0)).1 (5)) then
 (bif x2 then
 (bif (((inn (1)) && true) && (inbs (Int.toNat (1)) (List.length x41) (List.length x41))) then
 (bif (full (Int.toNat (1)) ((List.length x41) - (Int.toNat (1))) (List.length x41) && room (((List.length x41) - (Int.toNat (1))) + List.length y11.q16) 136) then
 (F3_c0 n x0 x1 true (ine (0) (0)) (iadd .i64 x4 (1)) (iadd .i64 x5 (1)) x6 x7 x8 x9 x10 x11 x12 x13 x14 x15 x16 x17 x18 x19 x20 x21 x22 x23 x24 x25 y11.q0 y11.q1 y11.q2 y11.q3 y11.q4 y11.q5 y11.q6 y11.q7 y11.q8 y11.q9 y11.q10 y11.q11 y11.q12 y11.q13 y11.q14 (List.drop (Int.toNat (1)) x41 ++ y11.q16))
 else (none))
 else (none))
 else (bif (((inn (1)) && true) && (inbs (Int.toNat (1)) (List.length x41) (List.length x41))) then
 (bif (full (Int.toNat (1)) ((List.length x41) - (Int.toNat (1))) (List.length x41) && room (((List.length x41) - (Int.toNat (1))) + List.length y11.q16) 136) then
 (F3_c0 n x0 x1 y11.q15 (ine (0) (0)) (iadd .i64 x4 (1)) (iadd .i64 x5 (1)) x6 x7 x8 x9 x10 x11 x12 x13 x14 x15 x16 x17 x18 x19 x20 x21 x22 x23 x24 x25 y11.q0 y11.q1 y11.q2 y11.q3 y11.q4 y11.q5 y11.q6 y11.q7 y11.q8 y11.q9 y11.q10 y11.q11 y11.q12 y11.q13 y11.q14 (List.drop (Int.toNat (1)) x41 ++ y11.q16))
 else (none))
 else (none)))
 else (bif x2 then
 (bif (((inn (1)) && true) && (inbs (Int.toNat (1)) (List.length x41) (List.length x41))) then
 (bif (full (Int.toNat (1)) ((List.length x41) - (Int.toNat (1))) (List.length x41) && room (((List.length x41) - (Int.toNat (1))) + List.length y11.q16) 136) then
 (F3_c0 n x0 x1 true false (iadd .i64 x4 (1)) (iadd .i64 x5 (1)) x6 x7 x8 x9 x10 x11 x12 x13 x14 x15 x16 x17 x18 x19 x20 x21 x22 x23 x24 x25 y11.q0 y11.q1 y11.q2 y11.q3 y11.q4 y11.q5 y11.q6 y11.q7 y11.q8 y11.q9 y11.q10 y11.q11 y11.q12 y11.q13 y11.q14 (List.drop (Int.toNat (1)) x41 ++ y11.q16))
 else (none))
 else (none))
 else (bif (((inn (1)) && true) && (inbs (Int.toNat (1)) (List.length x41) (List.length x41))) then
 (bif (full (Int.toNat (1)) ((List.length x41) - (Int.toNat (1))) (List.length x41) && room (((List.length x41) - (Int.toNat (1))) + List.length y11.q16) 136) then
 (F3_c0 n x0 x1 y11.q15 false (iadd .i64 x4 (1)) (iadd .i64 x5 (1)) x6 x7 x8 x9 x10 x11 x12 x13 x14 x15 x16 x17 x18 x19 x20 x21 x22 x23 x24 x25 y11.q0 y11.q1 y11.q2 y11.q3 y11.q4 y11.q5 y11.q6 y11.q7 y11.q8 y11.q9 y11.q10 y11.q11 y11.q12 y11.q13 y11.q14 (List.drop (Int.toNat (1)) x41 ++ y11.q16))
 else (none))
 else (none)))))))
 else (none))
 else (bif (ieq (List.getD x41 (Int.toNat (0)) (0, 0, 0, 0, 0, false, false, 0, 0, [], ByteArray.empty, 0, 0, false, 0)).1 (1)) then
 (Option.bind (F16 FUEL (iadd .u8 (List.getD x41 (Int.toNat (0)) (0, 0, 0, 0, 0, false, false, 0, 0, [], ByteArray.empty, 0, 0, false, 0)).1 (6)) (iadd .i64 (imul .i64 x6 (1048576)) (1)) (List.getD x41 (Int.toNat (0)) (0, 0, 0, 0, 0, false, false, 0, 0, [], ByteArray.empty, 0, 0, false, 0)).2.2.2.1 x6 (0) false false (0) (-1) (List.getD x1 (Int.toNat x5) (false, false, 0, [], false)).2.2.2.1 ByteArray.empty (0) (0) false (0)) fun y12 =>
 bif (inb x5 (List.length x1)) then
 (bif (List.getD x1 (Int.toNat x5) (false, false, 0, [], false)).1 then
 (Option.bind (F11 FUEL x6 x7 x8 x9 x10 x11 x12 x13 x14 x15 x16 x17 x18 x19 x20 x21 x22 x23 x24 x25 x26 x27 x28 x29 x30 x31 x32 x33 x34 x35 x36 x37 x38 x39 x40 (List.getD x41 (Int.toNat (0)) (0, 0, 0, 0, 0, false, false, 0, 0, [], ByteArray.empty, 0, 0, false, 0)).2.2.2.1) fun y13 =>
 bif x3 then
 (bif x2 then
 (bif (((inn (1)) && true) && (inbs (Int.toNat (1)) (List.length x41) (List.length x41))) then
 (bif (full (Int.toNat (1)) ((List.length x41) - (Int.toNat (1))) (List.length x41) && room (((List.length x41) - (Int.toNat (1))) + List.length y13.q16) 136) then
 (F3_c0 n x0 x1 true true (iadd .i64 x4 (1)) (iadd .i64 x5 (1)) x6 x7 x8 x9 x10 x11 x12 x13 x14 x15 x16 x17 x18 x19 x20 x21 x22 x23 x24 x25 y13.q0 y13.q1 y13.q2 y13.q3 y13.q4 y13.q5 y13.q6 y13.q7 y13.q8 y13.q9 y13.q10 y13.q11 y13.q12 y13.q13 y13.q14 (List.drop (Int.toNat (1)) x41 ++ y13.q16))
 else (none))
 else (none))
 else (bif (((inn (1)) && true) && (inbs (Int.toNat (1)) (List.length x41) (List.length x41))) then
 (bif (full (Int.toNat (1)) ((List.length x41) - (Int.toNat (1))) (List.length x41) && room (((List.length x41) - (Int.toNat (1))) + List.length y13.q16) 136) then
 (F3_c0 n x0 x1 y13.q15 true (iadd .i64 x4 (1)) (iadd .i64 x5 (1)) x6 x7 x8 x9 x10 x11 x12 x13 x14 x15 x16 x17 x18 x19 x20 x21 x22 x23 x24 x25 y13.q0 y13.q1 y13.q2 y13.q3 y13.q4 y13.q5 y13.q6 y13.q7 y13.q8 y13.q9 y13.q10 y13.q11 y13.q12 y13.q13 y13.q14 (List.drop (Int.toNat (1)) x41 ++ y13.q16))
 else (none))
 else (none)))
 else (bif x2 then
 (bif (((inn (1)) && true) && (inbs (Int.toNat (1)) (List.length x41) (List.length x41))) then
 (bif (full (Int.toNat (1)) ((List.length x41) - (Int.toNat (1))) (List.length x41) && room (((List.length x41) - (Int.toNat (1))) + List.length y13.q16) 136) then
 (F3_c0 n x0 x1 true (ieq (List.getD x41 (Int.toNat (0)) (0, 0, 0, 0, 0, false, false, 0, 0, [], ByteArray.empty, 0, 0, false, 0)).1 (5)) (iadd .i64 x4 (1)) (iadd .i64 x5 (1)) x6 x7 x8 x9 x10 x11 x12 x13 x14 x15 x16 x17 x18 x19 x20 x21 x22 x23 x24 x25 y13.q0 y13.q1 y13.q2 y13.q3 y13.q4 y13.q5 y13.q6 y13.q7 y13.q8 y13.q9 y13.q10 y13.q11 y13.q12 y13.q13 y13.q14 (List.drop (Int.toNat (1)) x41 ++ y13.q16))
 else (none))
 else (none))
 else (bif (((inn (1)) && true) && (inbs (Int.toNat (1)) (List.length x41) (List.length x41))) then
 (bif (full (Int.toNat (1)) ((List.length x41) - (Int.toNat (1))) (List.length x41) && room (((List.length x41) - (Int.toNat (1))) + List.length y13.q16) 136) then
 (F3_c0 n x0 x1 y13.q15 (ieq (List.getD x41 (Int.toNat (0)) (0, 0, 0, 0, 0, false, false, 0, 0, [], ByteArray.empty, 0, 0, false, 0)).1 (5)) (iadd .i64 x4 (1)) (iadd .i64 x5 (1)) x6 x7 x8 x9 x10 x11 x12 x13 x14 x15 x16 x17 x18 x19 x20 x21 x22 x23 x24 x25 y13.q0 y13.q1 y13.q2 y13.q3 y13.q4 y13.q5 y13.q6 y13.q7 y13.q8 y13.q9 y13.q10 y13.q11 y13.q12 y13.q13 y13.q14 (List.drop (Int.toNat (1)) x41 ++ y13.q16))
 else (none))
 else (none))))
 else (bif (!y12) then
 (Option.bind (F11 FUEL x6 x7 x8 x9 x10 x11 x12 x13 x14 x15 x16 x17 x18 x19 x20 x21 x22 x23 x24 x25 x26 x27 x28 x29 x30 x31 x32 x33 x34 x35 x36 x37 x38 x39 x40 (List.getD x41 (Int.toNat (0)) (0, 0, 0, 0, 0, false, false, 0, 0, [], ByteArray.empty, 0, 0, false, 0)).2.2.2.1) fun y14 =>
 bif x3 then
 (bif x2 then
 (bif (((inn (1)) && true) && (inbs (Int.toNat (1)) (List.length x41) (List.length x41))) then
 (bif (full (Int.toNat (1)) ((List.length x41) - (Int.toNat (1))) (List.length x41) && room (((List.length x41) - (Int.toNat (1))) + List.length y14.q16) 136) then
 (F3_c0 n x0 x1 true true (iadd .i64 x4 (1)) (iadd .i64 x5 (1)) x6 x7 x8 x9 x10 x11 x12 x13 x14 x15 x16 x17 x18 x19 x20 x21 x22 x23 x24 x25 y14.q0 y14.q1 y14.q2 y14.q3 y14.q4 y14.q5 y14.q6 y14.q7 y14.q8 y14.q9 y14.q10 y14.q11 y14.q12 y14.q13 y14.q14 (List.drop (Int.toNat (1)) x41 ++ y14.q16))
 else (none))
 else (none))
 else (bif (((inn (1)) && true) && (inbs (Int.toNat (1)) (List.length x41) (List.length x41))) then
 (bif (full (Int.toNat (1)) ((List.length x41) - (Int.toNat (1))) (List.length x41) && room (((List.length x41) - (Int.toNat (1))) + List.length y14.q16) 136) then
 (F3_c0 n x0 x1 y14.q15 true (iadd .i64 x4 (1)) (iadd .i64 x5 (1)) x6 x7 x8 x9 x10 x11 x12 x13 x14 x15 x16 x17 x18 x19 x20 x21 x22 x23 x24 x25 y14.q0 y14.q1 y14.q2 y14.q3 y14.q4 y14.q5 y14.q6 y14.q7 y14.q8 y14.q9 y14.q10 y14.q11 y14.q12 y14.q13 y14.q14 (List.drop (Int.toNat (1)) x41 ++ y14.q16))
 else (none))
 else (none)))
 else (bif x2 then
 (bif (((inn (1)) && true) && (inbs (Int.toNat (1)) (List.length x41) (List.length x41))) then
 (bif (full (Int.toNat (1)) ((List.length x41) - (Int.toNat (1))) (List.length x41) && room (((List.length x41) - (Int.toNat (1))) + List.length y14.q16) 136) then
 (F3_c0 n x0 x1 true (ieq (List.getD x41 (Int.toNat (0)) (0, 0, 0, 0, 0, false, false, 0, 0, [], ByteArray.empty, 0, 0, false, 0)).1 (5)) (iadd .i64 x4 (1)) (iadd .i64 x5 (1)) x6 x7 x8 x9 x10 x11 x12 x13 x14 x15 x16 x17 x18 x19 x20 x21 x22 x23 x24 x25 y14.q0 y14.q1 y14.q2 y14.q3 y14.q4 y14.q5 y14.q6 y14.q7 y14.q8 y14.q9 y14.q10 y14.q11 y14.q12 y14.q13 y14.q14 (List.drop (Int.toNat (1)) x41 ++ y14.q16))
 else (none))
 else (none))
 else (bif (((inn (1)) && true) && (inbs (Int.toNat (1)) (List.length x41) (List.length x41))) then
 (bif (full (Int.toNat (1)) ((List.length x41) - (Int.toNat (1))) (List.length x41) && room (((List.length x41) - (Int.toNat (1))) + List.length y14.q16) 136) then
 (F3_c0 n x0 x1 y14.q15 (ieq (List.getD x41 (Int.toNat (0)) (0, 0, 0, 0, 0, false, false, 0, 0, [], ByteArray.empty, 0, 0, false, 0)).1 (5)) (iadd .i64 x4 (1)) (iadd .i64 x5 (1)) x6 x7 x8 x9 x10 x11 x12 x13 x14 x15 x16 x17 x18 x19 x20 x21 x22 x23 x24 x25 y14.q0 y14.q1 y14.q2 y14.q3 y14.q4 y14.q5 y14.q6 y14.q7 y14.q8 y14.q9 y14.q10 y14.q11 y14.q12 y14.q13 y14.q14 (List.drop (Int.toNat (1)) x41 ++ y14.q16))
 else (none))
 else (none))))
 else (Option.bind (F12 FUEL x6 x7 x8 x9 x10 x11 x12 x13 x14 x15 x16 x17 x18 x19 x20 x21 x22 x23 x24 x25 x26 x27 x28 x29 x30 x31 x32 x33 x34 x35 x36 x37 x38 x39 x40 (iadd .u8 (List.getD x41 (Int.toNat (0)) (0, 0, 0, 0, 0, false, false, 0, 0, [], ByteArray.empty, 0, 0, false, 0)).1 (6)) (iadd .i64 (imul .i64 x6 (1048576)) (1)) (List.getD x41 (Int.toNat (0)) (0, 0, 0, 0, 0, false, false, 0, 0, [], ByteArray.empty, 0, 0, false, 0)).2.2.2.1 x6 (0) false false (0) (-1) (List.getD x1 (Int.toNat x5) (false, false, 0, [], false)).2.2.2.1 ByteArray.empty (0) (0) false (0)) fun y15 =>
 bif x3 then
 (bif x2 then
 (bif (((inn (1)) && true) && (inbs (Int.toNat (1)) (List.length x41) (List.length x41))) then
 (bif (full (Int.toNat (1)) ((List.length x41) - (Int.toNat (1))) (List.length x41) && room (((List.length x41) - (Int.toNat (1))) + List.length y15.q16) 136) then
 (F3_c0 n x0 x1 true true (iadd .i64 x4 (1)) (iadd .i64 x5 (1)) x6 x7 x8 x9 x10 x11 x12 x13 x14 x15 x16 x17 x18 x19 x20 x21 x22 x23 x24 x25 y15.q0 y15.q1 y15.q2 y15.q3 y15.q4 y15.q5 y15.q6 y15.q7 y15.q8 y15.q9 y15.q10 y15.q11 y15.q12 y15.q13 y15.q14 (List.drop (Int.toNat (1)) x41 ++ y15.q16))
 else (none))
 else (none))
 else (bif (((inn (1)) && true) && (inbs (Int.toNat (1)) (List.length x41) (List.length x41))) then
 (bif (full (Int.toNat (1)) ((List.length x41) - (Int.toNat (1))) (List.length x41) && room (((List.length x41) - (Int.toNat (1))) + List.length y15.q16) 136) then
 (F3_c0 n x0 x1 y15.q15 true (iadd .i64 x4 (1)) (iadd .i64 x5 (1)) x6 x7 x8 x9 x10 x11 x12 x13 x14 x15 x16 x17 x18 x19 x20 x21 x22 x23 x24 x25 y15.q0 y15.q1 y15.q2 y15.q3 y15.q4 y15.q5 y15.q6 y15.q7 y15.q8 y15.q9 y15.q10 y15.q11 y15.q12 y15.q13 y15.q14 (List.drop (Int.toNat (1)) x41 ++ y15.q16))
 else (none))
 else (none)))
 else (bif (ieq (List.getD x41 (Int.toNat (0)) (0, 0, 0, 0, 0, false, false, 0, 0, [], ByteArray.empty, 0, 0, false, 0)).1 (5)) then
 (bif x2 then
 (bif (((inn (1)) && true) && (inbs (Int.toNat (1)) (List.length x41) (List.length x41))) then
 (bif (full (Int.toNat (1)) ((List.length x41) - (Int.toNat (1))) (List.length x41) && room (((List.length x41) - (Int.toNat (1))) + List.length y15.q16) 136) then
 (F3_c0 n x0 x1 true (ine (0) (0)) (iadd .i64 x4 (1)) (iadd .i64 x5 (1)) x6 x7 x8 x9 x10 x11 x12 x13 x14 x15 x16 x17 x18 x19 x20 x21 x22 x23 x24 x25 y15.q0 y15.q1 y15.q2 y15.q3 y15.q4 y15.q5 y15.q6 y15.q7 y15.q8 y15.q9 y15.q10 y15.q11 y15.q12 y15.q13 y15.q14 (List.drop (Int.toNat (1)) x41 ++ y15.q16))
 else (none))
 else (none))
 else (bif (((inn (1)) && true) && (inbs (Int.toNat (1)) (List.length x41) (List.length x41))) then
 (bif (full (Int.toNat (1)) ((List.length x41) - (Int.toNat (1))) (List.length x41) && room (((List.length x41) - (Int.toNat (1))) + List.length y15.q16) 136) then
 (F3_c0 n x0 x1 y15.q15 (ine (0) (0)) (iadd .i64 x4 (1)) (iadd .i64 x5 (1)) x6 x7 x8 x9 x10 x11 x12 x13 x14 x15 x16 x17 x18 x19 x20 x21 x22 x23 x24 x25 y15.q0 y15.q1 y15.q2 y15.q3 y15.q4 y15.q5 y15.q6 y15.q7 y15.q8 y15.q9 y15.q10 y15.q11 y15.q12 y15.q13 y15.q14 (List.drop (Int.toNat (1)) x41 ++ y15.q16))
 else (none))
 else (none)))
 else (bif x2 then
 (bif (((inn (1)) && true) && (inbs (Int.toNat (1)) (List.length x41) (List.length x41))) then
 (bif (full (Int.toNat (1)) ((List.length x41) - (Int.toNat (1))) (List.length x41) && room (((List.length x41) - (Int.toNat (1))) + List.length y15.q16) 136) then
 (F3_c0 n x0 x1 true false (iadd .i64 x4 (1)) (iadd .i64 x5 (1)) x6 x7 x8 x9 x10 x11 x12 x13 x14 x15 x16 x17 x18 x19 x20 x21 x22 x23 x24 x25 y15.q0 y15.q1 y15.q2 y15.q3 y15.q4 y15.q5 y15.q6 y15.q7 y15.q8 y15.q9 y15.q10 y15.q11 y15.q12 y15.q13 y15.q14 (List.drop (Int.toNat (1)) x41 ++ y15.q16))
 else (none))
 else (none))
 else (bif (((inn (1)) && true) && (inbs (Int.toNat (1)) (List.length x41) (List.length x41))) then
 (bif (full (Int.toNat (1)) ((List.length x41) - (Int.toNat (1))) (List.length x41) && room (((List.length x41) - (Int.toNat (1))) + List.length y15.q16) 136) then
 (F3_c0 n x0 x1 y15.q15 false (iadd .i64 x4 (1)) (iadd .i64 x5 (1)) x6 x7 x8 x9 x10 x11 x12 x13 x14 x15 x16 x17 x18 x19 x20 x21 x22 x23 x24 x25 y15.q0 y15.q1 y15.q2 y15.q3 y15.q4 y15.q5 y15.q6 y15.q7 y15.q8 y15.q9 y15.q10 y15.q11 y15.q12 y15.q13 y15.q14 (List.drop (Int.toNat (1)) x41 ++ y15.q16))
 else (none))
 else (none)))))))
 else (none))
 else (bif (ieq (List.getD x41 (Int.toNat (0)) (0, 0, 0, 0, 0, false, false, 0, 0, [], ByteArray.empty, 0, 0, false, 0)).1 (5)) then
 (bif (List.getD x1 (Int.toNat x5) (false, false, 0, [], false)).2.2.2.2 then
 (Option.bind (F16 FUEL (iadd .u8 (List.getD x41 (Int.toNat (0)) (0, 0, 0, 0, 0, false, false, 0, 0, [], ByteArray.empty, 0, 0, false, 0)).1 (6)) (iadd .i64 (imul .i64 x6 (1048576)) (1)) (List.getD x41 (Int.toNat (0)) (0, 0, 0, 0, 0, false, false, 0, 0, [], ByteArray.empty, 0, 0, false, 0)).2.2.2.1 x6 (0) false false (0) (0) [] ByteArray.empty (0) (0) false (200)) fun y16 =>
 bif (inb x5 (List.length x1)) then
 (bif (List.getD x1 (Int.toNat x5) (false, false, 0, [], false)).1 then
 (Option.bind (F11 FUEL x6 x7 x8 x9 x10 x11 x12 x13 x14 x15 x16 x17 x18 x19 x20 x21 x22 x23 x24 x25 x26 x27 x28 x29 x30 x31 x32 x33 x34 x35 x36 x37 x38 x39 x40 (List.getD x41 (Int.toNat (0)) (0, 0, 0, 0, 0, false, false, 0, 0, [], ByteArray.empty, 0, 0, false, 0)).2.2.2.1) fun y17 =>
 bif x3 then
 (bif x2 then
 (bif (((inn (1)) && true) && (inbs (Int.toNat (1)) (List.length x41) (List.length x41))) then
 (bif (full (Int.toNat (1)) ((List.length x41) - (Int.toNat (1))) (List.length x41) && room (((List.length x41) - (Int.toNat (1))) + List.length y17.q16) 136) then
 (F3_c0 n x0 x1 true true (iadd .i64 x4 (1)) (iadd .i64 x5 (1)) x6 x7 x8 x9 x10 x11 x12 x13 x14 x15 x16 x17 x18 x19 x20 x21 x22 x23 x24 x25 y17.q0 y17.q1 y17.q2 y17.q3 y17.q4 y17.q5 y17.q6 y17.q7 y17.q8 y17.q9 y17.q10 y17.q11 y17.q12 y17.q13 y17.q14 (List.drop (Int.toNat (1)) x41 ++ y17.q16))
 else (none))
 else (none))
 else (bif (((inn (1)) && true) && (inbs (Int.toNat (1)) (List.length x41) (List.length x41))) then
 (bif (full (Int.toNat (1)) ((List.length x41) - (Int.toNat (1))) (List.length x41) && room (((List.length x41) - (Int.toNat (1))) + List.length y17.q16) 136) then
 (F3_c0 n x0 x1 y17.q15 true (iadd .i64 x4 (1)) (iadd .i64 x5 (1)) x6 x7 x8 x9 x10 x11 x12 x13 x14 x15 x16 x17 x18 x19 x20 x21 x22 x23 x24 x25 y17.q0 y17.q1 y17.q2 y17.q3 y17.q4 y17.q5 y17.q6 y17.q7 y17.q8 y17.q9 y17.q10 y17.q11 y17.q12 y17.q13 y17.q14 (List.drop (Int.toNat (1)) x41 ++ y17.q16))
 else (none))
 else (none)))
 else (bif x2 then
 (bif (((inn (1)) && true) && (inbs (Int.toNat (1)) (List.length x41) (List.length x41))) then
 (bif (full (Int.toNat (1)) ((List.length x41) - (Int.toNat (1))) (List.length x41) && room (((List.length x41) - (Int.toNat (1))) + List.length y17.q16) 136) then
 (F3_c0 n x0 x1 true (ieq (List.getD x41 (Int.toNat (0)) (0, 0, 0, 0, 0, false, false, 0, 0, [], ByteArray.empty, 0, 0, false, 0)).1 (5)) (iadd .i64 x4 (1)) (iadd .i64 x5 (1)) x6 x7 x8 x9 x10 x11 x12 x13 x14 x15 x16 x17 x18 x19 x20 x21 x22 x23 x24 x25 y17.q0 y17.q1 y17.q2 y17.q3 y17.q4 y17.q5 y17.q6 y17.q7 y17.q8 y17.q9 y17.q10 y17.q11 y17.q12 y17.q13 y17.q14 (List.drop (Int.toNat (1)) x41 ++ y17.q16))
 else (none))
 else (none))
 else (bif (((inn (1)) && true) && (inbs (Int.toNat (1)) (List.length x41) (List.length x41))) then
 (bif (full (Int.toNat (1)) ((List.length x41) - (Int.toNat (1))) (List.length x41) && room (((List.length x41) - (Int.toNat (1))) + List.length y17.q16) 136) then
 (F3_c0 n x0 x1 y17.q15 (ieq (List.getD x41 (Int.toNat (0)) (0, 0, 0, 0, 0, false, false, 0, 0, [], ByteArray.empty, 0, 0, false, 0)).1 (5)) (iadd .i64 x4 (1)) (iadd .i64 x5 (1)) x6 x7 x8 x9 x10 x11 x12 x13 x14 x15 x16 x17 x18 x19 x20 x21 x22 x23 x24 x25 y17.q0 y17.q1 y17.q2 y17.q3 y17.q4 y17.q5 y17.q6 y17.q7 y17.q8 y17.q9 y17.q10 y17.q11 y17.q12 y17.q13 y17.q14 (List.drop (Int.toNat (1)) x41 ++ y17.q16))
 else (none))
 else (none))))
 else (bif (!y16) then
 (Option.bind (F11 FUEL x6 x7 x8 x9 x10 x11 x12 x13 x14 x15 x16 x17 x18 x19 x20 x21 x22 x23 x24 x25 x26 x27 x28 x29 x30 x31 x32 x33 x34 x35 x36 x37 x38 x39 x40 (List.getD x41 (Int.toNat (0)) (0, 0, 0, 0, 0, false, false, 0, 0, [], ByteArray.empty, 0, 0, false, 0)).2.2.2.1) fun y18 =>
 bif x3 then
 (bif x2 then
 (bif (((inn (1)) && true) && (inbs (Int.toNat (1)) (List.length x41) (List.length x41))) then
 (bif (full (Int.toNat (1)) ((List.length x41) - (Int.toNat (1))) (List.length x41) && room (((List.length x41) - (Int.toNat (1))) + List.length y18.q16) 136) then
 (F3_c0 n x0 x1 true true (iadd .i64 x4 (1)) (iadd .i64 x5 (1)) x6 x7 x8 x9 x10 x11 x12 x13 x14 x15 x16 x17 x18 x19 x20 x21 x22 x23 x24 x25 y18.q0 y18.q1 y18.q2 y18.q3 y18.q4 y18.q5 y18.q6 y18.q7 y18.q8 y18.q9 y18.q10 y18.q11 y18.q12 y18.q13 y18.q14 (List.drop (Int.toNat (1)) x41 ++ y18.q16))
 else (none))
 else (none))
 else (bif (((inn (1)) && true) && (inbs (Int.toNat (1)) (List.length x41) (List.length x41))) then
 (bif (full (Int.toNat (1)) ((List.length x41) - (Int.toNat (1))) (List.length x41) && room (((List.length x41) - (Int.toNat (1))) + List.length y18.q16) 136) then
 (F3_c0 n x0 x1 y18.q15 true (iadd .i64 x4 (1)) (iadd .i64 x5 (1)) x6 x7 x8 x9 x10 x11 x12 x13 x14 x15 x16 x17 x18 x19 x20 x21 x22 x23 x24 x25 y18.q0 y18.q1 y18.q2 y18.q3 y18.q4 y18.q5 y18.q6 y18.q7 y18.q8 y18.q9 y18.q10 y18.q11 y18.q12 y18.q13 y18.q14 (List.drop (Int.toNat (1)) x41 ++ y18.q16))
 else (none))
 else (none)))
 else (bif x2 then
 (bif (((inn (1)) && true) && (inbs (Int.toNat (1)) (List.length x41) (List.length x41))) then
 (bif (full (Int.toNat (1)) ((List.length x41) - (Int.toNat (1))) (List.length x41) && room (((List.length x41) - (Int.toNat (1))) + List.length y18.q16) 136) then
 (F3_c0 n x0 x1 true (ieq (List.getD x41 (Int.toNat (0)) (0, 0, 0, 0, 0, false, false, 0, 0, [], ByteArray.empty, 0, 0, false, 0)).1 (5)) (iadd .i64 x4 (1)) (iadd .i64 x5 (1)) x6 x7 x8 x9 x10 x11 x12 x13 x14 x15 x16 x17 x18 x19 x20 x21 x22 x23 x24 x25 y18.q0 y18.q1 y18.q2 y18.q3 y18.q4 y18.q5 y18.q6 y18.q7 y18.q8 y18.q9 y18.q10 y18.q11 y18.q12 y18.q13 y18.q14 (List.drop (Int.toNat (1)) x41 ++ y18.q16))
 else (none))
 else (none))
 else (bif (((inn (1)) && true) && (inbs (Int.toNat (1)) (List.length x41) (List.length x41))) then
 (bif (full (Int.toNat (1)) ((List.length x41) - (Int.toNat (1))) (List.length x41) && room (((List.length x41) - (Int.toNat (1))) + List.length y18.q16) 136) then
 (F3_c0 n x0 x1 y18.q15 (ieq (List.getD x41 (Int.toNat (0)) (0, 0, 0, 0, 0, false, false, 0, 0, [], ByteArray.empty, 0, 0, false, 0)).1 (5)) (iadd .i64 x4 (1)) (iadd .i64 x5 (1)) x6 x7 x8 x9 x10 x11 x12 x13 x14 x15 x16 x17 x18 x19 x20 x21 x22 x23 x24 x25 y18.q0 y18.q1 y18.q2 y18.q3 y18.q4 y18.q5 y18.q6 y18.q7 y18.q8 y18.q9 y18.q10 y18.q11 y18.q12 y18.q13 y18.q14 (List.drop (Int.toNat (1)) x41 ++ y18.q16))
 else (none))
 else (none))))
 else (Option.bind (F12 FUEL x6 x7 x8 x9 x10 x11 x12 x13 x14 x15 x16 x17 x18 x19 x20 x21 x22 x23 x24 x25 x26 x27 x28 x29 x30 x31 x32 x33 x34 x35 x36 x37 x38 x39 x40 (iadd .u8 (List.getD x41 (Int.toNat (0)) (0, 0, 0, 0, 0, false, false, 0, 0, [], ByteArray.empty, 0, 0, false, 0)).1 (6)) (iadd .i64 (imul .i64 x6 (1048576)) (1)) (List.getD x41 (Int.toNat (0)) (0, 0, 0, 0, 0, false, false, 0, 0, [], ByteArray.empty, 0, 0, false, 0)).2.2.2.1 x6 (0) false false (0) (0) [] ByteArray.empty (0) (0) false (200)) fun y19 =>
 bif x3 then
 (bif x2 then
 (bif (((inn (1)) && true) && (inbs (Int.toNat (1)) (List.length x41) (List.length x41))) then
 (bif (full (Int.toNat (1)) ((List.length x41) - (Int.toNat (1))) (List.length x41) && room (((List.length x41) - (Int.toNat (1))) + List.length y19.q16) 136) then
 (F3_c0 n x0 x1 true true (iadd .i64 x4 (1)) (iadd .i64 x5 (1)) x6 x7 x8 x9 x10 x11 x12 x13 x14 x15 x16 x17 x18 x19 x20 x21 x22 x23 x24 x25 y19.q0 y19.q1 y19.q2 y19.q3 y19.q4 y19.q5 y19.q6 y19.q7 y19.q8 y19.q9 y19.q10 y19.q11 y19.q12 y19.q13 y19.q14 (List.drop (Int.toNat (1)) x41 ++ y19.q16))
 else (none))
 else (none))
 else (bif (((inn (1)) && true) && (inbs (Int.toNat (1)) (List.length x41) (List.length x41))) then
 (bif (full (Int.toNat (1)) ((List.length x41) - (Int.toNat (1))) (List.length x41) && room (((List.length x41) - (Int.toNat (1))) + List.length y19.q16) 136) then
 (F3_c0 n x0 x1 y19.q15 true (iadd .i64 x4 (1)) (iadd .i64 x5 (1)) x6 x7 x8 x9 x10 x11 x12 x13 x14 x15 x16 x17 x18 x19 x20 x21 x22 x23 x24 x25 y19.q0 y19.q1 y19.q2 y19.q3 y19.q4 y19.q5 y19.q6 y19.q7 y19.q8 y19.q9 y19.q10 y19.q11 y19.q12 y19.q13 y19.q14 (List.drop (Int.toNat (1)) x41 ++ y19.q16))
 else (none))
 else (none)))
 else (bif (ieq (List.getD x41 (Int.toNat (0)) (0, 0, 0, 0, 0, false, false, 0, 0, [], ByteArray.empty, 0, 0, false, 0)).1 (5)) then
 (bif x2 then
 (bif (((inn (1)) && true) && (inbs (Int.toNat (1)) (List.length x41) (List.length x41))) then
 (bif (full (Int.toNat (1)) ((List.length x41) - (Int.toNat (1))) (List.length x41) && room (((List.length x41) - (Int.toNat (1))) + List.length y19.q16) 136) then
 (F3_c0 n x0 x1 true (ine (200) (0)) (iadd .i64 x4 (1)) (iadd .i64 x5 (1)) x6 x7 x8 x9 x10 x11 x12 x13 x14 x15 x16 x17 x18 x19 x20 x21 x22 x23 x24 x25 y19.q0 y19.q1 y19.q2 y19.q3 y19.q4 y19.q5 y19.q6 y19.q7 y19.q8 y19.q9 y19.q10 y19.q11 y19.q12 y19.q13 y19.q14 (List.drop (Int.toNat (1)) x41 ++ y19.q16))
 else (none))
 else (none))
 else (bif (((inn (1)) && true) && (inbs (Int.toNat (1)) (List.length x41) (List.length x41))) then
 (bif (full (Int.toNat (1)) ((List.length x41) - (Int.toNat (1))) (List.length x41) && room (((List.length x41) - (Int.toNat (1))) + List.length y19.q16) 136) then
 (F3_c0 n x0 x1 y19.q15 (ine (200) (0)) (iadd .i64 x4 (1)) (iadd .i64 x5 (1)) x6 x7 x8 x9 x10 x11 x12 x13 x14 x15 x16 x17 x18 x19 x20 x21 x22 x23 x24 x25 y19.q0 y19.q1 y19.q2 y19.q3 y19.q4 y19.q5 y19.q6 y19.q7 y19.q8 y19.q9 y19.q10 y19.q11 y19.q12 y19.q13 y19.q14 (List.drop (Int.toNat (1)) x41 ++ y19.q16))
 else (none))
 else (none)))
 else (bif x2 then
 (bif (((inn (1)) && true) && (inbs (Int.toNat (1)) (List.length x41) (List.length x41))) then
 (bif (full (Int.toNat (1)) ((List.length x41) - (Int.toNat (1))) (List.length x41) && room (((List.length x41) - (Int.toNat (1))) + List.length y19.q16) 136) then
 (F3_c0 n x0 x1 true false (iadd .i64 x4 (1)) (iadd .i64 x5 (1)) x6 x7 x8 x9 x10 x11 x12 x13 x14 x15 x16 x17 x18 x19 x20 x21 x22 x23 x24 x25 y19.q0 y19.q1 y19.q2 y19.q3 y19.q4 y19.q5 y19.q6 y19.q7 y19.q8 y19.q9 y19.q10 y19.q11 y19.q12 y19.q13 y19.q14 (List.drop (Int.toNat (1)) x41 ++ y19.q16))
 else (none))
 else (none))
 else (bif (((inn (1)) && true) && (inbs (Int.toNat (1)) (List.length x41) (List.length x41))) then
 (bif (full (Int.toNat (1)) ((List.length x41) - (Int.toNat (1))) (List.length x41) && room (((List.length x41) - (Int.toNat (1))) + List.length y19.q16) 136) then
 (F3_c0 n x0 x1 y19.q15 false (iadd .i64 x4 (1)) (iadd .i64 x5 (1)) x6 x7 x8 x9 x10 x11 x12 x13 x14 x15 x16 x17 x18 x19 x20 x21 x22 x23 x24 x25 y19.q0 y19.q1 y19.q2 y19.q3 y19.q4 y19.q5 y19.q6 y19.q7 y19.q8 y19.q9 y19.q10 y19.q11 y19.q12 y19.q13 y19.q14 (List.drop (Int.toNat (1)) x41 ++ y19.q16))
 else (none))
 else (none)))))))
 else (none))
 else (Option.bind (F16 FUEL (iadd .u8 (List.getD x41 (Int.toNat (0)) (0, 0, 0, 0, 0, false, false, 0, 0, [], ByteArray.empty, 0, 0, false, 0)).1 (6)) (iadd .i64 (imul .i64 x6 (1048576)) (1)) (List.getD x41 (Int.toNat (0)) (0, 0, 0, 0, 0, false, false, 0, 0, [], ByteArray.empty, 0, 0, false, 0)).2.2.2.1 x6 (0) false false (0) (0) [] ByteArray.empty (0) (0) false (0)) fun y20 =>
 bif (inb x5 (List.length x1)) then
 (bif (List.getD x1 (Int.toNat x5) (false, false, 0, [], false)).1 then
 (Option.bind (F11 FUEL x6 x7 x8 x9 x10 x11 x12 x13 x14 x15 x16 x17 x18 x19 x20 x21 x22 x23 x24 x25 x26 x27 x28 x29 x30 x31 x32 x33 x34 x35 x36 x37 x38 x39 x40 (List.getD x41 (Int.toNat (0)) (0, 0, 0, 0, 0, false, false, 0, 0, [], ByteArray.empty, 0, 0, false, 0)).2.2.2.1) fun y21 =>
 bif x3 then
 (bif x2 then
 (bif (((inn (1)) && true) && (inbs (Int.toNat (1)) (List.length x41) (List.length x41))) then
 (bif (full (Int.toNat (1)) ((List.length x41) - (Int.toNat (1))) (List.length x41) && room (((List.length x41) - (Int.toNat (1))) + List.length y21.q16) 136) then
 (F3_c0 n x0 x1 true true (iadd .i64 x4 (1)) (iadd .i64 x5 (1)) x6 x7 x8 x9 x10 x11 x12 x13 x14 x15 x16 x17 x18 x19 x20 x21 x22 x23 x24 x25 y21.q0 y21.q1 y21.q2 y21.q3 y21.q4 y21.q5 y21.q6 y21.q7 y21.q8 y21.q9 y21.q10 y21.q11 y21.q12 y21.q13 y21.q14 (List.drop (Int.toNat (1)) x41 ++ y21.q16))
 else (none))
 else (none))
 else (bif (((inn (1)) && true) && (inbs (Int.toNat (1)) (List.length x41) (List.length x41))) then
 (bif (full (Int.toNat (1)) ((List.length x41) - (Int.toNat (1))) (List.length x41) && room (((List.length x41) - (Int.toNat (1))) + List.length y21.q16) 136) then
 (F3_c0 n x0 x1 y21.q15 true (iadd .i64 x4 (1)) (iadd .i64 x5 (1)) x6 x7 x8 x9 x10 x11 x12 x13 x14 x15 x16 x17 x18 x19 x20 x21 x22 x23 x24 x25 y21.q0 y21.q1 y21.q2 y21.q3 y21.q4 y21.q5 y21.q6 y21.q7 y21.q8 y21.q9 y21.q10 y21.q11 y21.q12 y21.q13 y21.q14 (List.drop (Int.toNat (1)) x41 ++ y21.q16))
 else (none))
 else (none)))
 else (bif x2 then
 (bif (((inn (1)) && true) && (inbs (Int.toNat (1)) (List.length x41) (List.length x41))) then
 (bif (full (Int.toNat (1)) ((List.length x41) - (Int.toNat (1))) (List.length x41) && room (((List.length x41) - (Int.toNat (1))) + List.length y21.q16) 136) then
 (F3_c0 n x0 x1 true (ieq (List.getD x41 (Int.toNat (0)) (0, 0, 0, 0, 0, false, false, 0, 0, [], ByteArray.empty, 0, 0, false, 0)).1 (5)) (iadd .i64 x4 (1)) (iadd .i64 x5 (1)) x6 x7 x8 x9 x10 x11 x12 x13 x14 x15 x16 x17 x18 x19 x20 x21 x22 x23 x24 x25 y21.q0 y21.q1 y21.q2 y21.q3 y21.q4 y21.q5 y21.q6 y21.q7 y21.q8 y21.q9 y21.q10 y21.q11 y21.q12 y21.q13 y21.q14 (List.drop (Int.toNat (1)) x41 ++ y21.q16))
 else (none))
 else (none))
 else (bif (((inn (1)) && true) && (inbs (Int.toNat (1)) (List.length x41) (List.length x41))) then
 (bif (full (Int.toNat (1)) ((List.length x41) - (Int.toNat (1))) (List.length x41) && room (((List.length x41) - (Int.toNat (1))) + List.length y21.q16) 136) then
 (F3_c0 n x0 x1 y21.q15 (ieq (List.getD x41 (Int.toNat (0)) (0, 0, 0, 0, 0, false, false, 0, 0, [], ByteArray.empty, 0, 0, false, 0)).1 (5)) (iadd .i64 x4 (1)) (iadd .i64 x5 (1)) x6 x7 x8 x9 x10 x11 x12 x13 x14 x15 x16 x17 x18 x19 x20 x21 x22 x23 x24 x25 y21.q0 y21.q1 y21.q2 y21.q3 y21.q4 y21.q5 y21.q6 y21.q7 y21.q8 y21.q9 y21.q10 y21.q11 y21.q12 y21.q13 y21.q14 (List.drop (Int.toNat (1)) x41 ++ y21.q16))
 else (none))
 else (none))))
 else (bif (!y20) then
 (Option.bind (F11 FUEL x6 x7 x8 x9 x10 x11 x12 x13 x14 x15 x16 x17 x18 x19 x20 x21 x22 x23 x24 x25 x26 x27 x28 x29 x30 x31 x32 x33 x34 x35 x36 x37 x38 x39 x40 (List.getD x41 (Int.toNat (0)) (0, 0, 0, 0, 0, false, false, 0, 0, [], ByteArray.empty, 0, 0, false, 0)).2.2.2.1) fun y22 =>
 bif x3 then
 (bif x2 then
 (bif (((inn (1)) && true) && (inbs (Int.toNat (1)) (List.length x41) (List.length x41))) then
 (bif (full (Int.toNat (1)) ((List.length x41) - (Int.toNat (1))) (List.length x41) && room (((List.length x41) - (Int.toNat (1))) + List.length y22.q16) 136) then
 (F3_c0 n x0 x1 true true (iadd .i64 x4 (1)) (iadd .i64 x5 (1)) x6 x7 x8 x9 x10 x11 x12 x13 x14 x15 x16 x17 x18 x19 x20 x21 x22 x23 x24 x25 y22.q0 y22.q1 y22.q2 y22.q3 y22.q4 y22.q5 y22.q6 y22.q7 y22.q8 y22.q9 y22.q10 y22.q11 y22.q12 y22.q13 y22.q14 (List.drop (Int.toNat (1)) x41 ++ y22.q16))
 else (none))
 else (none))
 else (bif (((inn (1)) && true) && (inbs (Int.toNat (1)) (List.length x41) (List.length x41))) then
 (bif (full (Int.toNat (1)) ((List.length x41) - (Int.toNat (1))) (List.length x41) && room (((List.length x41) - (Int.toNat (1))) + List.length y22.q16) 136) then
 (F3_c0 n x0 x1 y22.q15 true (iadd .i64 x4 (1)) (iadd .i64 x5 (1)) x6 x7 x8 x9 x10 x11 x12 x13 x14 x15 x16 x17 x18 x19 x20 x21 x22 x23 x24 x25 y22.q0 y22.q1 y22.q2 y22.q3 y22.q4 y22.q5 y22.q6 y22.q7 y22.q8 y22.q9 y22.q10 y22.q11 y22.q12 y22.q13 y22.q14 (List.drop (Int.toNat (1)) x41 ++ y22.q16))
 else (none))
 else (none)))
 else (bif x2 then
 (bif (((inn (1)) && true) && (inbs (Int.toNat (1)) (List.length x41) (List.length x41))) then
 (bif (full (Int.toNat (1)) ((List.length x41) - (Int.toNat (1))) (List.length x41) && room (((List.length x41) - (Int.toNat (1))) + List.length y22.q16) 136) then
 (F3_c0 n x0 x1 true (ieq (List.getD x41 (Int.toNat (0)) (0, 0, 0, 0, 0, false, false, 0, 0, [], ByteArray.empty, 0, 0, false, 0)).1 (5)) (iadd .i64 x4 (1)) (iadd .i64 x5 (1)) x6 x7 x8 x9 x10 x11 x12 x13 x14 x15 x16 x17 x18 x19 x20 x21 x22 x23 x24 x25 y22.q0 y22.q1 y22.q2 y22.q3 y22.q4 y22.q5 y22.q6 y22.q7 y22.q8 y22.q9 y22.q10 y22.q11 y22.q12 y22.q13 y22.q14 (List.drop (Int.toNat (1)) x41 ++ y22.q16))
 else (none))
 else (none))
 else (bif (((inn (1)) && true) && (inbs (Int.toNat (1)) (List.length x41) (List.length x41))) then
 (bif (full (Int.toNat (1)) ((List.length x41) - (Int.toNat (1))) (List.length x41) && room (((List.length x41) - (Int.toNat (1))) + List.length y22.q16) 136) then
 (F3_c0 n x0 x1 y22.q15 (ieq (List.getD x41 (Int.toNat (0)) (0, 0, 0, 0, 0, false, false, 0, 0, [], ByteArray.empty, 0, 0, false, 0)).1 (5)) (iadd .i64 x4 (1)) (iadd .i64 x5 (1)) x6 x7 x8 x9 x10 x11 x12 x13 x14 x15 x16 x17 x18 x19 x20 x21 x22 x23 x24 x25 y22.q0 y22.q1 y22.q2 y22.q3 y22.q4 y22.q5 y22.q6 y22.q7 y22.q8 y22.q9 y22.q10 y22.q11 y22.q12 y22.q13 y22.q14 (List.drop (Int.toNat (1)) x41 ++ y22.q16))
 else (none))
 else (none))))
 else (Option.bind (F12 FUEL x6 x7 x8 x9 x10 x11 x12 x13 x14 x15 x16 x17 x18 x19 x20 x21 x22 x23 x24 x25 x26 x27 x28 x29 x30 x31 x32 x33 x34 x35 x36 x37 x38 x39 x40 (iadd .u8 (List.getD x41 (Int.toNat (0)) (0, 0, 0, 0, 0, false, false, 0, 0, [], ByteArray.empty, 0, 0, false, 0)).1 (6)) (iadd .i64 (imul .i64 x6 (1048576)) (1)) (List.getD x41 (Int.toNat (0)) (0, 0, 0, 0, 0, false, false, 0, 0, [], ByteArray.empty, 0, 0, false, 0)).2.2.2.1 x6 (0) false false (0) (0) [] ByteArray.empty (0) (0) false (0)) fun y23 =>
 bif x3 then
 (bif x2 then
 (bif (((inn (1)) && true) && (inbs (Int.toNat (1)) (List.length x41) (List.length x41))) then
 (bif (full (Int.toNat (1)) ((List.length x41) - (Int.toNat (1))) (List.length x41) && room (((List.length x41) - (Int.toNat (1))) + List.length y23.q16) 136) then
 (F3_c0 n x0 x1 true true (iadd .i64 x4 (1)) (iadd .i64 x5 (1)) x6 x7 x8 x9 x10 x11 x12 x13 x14 x15 x16 x17 x18 x19 x20 x21 x22 x23 x24 x25 y23.q0 y23.q1 y23.q2 y23.q3 y23.q4 y23.q5 y23.q6 y23.q7 y23.q8 y23.q9 y23.q10 y23.q11 y23.q12 y23.q13 y23.q14 (List.drop (Int.toNat (1)) x41 ++ y23.q16))
 else (none))
 else (none))
 else (bif (((inn (1)) && true) && (inbs (Int.toNat (1)) (List.length x41) (List.length x41))) then
 (bif (full (Int.toNat (1)) ((List.length x41) - (Int.toNat (1))) (List.length x41) && room (((List.length x41) - (Int.toNat (1))) + List.length y23.q16) 136) then
 (F3_c0 n x0 x1 y23.q15 true (iadd .i64 x4 (1)) (iadd .i64 x5 (1)) x6 x7 x8 x9 x10 x11 x12 x13 x14 x15 x16 x17 x18 x19 x20 x21 x22 x23 x24 x25 y23.q0 y23.q1 y23.q2 y23.q3 y23.q4 y23.q5 y23.q6 y23.q7 y23.q8 y23.q9 y23.q10 y23.q11 y23.q12 y23.q13 y23.q14 (List.drop (Int.toNat (1)) x41 ++ y23.q16))
 else (none))
 else (none)))
 else (bif (ieq (List.getD x41 (Int.toNat (0)) (0, 0, 0, 0, 0, false, false, 0, 0, [], ByteArray.empty, 0, 0, false, 0)).1 (5)) then
 (bif x2 then
 (bif (((inn (1)) && true) && (inbs (Int.toNat (1)) (List.length x41) (List.length x41))) then
 (bif (full (Int.toNat (1)) ((List.length x41) - (Int.toNat (1))) (List.length x41) && room (((List.length x41) - (Int.toNat (1))) + List.length y23.q16) 136) then
 (F3_c0 n x0 x1 true (ine (0) (0)) (iadd .i64 x4 (1)) (iadd .i64 x5 (1)) x6 x7 x8 x9 x10 x11 x12 x13 x14 x15 x16 x17 x18 x19 x20 x21 x22 x23 x24 x25 y23.q0 y23.q1 y23.q2 y23.q3 y23.q4 y23.q5 y23.q6 y23.q7 y23.q8 y23.q9 y23.q10 y23.q11 y23.q12 y23.q13 y23.q14 (List.drop (Int.toNat (1)) x41 ++ y23.q16))
 else (none))
 else (none))
 else (bif (((inn (1)) && true) && (inbs (Int.toNat (1)) (List.length x41) (List.length x41))) then
 (bif (full (Int.toNat (1)) ((List.length x41) - (Int.toNat (1))) (List.length x41) && room (((List.length x41) - (Int.toNat (1))) + List.length y23.q16) 136) then
 (F3_c0 n x0 x1 y23.q15 (ine (0) (0)) (iadd .i64 x4 (1)) (iadd .i64 x5 (1)) x6 x7 x8 x9 x10 x11 x12 x13 x14 x15 x16 x17 x18 x19 x20 x21 x22 x23 x24 x25 y23.q0 y23.q1 y23.q2 y23.q3 y23.q4 y23.q5 y23.q6 y23.q7 y23.q8 y23.q9 y23.q10 y23.q11 y23.q12 y23.q13 y23.q14 (List.drop (Int.toNat (1)) x41 ++ y23.q16))
 else (none))
 else (none)))
 else (bif x2 then
 (bif (((inn (1)) && true) && (inbs (Int.toNat (1)) (List.length x41) (List.length x41))) then
 (bif (full (Int.toNat (1)) ((List.length x41) - (Int.toNat (1))) (List.length x41) && room (((List.length x41) - (Int.toNat (1))) + List.length y23.q16) 136) then
 (F3_c0 n x0 x1 true false (iadd .i64 x4 (1)) (iadd .i64 x5 (1)) x6 x7 x8 x9 x10 x11 x12 x13 x14 x15 x16 x17 x18 x19 x20 x21 x22 x23 x24 x25 y23.q0 y23.q1 y23.q2 y23.q3 y23.q4 y23.q5 y23.q6 y23.q7 y23.q8 y23.q9 y23.q10 y23.q11 y23.q12 y23.q13 y23.q14 (List.drop (Int.toNat (1)) x41 ++ y23.q16))
 else (none))
 else (none))
 else (bif (((inn (1)) && true) && (inbs (Int.toNat (1)) (List.length x41) (List.length x41))) then
 (bif (full (Int.toNat (1)) ((List.length x41) - (Int.toNat (1))) (List.length x41) && room (((List.length x41) - (Int.toNat (1))) + List.length y23.q16) 136) then
 (F3_c0 n x0 x1 y23.q15 false (iadd .i64 x4 (1)) (iadd .i64 x5 (1)) x6 x7 x8 x9 x10 x11 x12 x13 x14 x15 x16 x17 x18 x19 x20 x21 x22 x23 x24 x25 y23.q0 y23.q1 y23.q2 y23.q3 y23.q4 y23.q5 y23.q6 y23.q7 y23.q8 y23.q9 y23.q10 y23.q11 y23.q12 y23.q13 y23.q14 (List.drop (Int.toNat (1)) x41 ++ y23.q16))
 else (none))
 else (none)))))))
 else (none)))
 else (bif (ieq (List.getD x41 (Int.toNat (0)) (0, 0, 0, 0, 0, false, false, 0, 0, [], ByteArray.empty, 0, 0, false, 0)).1 (6)) then
 (bif (!(List.getD x1 (Int.toNat x5) (false, false, 0, [], false)).2.2.2.2) then
 (Option.bind (F16 FUEL (iadd .u8 (List.getD x41 (Int.toNat (0)) (0, 0, 0, 0, 0, false, false, 0, 0, [], ByteArray.empty, 0, 0, false, 0)).1 (6)) (iadd .i64 (imul .i64 x6 (1048576)) (1)) (List.getD x41 (Int.toNat (0)) (0, 0, 0, 0, 0, false, false, 0, 0, [], ByteArray.empty, 0, 0, false, 0)).2.2.2.1 x6 (0) false false (0) (0) [] (List.getD x41 (Int.toNat (0)) (0, 0, 0, 0, 0, false, false, 0, 0, [], ByteArray.empty, 0, 0, false, 0)).2.2.2.2.2.2.2.2.2.2.1 (1) (0) false (0)) fun y24 =>
 bif (inb x5 (List.length x1)) then
 (bif (List.getD x1 (Int.toNat x5) (false, false, 0, [], false)).1 then
 (Option.bind (F11 FUEL x6 x7 x8 x9 x10 x11 x12 x13 x14 x15 x16 x17 x18 x19 x20 x21 x22 x23 x24 x25 x26 x27 x28 x29 x30 x31 x32 x33 x34 x35 x36 x37 x38 x39 x40 (List.getD x41 (Int.toNat (0)) (0, 0, 0, 0, 0, false, false, 0, 0, [], ByteArray.empty, 0, 0, false, 0)).2.2.2.1) fun y25 =>
 bif x3 then
 (bif x2 then
 (bif (((inn (1)) && true) && (inbs (Int.toNat (1)) (List.length x41) (List.length x41))) then
 (bif (full (Int.toNat (1)) ((List.length x41) - (Int.toNat (1))) (List.length x41) && room (((List.length x41) - (Int.toNat (1))) + List.length y25.q16) 136) then
 (F3_c0 n x0 x1 true true (iadd .i64 x4 (1)) (iadd .i64 x5 (1)) x6 x7 x8 x9 x10 x11 x12 x13 x14 x15 x16 x17 x18 x19 x20 x21 x22 x23 x24 x25 y25.q0 y25.q1 y25.q2 y25.q3 y25.q4 y25.q5 y25.q6 y25.q7 y25.q8 y25.q9 y25.q10 y25.q11 y25.q12 y25.q13 y25.q14 (List.drop (Int.toNat (1)) x41 ++ y25.q16))
 else (none))
 else (none))
 else (bif (((inn (1)) && true) && (inbs (Int.toNat (1)) (List.length x41) (List.length x41))) then
 (bif (full (Int.toNat (1)) ((List.length x41) - (Int.toNat (1))) (List.length x41) && room (((List.length x41) - (Int.toNat (1))) + List.length y25.q16) 136) then
 (F3_c0 n x0 x1 y25.q15 true (iadd .i64 x4 (1)) (iadd .i64 x5 (1)) x6 x7 x8 x9 x10 x11 x12 x13 x14 x15 x16 x17 x18 x19 x20 x21 x22 x23 x24 x25 y25.q0 y25.q1 y25.q2 y25.q3 y25.q4 y25.q5 y25.q6 y25.q7 y25.q8 y25.q9 y25.q10 y25.q11 y25.q12 y25.q13 y25.q14 (List.drop (Int.toNat (1)) x41 ++ y25.q16))
 else (none))
 else (none)))
 else (bif x2 then
 (bif (((inn (1)) && true) && (inbs (Int.toNat (1)) (List.length x41) (List.length x41))) then
 (bif (full (Int.toNat (1)) ((List.length x41) - (Int.toNat (1))) (List.length x41) && room (((List.length x41) - (Int.toNat (1))) + List.length y25.q16) 136) then
 (F3_c0 n x0 x1 true (ieq (List.getD x41 (Int.toNat (0)) (0, 0, 0, 0, 0, false, false, 0, 0, [], ByteArray.empty, 0, 0, false, 0)).1 (5)) (iadd .i64 x4 (1)) (iadd .i64 x5 (1)) x6 x7 x8 x9 x10 x11 x12 x13 x14 x15 x16 x17 x18 x19 x20 x21 x22 x23 x24 x25 y25.q0 y25.q1 y25.q2 y25.q3 y25.q4 y25.q5 y25.q6 y25.q7 y25.q8 y25.q9 y25.q10 y25.q11 y25.q12 y25.q13 y25.q14 (List.drop (Int.toNat (1)) x41 ++ y25.q16))
 else (none))
 else (none))
 else (bif (((inn (1)) && true) && (inbs (Int.toNat (1)) (List.length x41) (List.length x41))) then
 (bif (full (Int.toNat (1)) ((List.length x41) - (Int.toNat (1))) (List.length x41) && room (((List.length x41) - (Int.toNat (1))) + List.length y25.q16) 136) then
 (F3_c0 n x0 x1 y25.q15 (ieq (List.getD x41 (Int.toNat (0)) (0, 0, 0, 0, 0, false, false, 0, 0, [], ByteArray.empty, 0, 0, false, 0)).1 (5)) (iadd .i64 x4 (1)) (iadd .i64 x5 (1)) x6 x7 x8 x9 x10 x11 x12 x13 x14 x15 x16 x17 x18 x19 x20 x21 x22 x23 x24 x25 y25.q0 y25.q1 y25.q2 y25.q3 y25.q4 y25.q5 y25.q6 y25.q7 y25.q8 y25.q9 y25.q10 y25.q11 y25.q12 y25.q13 y25.q14 (List.drop (Int.toNat (1)) x41 ++ y25.q16))
 else (none))
 else (none))))
 else (bif (!y24) then
 (Option.bind (F11 FUEL x6 x7 x8 x9 x10 x11 x12 x13 x14 x15 x16 x17 x18 x19 x20 x21 x22 x23 x24 x25 x26 x27 x28 x29 x30 x31 x32 x33 x34 x35 x36 x37 x38 x39 x40 (List.getD x41 (Int.toNat (0)) (0, 0, 0, 0, 0, false, false, 0, 0, [], ByteArray.empty, 0, 0, false, 0)).2.2.2.1) fun y26 =>
 bif x3 then
 (bif x2 then
 (bif (((inn (1)) && true) && (inbs (Int.toNat (1)) (List.length x41) (List.length x41))) then
 (bif (full (Int.toNat (1)) ((List.length x41) - (Int.toNat (1))) (List.length x41) && room (((List.length x41) - (Int.toNat (1))) + List.length y26.q16) 136) then
 (F3_c0 n x0 x1 true true (iadd .i64 x4 (1)) (iadd .i64 x5 (1)) x6 x7 x8 x9 x10 x11 x12 x13 x14 x15 x16 x17 x18 x19 x20 x21 x22 x23 x24 x25 y26.q0 y26.q1 y26.q2 y26.q3 y26.q4 y26.q5 y26.q6 y26.q7 y26.q8 y26.q9 y26.q10 y26.q11 y26.q12 y26.q13 y26.q14 (List.drop (Int.toNat (1)) x41 ++ y26.q16))
 else (none))
 else (none))
 else (bif (((inn (1)) && true) && (inbs (Int.toNat (1)) (List.length x41) (List.length x41))) then
 (bif (full (Int.toNat (1)) ((List.length x41) - (Int.toNat (1))) (List.length x41) && room (((List.length x41) - (Int.toNat (1))) + List.length y26.q16) 136) then
 (F3_c0 n x0 x1 y26.q15 true (iadd .i64 x4 (1)) (iadd .i64 x5 (1)) x6 x7 x8 x9 x10 x11 x12 x13 x14 x15 x16 x17 x18 x19 x20 x21 x22 x23 x24 x25 y26.q0 y26.q1 y26.q2 y26.q3 y26.q4 y26.q5 y26.q6 y26.q7 y26.q8 y26.q9 y26.q10 y26.q11 y26.q12 y26.q13 y26.q14 (List.drop (Int.toNat (1)) x41 ++ y26.q16))
 else (none))
 else (none)))
 else (bif x2 then
 (bif (((inn (1)) && true) && (inbs (Int.toNat (1)) (List.length x41) (List.length x41))) then
 (bif (full (Int.toNat (1)) ((List.length x41) - (Int.toNat (1))) (List.length x41) && room (((List.length x41) - (Int.toNat (1))) + List.length y26.q16) 136) then
 (F3_c0 n x0 x1 true (ieq (List.getD x41 (Int.toNat (0)) (0, 0, 0, 0, 0, false, false, 0, 0, [], ByteArray.empty, 0, 0, false, 0)).1 (5)) (iadd .i64 x4 (1)) (iadd .i64 x5 (1)) x6 x7 x8 x9 x10 x11 x12 x13 x14 x15 x16 x17 x18 x19 x20 x21 x22 x23 x24 x25 y26.q0 y26.q1 y26.q2 y26.q3 y26.q4 y26.q5 y26.q6 y26.q7 y26.q8 y26.q9 y26.q10 y26.q11 y26.q12 y26.q13 y26.q14 (List.drop (Int.toNat (1)) x41 ++ y26.q16))
 else (none))
 else (none))
 else (bif (((inn (1)) && true) && (inbs (Int.toNat (1)) (List.length x41) (List.length x41))) then
 (bif (full (Int.toNat (1)) ((List.length x41) - (Int.toNat (1))) (List.length x41) && room (((List.length x41) - (Int.toNat (1))) + List.length y26.q16) 136) then
 (F3_c0 n x0 x1 y26.q15 (ieq (List.getD x41 (Int.toNat (0)) (0, 0, 0, 0, 0, false, false, 0, 0, [], ByteArray.empty, 0, 0, false, 0)).1 (5)) (iadd .i64 x4 (1)) (iadd .i64 x5 (1)) x6 x7 x8 x9 x10 x11 x12 x13 x14 x15 x16 x17 x18 x19 x20 x21 x22 x23 x24 x25 y26.q0 y26.q1 y26.q2 y26.q3 y26.q4 y26.q5 y26.q6 y26.q7 y26.q8 y26.q9 y26.q10 y26.q11 y26.q12 y26.q13 y26.q14 (List.drop (Int.toNat (1)) x41 ++ y26.q16))
 else (none))
 else (none))))
 else (Option.bind (F12 FUEL x6 x7 x8 x9 x10 x11 x12 x13 x14 x15 x16 x17 x18 x19 x20 x21 x22 x23 x24 x25 x26 x27 x28 x29 x30 x31 x32 x33 x34 x35 x36 x37 x38 x39 x40 (iadd .u8 (List.getD x41 (Int.toNat (0)) (0, 0, 0, 0, 0, false, false, 0, 0, [], ByteArray.empty, 0, 0, false, 0)).1 (6)) (iadd .i64 (imul .i64 x6 (1048576)) (1)) (List.getD x41 (Int.toNat (0)) (0, 0, 0, 0, 0, false, false, 0, 0, [], ByteArray.empty, 0, 0, false, 0)).2.2.2.1 x6 (0) false false (0) (0) [] (List.getD x41 (Int.toNat (0)) (0, 0, 0, 0, 0, false, false, 0, 0, [], ByteArray.empty, 0, 0, false, 0)).2.2.2.2.2.2.2.2.2.2.1 (1) (0) false (0)) fun y27 =>
 bif x3 then
 (bif x2 then
 (bif (((inn (1)) && true) && (inbs (Int.toNat (1)) (List.length x41) (List.length x41))) then
 (bif (full (Int.toNat (1)) ((List.length x41) - (Int.toNat (1))) (List.length x41) && room (((List.length x41) - (Int.toNat (1))) + List.length y27.q16) 136) then
 (F3_c0 n x0 x1 true true (iadd .i64 x4 (1)) (iadd .i64 x5 (1)) x6 x7 x8 x9 x10 x11 x12 x13 x14 x15 x16 x17 x18 x19 x20 x21 x22 x23 x24 x25 y27.q0 y27.q1 y27.q2 y27.q3 y27.q4 y27.q5 y27.q6 y27.q7 y27.q8 y27.q9 y27.q10 y27.q11 y27.q12 y27.q13 y27.q14 (List.drop (Int.toNat (1)) x41 ++ y27.q16))
 else (none))
 else (none))
 else (bif (((inn (1)) && true) && (inbs (Int.toNat (1)) (List.length x41) (List.length x41))) then
 (bif (full (Int.toNat (1)) ((List.length x41) - (Int.toNat (1))) (List.length x41) && room (((List.length x41) - (Int.toNat (1))) + List.length y27.q16) 136) then
 (F3_c0 n x0 x1 y27.q15 true (iadd .i64 x4 (1)) (iadd .i64 x5 (1)) x6 x7 x8 x9 x10 x11 x12 x13 x14 x15 x16 x17 x18 x19 x20 x21 x22 x23 x24 x25 y27.q0 y27.q1 y27.q2 y27.q3 y27.q4 y27.q5 y27.q6 y27.q7 y27.q8 y27.q9 y27.q10 y27.q11 y27.q12 y27.q13 y27.q14 (List.drop (Int.toNat (1)) x41 ++ y27.q16))
 else (none))
 else (none)))
 else (bif (ieq (List.getD x41 (Int.toNat (0)) (0, 0, 0, 0, 0, false, false, 0, 0, [], ByteArray.empty, 0, 0, false, 0)).1 (5)) then
 (bif x2 then
 (bif (((inn (1)) && true) && (inbs (Int.toNat (1)) (List.length x41) (List.length x41))) then
 (bif (full (Int.toNat (1)) ((List.length x41) - (Int.toNat (1))) (List.length x41) && room (((List.length x41) - (Int.toNat (1))) + List.length y27.q16) 136) then
 (F3_c0 n x0 x1 true (ine (0) (0)) (iadd .i64 x4 (1)) (iadd .i64 x5 (1)) x6 x7 x8 x9 x10 x11 x12 x13 x14 x15 x16 x17 x18 x19 x20 x21 x22 x23 x24 x25 y27.q0 y27.q1 y27.q2 y27.q3 y27.q4 y27.q5 y27.q6 y27.q7 y27.q8 y27.q9 y27.q10 y27.q11 y27.q12 y27.q13 y27.q14 (List.drop (Int.toNat (1)) x41 ++ y27.q16))
 else (none))
 else (none))
 else (bif (((inn (1)) && true) && (inbs (Int.toNat (1)) (List.length x41) (List.length x41))) then
 (bif (full (Int.toNat (1)) ((List.length x41) - (Int.toNat (1))) (List.length x41) && room (((List.length x41) - (Int.toNat (1))) + List.length y27.q16) 136) then
 (F3_c0 n x0 x1 y27.q15 (ine (0) (0)) (iadd .i64 x4 (1)) (iadd .i64 x5 (1)) x6 x7 x8 x9 x10 x11 x12 x13 x14 x15 x16 x17 x18 x19 x20 x21 x22 x23 x24 x25 y27.q0 y27.q1 y27.q2 y27.q3 y27.q4 y27.q5 y27.q6 y27.q7 y27.q8 y27.q9 y27.q10 y27.q11 y27.q12 y27.q13 y27.q14 (List.drop (Int.toNat (1)) x41 ++ y27.q16))
 else (none))
 else (none)))
 else (bif x2 then
 (bif (((inn (1)) && true) && (inbs (Int.toNat (1)) (List.length x41) (List.length x41))) then
 (bif (full (Int.toNat (1)) ((List.length x41) - (Int.toNat (1))) (List.length x41) && room (((List.length x41) - (Int.toNat (1))) + List.length y27.q16) 136) then
 (F3_c0 n x0 x1 true false (iadd .i64 x4 (1)) (iadd .i64 x5 (1)) x6 x7 x8 x9 x10 x11 x12 x13 x14 x15 x16 x17 x18 x19 x20 x21 x22 x23 x24 x25 y27.q0 y27.q1 y27.q2 y27.q3 y27.q4 y27.q5 y27.q6 y27.q7 y27.q8 y27.q9 y27.q10 y27.q11 y27.q12 y27.q13 y27.q14 (List.drop (Int.toNat (1)) x41 ++ y27.q16))
 else (none))
 else (none))
 else (bif (((inn (1)) && true) && (inbs (Int.toNat (1)) (List.length x41) (List.length x41))) then
 (bif (full (Int.toNat (1)) ((List.length x41) - (Int.toNat (1))) (List.length x41) && room (((List.length x41) - (Int.toNat (1))) + List.length y27.q16) 136) then
 (F3_c0 n x0 x1 y27.q15 false (iadd .i64 x4 (1)) (iadd .i64 x5 (1)) x6 x7 x8 x9 x10 x11 x12 x13 x14 x15 x16 x17 x18 x19 x20 x21 x22 x23 x24 x25 y27.q0 y27.q1 y27.q2 y27.q3 y27.q4 y27.q5 y27.q6 y27.q7 y27.q8 y27.q9 y27.q10 y27.q11 y27.q12 y27.q13 y27.q14 (List.drop (Int.toNat (1)) x41 ++ y27.q16))
 else (none))
 else (none)))))))
 else (none))
 else (Option.bind (F16 FUEL (iadd .u8 (List.getD x41 (Int.toNat (0)) (0, 0, 0, 0, 0, false, false, 0, 0, [], ByteArray.empty, 0, 0, false, 0)).1 (6)) (iadd .i64 (imul .i64 x6 (1048576)) (1)) (List.getD x41 (Int.toNat (0)) (0, 0, 0, 0, 0, false, false, 0, 0, [], ByteArray.empty, 0, 0, false, 0)).2.2.2.1 x6 (0) false false (0) (0) [] ByteArray.empty (0) (0) false (201)) fun y28 =>
 bif (inb x5 (List.length x1)) then
 (bif (List.getD x1 (Int.toNat x5) (false, false, 0, [], false)).1 then
 (Option.bind (F11 FUEL x6 x7 x8 x9 x10 x11 x12 x13 x14 x15 x16 x17 x18 x19 x20 x21 x22 x23 x24 x25 x26 x27 x28 x29 x30 x31 x32 x33 x34 x35 x36 x37 x38 x39 x40 (List.getD x41 (Int.toNat (0)) (0, 0, 0, 0, 0, false, false, 0, 0, [], ByteArray.empty, 0, 0, false, 0)).2.2.2.1) fun y29 =>
 bif x3 then
 (bif x2 then
 (bif (((inn (1)) && true) && (inbs (Int.toNat (1)) (List.length x41) (List.length x41))) then
 (bif (full (Int.toNat (1)) ((List.length x41) - (Int.toNat (1))) (List.length x41) && room (((List.length x41) - (Int.toNat (1))) + List.length y29.q16) 136) then
 (F3_c0 n x0 x1 true true (iadd .i64 x4 (1)) (iadd .i64 x5 (1)) x6 x7 x8 x9 x10 x11 x12 x13 x14 x15 x16 x17 x18 x19 x20 x21 x22 x23 x24 x25 y29.q0 y29.q1 y29.q2 y29.q3 y29.q4 y29.q5 y29.q6 y29.q7 y29.q8 y29.q9 y29.q10 y29.q11 y29.q12 y29.q13 y29.q14 (List.drop (Int.toNat (1)) x41 ++ y29.q16))
 else (none))
 else (none))
 else (bif (((inn (1)) && true) && (inbs (Int.toNat (1)) (List.length x41) (List.length x41))) then
 (bif (full (Int.toNat (1)) ((List.length x41) - (Int.toNat (1))) (List.length x41) && room (((List.length x41) - (Int.toNat (1))) + List.length y29.q16) 136) then
 (F3_c0 n x0 x1 y29.q15 true (iadd .i64 x4 (1)) (iadd .i64 x5 (1)) x6 x7 x8 x9 x10 x11 x12 x13 x14 x15 x16 x17 x18 x19 x20 x21 x22 x23 x24 x25 y29.q0 y29.q1 y29.q2 y29.q3 y29.q4 y29.q5 y29.q6 y29.q7 y29.q8 y29.q9 y29.q10 y29.q11 y29.q12 y29.q13 y29.q14 (List.drop (Int.toNat (1)) x41 ++ y29.q16))
 else (none))
 else (none)))
 else (bif x2 then
 (bif (((inn (1)) && true) && (inbs (Int.toNat (1)) (List.length x41) (List.length x41))) then
 (bif (full (Int.toNat (1)) ((List.length x41) - (Int.toNat (1))) (List.length x41) && room (((List.length x41) - (Int.toNat (1))) + List.length y29.q16) 136) then
 (F3_c0 n x0 x1 true (ieq (List.getD x41 (Int.toNat (0)) (0, 0, 0, 0, 0, false, false, 0, 0, [], ByteArray.empty, 0, 0, false, 0)).1 (5)) (iadd .i64 x4 (1)) (iadd .i64 x5 (1)) x6 x7 x8 x9 x10 x11 x12 x13 x14 x15 x16 x17 x18 x19 x20 x21 x22 x23 x24 x25 y29.q0 y29.q1 y29.q2 y29.q3 y29.q4 y29.q5 y29.q6 y29.q7 y29.q8 y29.q9 y29.q10 y29.q11 y29.q12 y29.q13 y29.q14 (List.drop (Int.toNat (1)) x41 ++ y29.q16))
 else (none))
 else (none))
 else (bif (((inn (1)) && true) && (inbs (Int.toNat (1)) (List.length x41) (List.length x41))) then
 (bif (full (Int.toNat (1)) ((List.length x41) - (Int.toNat (1))) (List.length x41) && room (((List.length x41) - (Int.toNat (1))) + List.length y29.q16) 136) then
 (F3_c0 n x0 x1 y29.q15 (ieq (List.getD x41 (Int.toNat (0)) (0, 0, 0, 0, 0, false, false, 0, 0, [], ByteArray.empty, 0, 0, false, 0)).1 (5)) (iadd .i64 x4 (1)) (iadd .i64 x5 (1)) x6 x7 x8 x9 x10 x11 x12 x13 x14 x15 x16 x17 x18 x19 x20 x21 x22 x23 x24 x25 y29.q0 y29.q1 y29.q2 y29.q3 y29.q4 y29.q5 y29.q6 y29.q7 y29.q8 y29.q9 y29.q10 y29.q11 y29.q12 y29.q13 y29.q14 (List.drop (Int.toNat (1)) x41 ++ y29.q16))
 else (none))
 else (none))))
 else (bif (!y28) then
 (Option.bind (F11 FUEL x6 x7 x8 x9 x10 x11 x12 x13 x14 x15 x16 x17 x18 x19 x20 x21 x22 x23 x24 x25 x26 x27 x28 x29 x30 x31 x32 x33 x34 x35 x36 x37 x38 x39 x40 (List.getD x41 (Int.toNat (0)) (0, 0, 0, 0, 0, false, false, 0, 0, [], ByteArray.empty, 0, 0, false, 0)).2.2.2.1) fun y30 =>
 bif x3 then
 (bif x2 then
 (bif (((inn (1)) && true) && (inbs (Int.toNat (1)) (List.length x41) (List.length x41))) then
 (bif (full (Int.toNat (1)) ((List.length x41) - (Int.toNat (1))) (List.length x41) && room (((List.length x41) - (Int.toNat (1))) + List.length y30.q16) 136) then
 (F3_c0 n x0 x1 true true (iadd .i64 x4 (1)) (iadd .i64 x5 (1)) x6 x7 x8 x9 x10 x11 x12 x13 x14 x15 x16 x17 x18 x19 x20 x21 x22 x23 x24 x25 y30.q0 y30.q1 y30.q2 y30.q3 y30.q4 y30.q5 y30.q6 y30.q7 y30.q8 y30.q9 y30.q10 y30.q11 y30.q12 y30.q13 y30.q14 (List.drop (Int.toNat (1)) x41 ++ y30.q16))
 else (none))
 else (none))
 else (bif (((inn (1)) && true) && (inbs (Int.toNat (1)) (List.length x41) (List.length x41))) then
 (bif (full (Int.toNat (1)) ((List.length x41) - (Int.toNat (1))) (List.length x41) && room (((List.length x41) - (Int.toNat (1))) + List.length y30.q16) 136) then
 (F3_c0 n x0 x1 y30.q15 true (iadd .i64 x4 (1)) (iadd .i64 x5 (1)) x6 x7 x8 x9 x10 x11 x12 x13 x14 x15 x16 x17 x18 x19 x20 x21 x22 x23 x24 x25 y30.q0 y30.q1 y30.q2 y30.q3 y30.q4 y30.q5 y30.q6 y30.q7 y30.q8 y30.q9 y30.q10 y30.q11 y30.q12 y30.q13 y30.q14 (List.drop (Int.toNat (1)) x41 ++ y30.q16))
 else (none))
 else (none)))
 else (bif x2 then
 (bif (((inn (1)) && true) && (inbs (Int.toNat (1)) (List.length x41) (List.length x41))) then
 (bif (full (Int.toNat (1)) ((List.length x41) - (Int.toNat (1))) (List.length x41) && room (((List.length x41) - (Int.toNat (1))) + List.length y30.q16) 136) then
 (F3_c0 n x0 x1 true (ieq (List.getD x41 (Int.toNat (0)) (0, 0, 0, 0, 0, false, false, 0, 0, [], ByteArray.empty, 0, 0, false, 0)).1 (5)) (iadd .i64 x4 (1)) (iadd .i64 x5 (1)) x6 x7 x8 x9 x10 x11 x12 x13 x14 x15 x16 x17 x18 x19 x20 x21 x22 x23 x24 x25 y30.q0 y30.q1 y30.q2 y30.q3 y30.q4 y30.q5 y30.q6 y30.q7 y30.q8 y30.q9 y30.q10 y30.q11 y30.q12 y30.q13 y30.q14 (List.drop (Int.toNat (1)) x41 ++ y30.q16))
 else (none))
 else (none))
 else (bif (((inn (1)) && true) && (inbs (Int.toNat (1)) (List.length x41) (List.length x41))) then
 (bif (full (Int.toNat (1)) ((List.length x41) - (Int.toNat (1))) (List.length x41) && room (((List.length x41) - (Int.toNat (1))) + List.length y30.q16) 136) then
 (F3_c0 n x0 x1 y30.q15 (ieq (List.getD x41 (Int.toNat (0)) (0, 0, 0, 0, 0, false, false, 0, 0, [], ByteArray.empty, 0, 0, false, 0)).1 (5)) (iadd .i64 x4 (1)) (iadd .i64 x5 (1)) x6 x7 x8 x9 x10 x11 x12 x13 x14 x15 x16 x17 x18 x19 x20 x21 x22 x23 x24 x25 y30.q0 y30.q1 y30.q2 y30.q3 y30.q4 y30.q5 y30.q6 y30.q7 y30.q8 y30.q9 y30.q10 y30.q11 y30.q12 y30.q13 y30.q14 (List.drop (Int.toNat (1)) x41 ++ y30.q16))
 else (none))
 else (none))))
 else (Option.bind (F12 FUEL x6 x7 x8 x9 x10 x11 x12 x13 x14 x15 x16 x17 x18 x19 x20 x21 x22 x23 x24 x25 x26 x27 x28 x29 x30 x31 x32 x33 x34 x35 x36 x37 x38 x39 x40 (iadd .u8 (List.getD x41 (Int.toNat (0)) (0, 0, 0, 0, 0, false, false, 0, 0, [], ByteArray.empty, 0, 0, false, 0)).1 (6)) (iadd .i64 (imul .i64 x6 (1048576)) (1)) (List.getD x41 (Int.toNat (0)) (0, 0, 0, 0, 0, false, false, 0, 0, [], ByteArray.empty, 0, 0, false, 0)).2.2.2.1 x6 (0) false false (0) (0) [] ByteArray.empty (0) (0) false (201)) fun y31 =>
 bif x3 then
 (bif x2 then
 (bif (((inn (1)) && true) && (inbs (Int.toNat (1)) (List.length x41) (List.length x41))) then
 (bif (full (Int.toNat (1)) ((List.length x41) - (Int.toNat (1))) (List.length x41) && room (((List.length x41) - (Int.toNat (1))) + List.length y31.q16) 136) then
 (F3_c0 n x0 x1 true true (iadd .i64 x4 (1)) (iadd .i64 x5 (1)) x6 x7 x8 x9 x10 x11 x12 x13 x14 x15 x16 x17 x18 x19 x20 x21 x22 x23 x24 x25 y31.q0 y31.q1 y31.q2 y31.q3 y31.q4 y31.q5 y31.q6 y31.q7 y31.q8 y31.q9 y31.q10 y31.q11 y31.q12 y31.q13 y31.q14 (List.drop (Int.toNat (1)) x41 ++ y31.q16))
 else (none))
 else (none))
 else (bif (((inn (1)) && true) && (inbs (Int.toNat (1)) (List.length x41) (List.length x41))) then
 (bif (full (Int.toNat (1)) ((List.length x41) - (Int.toNat (1))) (List.length x41) && room (((List.length x41) - (Int.toNat (1))) + List.length y31.q16) 136) then
 (F3_c0 n x0 x1 y31.q15 true (iadd .i64 x4 (1)) (iadd .i64 x5 (1)) x6 x7 x8 x9 x10 x11 x12 x13 x14 x15 x16 x17 x18 x19 x20 x21 x22 x23 x24 x25 y31.q0 y31.q1 y31.q2 y31.q3 y31.q4 y31.q5 y31.q6 y31.q7 y31.q8 y31.q9 y31.q10 y31.q11 y31.q12 y31.q13 y31.q14 (List.drop (Int.toNat (1)) x41 ++ y31.q16))
 else (none))
 else (none)))
 else (bif (ieq (List.getD x41 (Int.toNat (0)) (0, 0, 0, 0, 0, false, false, 0, 0, [], ByteArray.empty, 0, 0, false, 0)).1 (5)) then
 (bif x2 then
 (bif (((inn (1)) && true) && (inbs (Int.toNat (1)) (List.length x41) (List.length x41))) then
 (bif (full (Int.toNat (1)) ((List.length x41) - (Int.toNat (1))) (List.length x41) && room (((List.length x41) - (Int.toNat (1))) + List.length y31.q16) 136) then
 (F3_c0 n x0 x1 true (ine (201) (0)) (iadd .i64 x4 (1)) (iadd .i64 x5 (1)) x6 x7 x8 x9 x10 x11 x12 x13 x14 x15 x16 x17 x18 x19 x20 x21 x22 x23 x24 x25 y31.q0 y31.q1 y31.q2 y31.q3 y31.q4 y31.q5 y31.q6 y31.q7 y31.q8 y31.q9 y31.q10 y31.q11 y31.q12 y31.q13 y31.q14 (List.drop (Int.toNat (1)) x41 ++ y31.q16))
 else (none))
 else (none))
 else (bif (((inn (1)) && true) && (inbs (Int.toNat (1)) (List.length x41) (List.length x41))) then
 (bif (full (Int.toNat (1)) ((List.length x41) - (Int.toNat (1))) (List.length x41) && room (((List.length x41) - (Int.toNat (1))) + List.length y31.q16) 136) then
 (F3_c0 n x0 x1 y31.q15 (ine (201) (0)) (iadd .i64 x4 (1)) (iadd .i64 x5 (1)) x6 x7 x8 x9 x10 x11 x12 x13 x14 x15 x16 x17 x18 x19 x20 x21 x22 x23 x24 x25 y31.q0 y31.q1 y31.q2 y31.q3 y31.q4 y31.q5 y31.q6 y31.q7 y31.q8 y31.q9 y31.q10 y31.q11 y31.q12 y31.q13 y31.q14 (List.drop (Int.toNat (1)) x41 ++ y31.q16))
 else (none))
 else (none)))
 else (bif x2 then
 (bif (((inn (1)) && true) && (inbs (Int.toNat (1)) (List.length x41) (List.length x41))) then
 (bif (full (Int.toNat (1)) ((List.length x41) - (Int.toNat (1))) (List.length x41) && room (((List.length x41) - (Int.toNat (1))) + List.length y31.q16) 136) then
 (F3_c0 n x0 x1 true false (iadd .i64 x4 (1)) (iadd .i64 x5 (1)) x6 x7 x8 x9 x10 x11 x12 x13 x14 x15 x16 x17 x18 x19 x20 x21 x22 x23 x24 x25 y31.q0 y31.q1 y31.q2 y31.q3 y31.q4 y31.q5 y31.q6 y31.q7 y31.q8 y31.q9 y31.q10 y31.q11 y31.q12 y31.q13 y31.q14 (List.drop (Int.toNat (1)) x41 ++ y31.q16))
 else (none))
 else (none))
 else (bif (((inn (1)) && true) && (inbs (Int.toNat (1)) (List.length x41) (List.length x41))) then
 (bif (full (Int.toNat (1)) ((List.length x41) - (Int.toNat (1))) (List.length x41) && room (((List.length x41) - (Int.toNat (1))) + List.length y31.q16) 136) then
 (F3_c0 n x0 x1 y31.q15 false (iadd .i64 x4 (1)) (iadd .i64 x5 (1)) x6 x7 x8 x9 x10 x11 x12 x13 x14 x15 x16 x17 x18 x19 x20 x21 x22 x23 x24 x25 y31.q0 y31.q1 y31.q2 y31.q3 y31.q4 y31.q5 y31.q6 y31.q7 y31.q8 y31.q9 y31.q10 y31.q11 y31.q12 y31.q13 y31.q14 (List.drop (Int.toNat (1)) x41 ++ y31.q16))
 else (none))
 else (none)))))))
 else (none)))
 else (Option.bind (F16 FUEL (iadd .u8 (List.getD x41 (Int.toNat (0)) (0, 0, 0, 0, 0, false, false, 0, 0, [], ByteArray.empty, 0, 0, false, 0)).1 (6)) (iadd .i64 (imul .i64 x6 (1048576)) (1)) (List.getD x41 (Int.toNat (0)) (0, 0, 0, 0, 0, false, false, 0, 0, [], ByteArray.empty, 0, 0, false, 0)).2.2.2.1 x6 (0) false false (0) (0) [] ByteArray.empty (0) (0) false (0)) fun y32 =>
 bif (inb x5 (List.length x1)) then
 (bif (List.getD x1 (Int.toNat x5) (false, false, 0, [], false)).1 then
 (Option.bind (F11 FUEL x6 x7 x8 x9 x10 x11 x12 x13 x14 x15 x16 x17 x18 x19 x20 x21 x22 x23 x24 x25 x26 x27 x28 x29 x30 x31 x32 x33 x34 x35 x36 x37 x38 x39 x40 (List.getD x41 (Int.toNat (0)) (0, 0, 0, 0, 0, false, false, 0, 0, [], ByteArray.empty, 0, 0, false, 0)).2.2.2.1) fun y33 =>
 bif x3 then
 (bif x2 then
 (bif (((inn (1)) && true) && (inbs (Int.toNat (1)) (List.length x41) (List.length x41))) then
 (bif (full (Int.toNat (1)) ((List.length x41) - (Int.toNat (1))) (List.length x41) && room (((List.length x41) - (Int.toNat (1))) + List.length y33.q16) 136) then
 (F3_c0 n x0 x1 true true (iadd .i64 x4 (1)) (iadd .i64 x5 (1)) x6 x7 x8 x9 x10 x11 x12 x13 x14 x15 x16 x17 x18 x19 x20 x21 x22 x23 x24 x25 y33.q0 y33.q1 y33.q2 y33.q3 y33.q4 y33.q5 y33.q6 y33.q7 y33.q8 y33.q9 y33.q10 y33.q11 y33.q12 y33.q13 y33.q14 (List.drop (Int.toNat (1)) x41 ++ y33.q16))
 else (none))
 else (none))
 else (bif (((inn (1)) && true) && (inbs (Int.toNat (1)) (List.length x41) (List.length x41))) then
 (bif (full (Int.toNat (1)) ((List.length x41) - (Int.toNat (1))) (List.length x41) && room (((List.length x41) - (Int.toNat (1))) + List.length y33.q16) 136) then
 (F3_c0 n x0 x1 y33.q15 true (iadd .i64 x4 (1)) (iadd .i64 x5 (1)) x6 x7 x8 x9 x10 x11 x12 x13 x14 x15 x16 x17 x18 x19 x20 x21 x22 x23 x24 x25 y33.q0 y33.q1 y33.q2 y33.q3 y33.q4 y33.q5 y33.q6 y33.q7 y33.q8 y33.q9 y33.q10 y33.q11 y33.q12 y33.q13 y33.q14 (List.drop (Int.toNat (1)) x41 ++ y33.q16))
 else (none))
 else (none)))
 else (bif x2 then
 (bif (((inn (1)) && true) && (inbs (Int.toNat (1)) (List.length x41) (List.length x41))) then
 (bif (full (Int.toNat (1)) ((List.length x41) - (Int.toNat (1))) (List.length x41) && room (((List.length x41) - (Int.toNat (1))) + List.length y33.q16) 136) then
 (F3_c0 n x0 x1 true (ieq (List.getD x41 (Int.toNat (0)) (0, 0, 0, 0, 0, false, false, 0, 0, [], ByteArray.empty, 0, 0, false, 0)).1 (5)) (iadd .i64 x4 (1)) (iadd .i64 x5 (1)) x6 x7 x8 x9 x10 x11 x12 x13 x14 x15 x16 x17 x18 x19 x20 x21 x22 x23 x24 x25 y33.q0 y33.q1 y33.q2 y33.q3 y33.q4 y33.q5 y33.q6 y33.q7 y33.q8 y33.q9 y33.q10 y33.q11 y33.q12 y33.q13 y33.q14 (List.drop (Int.toNat (1)) x41 ++ y33.q16))
 else (none))
 else (none))
 else (bif (((inn (1)) && true) && (inbs (Int.toNat (1)) (List.length x41) (List.length x41))) then
 (bif (full (Int.toNat (1)) ((List.length x41) - (Int.toNat (1))) (List.length x41) && room (((List.length x41) - (Int.toNat (1))) + List.length y33.q16) 136) then
 (F3_c0 n x0 x1 y33.q15 (ieq (List.getD x41 (Int.toNat (0)) (0, 0, 0, 0, 0, false, false, 0, 0, [], ByteArray.empty, 0, 0, false, 0)).1 (5)) (iadd .i64 x4 (1)) (iadd .i64 x5 (1)) x6 x7 x8 x9 x10 x11 x12 x13 x14 x15 x16 x17 x18 x19 x20 x21 x22 x23 x24 x25 y33.q0 y33.q1 y33.q2 y33.q3 y33.q4 y33.q5 y33.q6 y33.q7 y33.q8 y33.q9 y33.q10 y33.q11 y33.q12 y33.q13 y33.q14 (List.drop (Int.toNat (1)) x41 ++ y33.q16))
 else (none))
 else (none))))
 else (bif (!y32) then
 (Option.bind (F11 FUEL x6 x7 x8 x9 x10 x11 x12 x13 x14 x15 x16 x17 x18 x19 x20 x21 x22 x23 x24 x25 x26 x27 x28 x29 x30 x31 x32 x33 x34 x35 x36 x37 x38 x39 x40 (List.getD x41 (Int.toNat (0)) (0, 0, 0, 0, 0, false, false, 0, 0, [], ByteArray.empty, 0, 0, false, 0)).2.2.2.1) fun y34 =>
 bif x3 then
 (bif x2 then
 (bif (((inn (1)) && true) && (inbs (Int.toNat (1)) (List.length x41) (List.length x41))) then
 (bif (full (Int.toNat (1)) ((List.length x41) - (Int.toNat (1))) (List.length x41) && room (((List.length x41) - (Int.toNat (1))) + List.length y34.q16) 136) then
 (F3_c0 n x0 x1 true true (iadd .i64 x4 (1)) (iadd .i64 x5 (1)) x6 x7 x8 x9 x10 x11 x12 x13 x14 x15 x16 x17 x18 x19 x20 x21 x22 x23 x24 x25 y34.q0 y34.q1 y34.q2 y34.q3 y34.q4 y34.q5 y34.q6 y34.q7 y34.q8 y34.q9 y34.q10 y34.q11 y34.q12 y34.q13 y34.q14 (List.drop (Int.toNat (1)) x41 ++ y34.q16))
 else (none))
 else (none))
 else (bif (((inn (1)) && true) && (inbs (Int.toNat (1)) (List.length x41) (List.length x41))) then
 (bif (full (Int.toNat (1)) ((List.length x41) - (Int.toNat (1))) (List.length x41) && room (((List.length x41) - (Int.toNat (1))) + List.length y34.q16) 136) then
 (F3_c0 n x0 x1 y34.q15 true (iadd .i64 x4 (1)) (iadd .i64 x5 (1)) x6 x7 x8 x9 x10 x11 x12 x13 x14 x15 x16 x17 x18 x19 x20 x21 x22 x23 x24 x25 y34.q0 y34.q1 y34.q2 y34.q3 y34.q4 y34.q5 y34.q6 y34.q7 y34.q8 y34.q9 y34.q10 y34.q11 y34.q12 y34.q13 y34.q14 (List.drop (Int.toNat (1)) x41 ++ y34.q16))
 else (none))
 else (none)))
 else (bif x2 then
 (bif (((inn (1)) && true) && (inbs (Int.toNat (1)) (List.length x41) (List.length x41))) then
 (bif (full (Int.toNat (1)) ((List.length x41) - (Int.toNat (1))) (List.length x41) && room (((List.length x41) - (Int.toNat (1))) + List.length y34.q16) 136) then
 (F3_c0 n x0 x1 true (ieq (List.getD x41 (Int.toNat (0)) (0, 0, 0, 0, 0, false, false, 0, 0, [], ByteArray.empty, 0, 0, false, 0)).1 (5)) (iadd .i64 x4 (1)) (iadd .i64 x5 (1)) x6 x7 x8 x9 x10 x11 x12 x13 x14 x15 x16 x17 x18 x19 x20 x21 x22 x23 x24 x25 y34.q0 y34.q1 y34.q2 y34.q3 y34.q4 y34.q5 y34.q6 y34.q7 y34.q8 y34.q9 y34.q10 y34.q11 y34.q12 y34.q13 y34.q14 (List.drop (Int.toNat (1)) x41 ++ y34.q16))
 else (none))
 else (none))
 else (bif (((inn (1)) && true) && (inbs (Int.toNat (1)) (List.length x41) (List.length x41))) then
 (bif (full (Int.toNat (1)) ((List.length x41) - (Int.toNat (1))) (List.length x41) && room (((List.length x41) - (Int.toNat (1))) + List.length y34.q16) 136) then
 (F3_c0 n x0 x1 y34.q15 (ieq (List.getD x41 (Int.toNat (0)) (0, 0, 0, 0, 0, false, false, 0, 0, [], ByteArray.empty, 0, 0, false, 0)).1 (5)) (iadd .i64 x4 (1)) (iadd .i64 x5 (1)) x6 x7 x8 x9 x10 x11 x12 x13 x14 x15 x16 x17 x18 x19 x20 x21 x22 x23 x24 x25 y34.q0 y34.q1 y34.q2 y34.q3 y34.q4 y34.q5 y34.q6 y34.q7 y34.q8 y34.q9 y34.q10 y34.q11 y34.q12 y34.q13 y34.q14 (List.drop (Int.toNat (1)) x41 ++ y34.q16))
 else (none))
 else (none))))
 else (Option.bind (F12 FUEL x6 x7 x8 x9 x10 x11 x12 x13 x14 x15 x16 x17 x18 x19 x20 x21 x22 x23 x24 x25 x26 x27 x28 x29 x30 x31 x32 x33 x34 x35 x36 x37 x38 x39 x40 (iadd .u8 (List.getD x41 (Int.toNat (0)) (0, 0, 0, 0, 0, false, false, 0, 0, [], ByteArray.empty, 0, 0, false, 0)).1 (6)) (iadd .i64 (imul .i64 x6 (1048576)) (1)) (List.getD x41 (Int.toNat (0)) (0, 0, 0, 0, 0, false, false, 0, 0, [], ByteArray.empty, 0, 0, false, 0)).2.2.2.1 x6 (0) false false (0) (0) [] ByteArray.empty (0) (0) false (0)) fun y35 =>
 bif x3 then
 (bif x2 then
 (bif (((inn (1)) && true) && (inbs (Int.toNat (1)) (List.length x41) (List.length x41))) then
 (bif (full (Int.toNat (1)) ((List.length x41) - (Int.toNat (1))) (List.length x41) && room (((List.length x41) - (Int.toNat (1))) + List.length y35.q16) 136) then
 (F3_c0 n x0 x1 true true (iadd .i64 x4 (1)) (iadd .i64 x5 (1)) x6 x7 x8 x9 x10 x11 x12 x13 x14 x15 x16 x17 x18 x19 x20 x21 x22 x23 x24 x25 y35.q0 y35.q1 y35.q2 y35.q3 y35.q4 y35.q5 y35.q6 y35.q7 y35.q8 y35.q9 y35.q10 y35.q11 y35.q12 y35.q13 y35.q14 (List.drop (Int.toNat (1)) x41 ++ y35.q16))
 else (none))
 else (none))
 else (bif (((inn (1)) && true) && (inbs (Int.toNat (1)) (List.length x41) (List.length x41))) then
 (bif (full (Int.toNat (1)) ((List.length x41) - (Int.toNat (1))) (List.length x41) && room (((List.length x41) - (Int.toNat (1))) + List.length y35.q16) 136) then
 (F3_c0 n x0 x1 y35.q15 true (iadd .i64 x4 (1)) (iadd .i64 x5 (1)) x6 x7 x8 x9 x10 x11 x12 x13 x14 x15 x16 x17 x18 x19 x20 x21 x22 x23 x24 x25 y35.q0 y35.q1 y35.q2 y35.q3 y35.q4 y35.q5 y35.q6 y35.q7 y35.q8 y35.q9 y35.q10 y35.q11 y35.q12 y35.q13 y35.q14 (List.drop (Int.toNat (1)) x41 ++ y35.q16))
 else (none))
 else (none)))
 else (bif (ieq (List.getD x41 (Int.toNat (0)) (0, 0, 0, 0, 0, false, false, 0, 0, [], ByteArray.empty, 0, 0, false, 0)).1 (5)) then
 (bif x2 then
 (bif (((inn (1)) && true) && (inbs (Int.toNat (1)) (List.length x41) (List.length x41))) then
 (bif (full (Int.toNat (1)) ((List.length x41) - (Int.toNat (1))) (List.length x41) && room (((List.length x41) - (Int.toNat (1))) + List.length y35.q16) 136) then
 (F3_c0 n x0 x1 true (ine (0) (0)) (iadd .i64 x4 (1)) (iadd .i64 x5 (1)) x6 x7 x8 x9 x10 x11 x12 x13 x14 x15 x16 x17 x18 x19 x20 x21 x22 x23 x24 x25 y35.q0 y35.q1 y35.q2 y35.q3 y35.q4 y35.q5 y35.q6 y35.q7 y35.q8 y35.q9 y35.q10 y35.q11 y35.q12 y35.q13 y35.q14 (List.drop (Int.toNat (1)) x41 ++ y35.q16))
 else (none))
 else (none))
 else (bif (((inn (1)) && true) && (inbs (Int.toNat (1)) (List.length x41) (List.length x41))) then
 (bif (full (Int.toNat (1)) ((List.length x41) - (Int.toNat (1))) (List.length x41) && room (((List.length x41) - (Int.toNat (1))) + List.length y35.q16) 136) then
 (F3_c0 n x0 x1 y35.q15 (ine (0) (0)) (iadd .i64 x4 (1)) (iadd .i64 x5 (1)) x6 x7 x8 x9 x10 x11 x12 x13 x14 x15 x16 x17 x18 x19 x20 x21 x22 x23 x24 x25 y35.q0 y35.q1 y35.q2 y35.q3 y35.q4 y35.q5 y35.q6 y35.q7 y35.q8 y35.q9 y35.q10 y35.q11 y35.q12 y35.q13 y35.q14 (List.drop (Int.toNat (1)) x41 ++ y35.q16))
 else (none))
 else (none)))
 else (bif x2 then
 (bif (((inn (1)) && true) && (inbs (Int.toNat (1)) (List.length x41) (List.length x41))) then
 (bif (full (Int.toNat (1)) ((List.length x41) - (Int.toNat (1))) (List.length x41) && room (((List.length x41) - (Int.toNat (1))) + List.length y35.q16) 136) then
 (F3_c0 n x0 x1 true false (iadd .i64 x4 (1)) (iadd .i64 x5 (1)) x6 x7 x8 x9 x10 x11 x12 x13 x14 x15 x16 x17 x18 x19 x20 x21 x22 x23 x24 x25 y35.q0 y35.q1 y35.q2 y35.q3 y35.q4 y35.q5 y35.q6 y35.q7 y35.q8 y35.q9 y35.q10 y35.q11 y35.q12 y35.q13 y35.q14 (List.drop (Int.toNat (1)) x41 ++ y35.q16))
 else (none))
 else (none))
 else (bif (((inn (1)) && true) && (inbs (Int.toNat (1)) (List.length x41) (List.length x41))) then
 (bif (full (Int.toNat (1)) ((List.length x41) - (Int.toNat (1))) (List.length x41) && room (((List.length x41) - (Int.toNat (1))) + List.length y35.q16) 136) then
 (F3_c0 n x0 x1 y35.q15 false (iadd .i64 x4 (1)) (iadd .i64 x5 (1)) x6 x7 x8 x9 x10 x11 x12 x13 x14 x15 x16 x17 x18 x19 x20 x21 x22 x23 x24 x25 y35.q0 y35.q1 y35.q2 y35.q3 y35.q4 y35.q5 y35.q6 y35.q7 y35.q8 y35.q9 y35.q10 y35.q11 y35.q12 y35.q13 y35.q14 (List.drop (Int.toNat (1)) x41 ++ y35.q16))
 else (none))
 else (none)))))))
 else (none))))))
 else (none))
 else (none))
 else (none)))
 else (bif (igt x4 (47)) then
 (some false)
 else (bif (ine x27 (5)) then
 (bif (ilt (ofN (List.length x1)) (47)) then
 (Option.bind (F8 FUEL) fun y36 =>
 some y36)
 else (some false))
 else (bif (ieq x0 (2)) then
 (bif (ieq x40 (0)) then
 (bif x3 then
 (some false)
 else (bif (ieq x0 (1)) then
 (bif x2 then
 (some false)
 else (bif (igt (ofN (List.length x39)) (0)) then
 (some false)
 else (Option.bind (F12 FUEL x6 x7 x8 x9 x10 x11 x12 x13 x14 x15 x16 x17 x18 x19 x20 x21 x22 x23 x24 x25 x26 x27 x28 x29 x30 x31 x32 x33 x34 x35 x36 x37 x38 x39 x40 (0) (0) (0) (0) (0) false false (0) (0) [] ByteArray.empty (0) (0) false (0)) fun y37 =>
 Option.bind (F13 FUEL y37.q0 y37.q1 y37.q2 y37.q3 y37.q4 y37.q5 y37.q6 y37.q7 y37.q8 y37.q9 y37.q10 y37.q11 y37.q12 y37.q13 y37.q14 x26 x27 x28 x29 x30 x31 x32 x33 x34 x35 x36 x37 x38 x39 x40) fun y38 =>
 bif y38 then
 (bif (ieq (ofN (List.length y37.q16)) (0)) then
 (Option.bind (F8 FUEL) fun y39 =>
 some y39)
 else (some false))
 else (some false))))
 else (bif (igt (ofN (List.length x39)) (0)) then
 (some false)
 else (Option.bind (F12 FUEL x6 x7 x8 x9 x10 x11 x12 x13 x14 x15 x16 x17 x18 x19 x20 x21 x22 x23 x24 x25 x26 x27 x28 x29 x30 x31 x32 x33 x34 x35 x36 x37 x38 x39 x40 (0) (0) (0) (0) (0) false false (0) (0) [] ByteArray.empty (0) (0) false (0)) fun y40 =>
 Option.bind (F13 FUEL y40.q0 y40.q1 y40.q2 y40.q3 y40.q4 y40.q5 y40.q6 y40.q7 y40.q8 y40.q9 y40.q10 y40.q11 y40.q12 y40.q13 y40.q14 x26 x27 x28 x29 x30 x31 x32 x33 x34 x35 x36 x37 x38 x39 x40) fun y41 =>
 bif y41 then
 (bif (ieq (ofN (List.length y40.q16)) (0)) then
 (Option.bind (F8 FUEL) fun y42 =>
 some y42)
 else (some false))
 else (some false)))))
 else (bif (ieq x0 (1)) then
 (bif x2 then
 (some false)
 else (bif (igt (ofN (List.length x39)) (0)) then
 (some false)
 else (Option.bind (F12 FUEL x6 x7 x8 x9 x10 x11 x12 x13 x14 x15 x16 x17 x18 x19 x20 x21 x22 x23 x24 x25 x26 x27 x28 x29 x30 x31 x32 x33 x34 x35 x36 x37 x38 x39 x40 (0) (0) (0) (0) (0) false false (0) (0) [] ByteArray.empty (0) (0) false (0)) fun y43 =>
 Option.bind (F13 FUEL y43.q0 y43.q1 y43.q2 y43.q3 y43.q4 y43.q5 y43.q6 y43.q7 y43.q8 y43.q9 y43.q10 y43.q11 y43.q12 y43.q13 y43.q14 x26 x27 x28 x29 x30 x31 x32 x33 x34 x35 x36 x37 x38 x39 x40) fun y44 =>
 bif y44 then
 (bif (ieq (ofN (List.length y43.q16)) (0)) then
 (Option.bind (F8 FUEL) fun y45 =>
 some y45)
 else (some false))
 else (some false))))
 else (bif (igt (ofN (List.length x39)) (0)) then
 (some false)
 else (Option.bind (F12 FUEL x6 x7 x8 x9 x10 x11 x12 x13 x14 x15 x16 x17 x18 x19 x20 x21 x22 x23 x24 x25 x26 x27 x28 x29 x30 x31 x32 x33 x34 x35 x36 x37 x38 x39 x40 (0) (0) (0) (0) (0) false false (0) (0) [] ByteArray.empty (0) (0) false (0)) fun y46 =>
 Option.bind (F13 FUEL y46.q0 y46.q1 y46.q2 y46.q3 y46.q4 y46.q5 y46.q6 y46.q7 y46.q8 y46.q9 y46.q10 y46.q11 y46.q12 y46.q13 y46.q14 x26 x27 x28 x29 x30 x31 x32 x33 x34 x35 x36 x37 x38 x39 x40) fun y47 =>
 bif y47 then
 (bif (ieq (ofN (List.length y46.q16)) (0)) then
 (Option.bind (F8 FUEL) fun y48 =>
 some y48)
 else (some false))
 else (some false)))))
 else (bif (ieq x0 (1)) then
 (bif x2 then
 (some false)
 else (bif (igt (ofN (List.length x39)) (0)) then
 (some false)
 else (Option.bind (F12 FUEL x6 x7 x8 x9 x10 x11 x12 x13 x14 x15 x16 x17 x18 x19 x20 x21 x22 x23 x24 x25 x26 x27 x28 x29 x30 x31 x32 x33 x34 x35 x36 x37 x38 x39 x40 (0) (0) (0) (0) (0) false false (0) (0) [] ByteArray.empty (0) (0) false (0)) fun y49 =>
 Option.bind (F13 FUEL y49.q0 y49.q1 y49.q2 y49.q3 y49.q4 y49.q5 y49.q6 y49.q7 y49.q8 y49.q9 y49.q10 y49.q11 y49.q12 y49.q13 y49.q14 x26 x27 x28 x29 x30 x31 x32 x33 x34 x35 x36 x37 x38 x39 x40) fun y50 =>
 bif y50 then
 (bif (ieq (ofN (List.length y49.q16)) (0)) then
 (Option.bind (F8 FUEL) fun y51 =>
 some y51)
 else (some false))
 else (some false))))
 else (bif (igt (ofN (List.length x39)) (0)) then
 (some false)
 else (Option.bind (F12 FUEL x6 x7 x8 x9 x10 x11 x12 x13 x14 x15 x16 x17 x18 x19 x20 x21 x22 x23 x24 x25 x26 x27 x28 x29 x30 x31 x32 x33 x34 x35 x36 x37 x38 x39 x40 (0) (0) (0) (0) (0) false false (0) (0) [] ByteArray.empty (0) (0) false (0)) fun y52 =>
 Option.bind (F13 FUEL y52.q0 y52.q1 y52.q2 y52.q3 y52.q4 y52.q5 y52.q6 y52.q7 y52.q8 y52.q9 y52.q10 y52.q11 y52.q12 y52.q13 y52.q14 x26 x27 x28 x29 x30 x31 x32 x33 x34 x35 x36 x37 x38 x39 x40) fun y53 =>
 bif y53 then
 (bif (ieq (ofN (List.length y52.q16)) (0)) then
 (Option.bind (F8 FUEL) fun y54 =>
 some y54)
 else (some false))
 else (some false))))))))
 else (bif (igt x4 (47)) then
 (some false)
 else (bif (ine x27 (5)) then
 (bif (ilt (ofN (List.length x1)) (47)) then
 (Option.bind (F8 FUEL) fun y55 =>
 some y55)
 else (some false))
 else (bif (ieq x0 (2)) then
 (bif (ieq x40 (0)) then
 (bif x3 then
 (some false)
 else (bif (ieq x0 (1)) then
 (bif x2 then
 (some false)
 else (bif (igt (ofN (List.length x39)) (0)) then
 (some false)
 else (Option.bind (F12 FUEL x6 x7 x8 x9 x10 x11 x12 x13 x14 x15 x16 x17 x18 x19 x20 x21 x22 x23 x24 x25 x26 x27 x28 x29 x30 x31 x32 x33 x34 x35 x36 x37 x38 x39 x40 (0) (0) (0) (0) (0) false false (0) (0) [] ByteArray.empty (0) (0) false (0)) fun y56 =>
 Option.bind (F13 FUEL y56.q0 y56.q1 y56.q2 y56.q3 y56.q4 y56.q5 y56.q6 y56.q7 y56.q8 y56.q9 y56.q10 y56.q11 y56.q12 y56.q13 y56.q14 x26 x27 x28 x29 x30 x31 x32 x33 x34 x35 x36 x37 x38 x39 x40) fun y57 =>
 bif y57 then
 (bif (ieq (ofN (List.length y56.q16)) (0)) then
 (Option.bind (F8 FUEL) fun y58 =>
 some y58)
 else (some false))
 else (some false))))
 else (bif (igt (ofN (List.length x39)) (0)) then
 (some false)
 else (Option.bind (F12 FUEL x6 x7 x8 x9 x10 x11 x12 x13 x14 x15 x16 x17 x18 x19 x20 x21 x22 x23 x24 x25 x26 x27 x28 x29 x30 x31 x32 x33 x34 x35 x36 x37 x38 x39 x40 (0) (0) (0) (0) (0) false false (0) (0) [] ByteArray.empty (0) (0) false (0)) fun y59 =>
 Option.bind (F13 FUEL y59.q0 y59.q1 y59.q2 y59.q3 y59.q4 y59.q5 y59.q6 y59.q7 y59.q8 y59.q9 y59.q10 y59.q11 y59.q12 y59.q13 y59.q14 x26 x27 x28 x29 x30 x31 x32 x33 x34 x35 x36 x37 x38 x39 x40) fun y60 =>
 bif y60 then
 (bif (ieq (ofN (List.length y59.q16)) (0)) then
 (Option.bind (F8 FUEL) fun y61 =>
 some y61)
 else (some false))
 else (some false)))))
 else (bif (ieq x0 (1)) then
 (bif x2 then
 (some false)
 else (bif (igt (ofN (List.length x39)) (0)) then
 (some false)
 else (Option.bind (F12 FUEL x6 x7 x8 x9 x10 x11 x12 x13 x14 x15 x16 x17 x18 x19 x20 x21 x22 x23 x24 x25 x26 x27 x28 x29 x30 x31 x32 x33 x34 x35 x36 x37 x38 x39 x40 (0) (0) (0) (0) (0) false false (0) (0) [] ByteArray.empty (0) (0) false (0)) fun y62 =>
 Option.bind (F13 FUEL y62.q0 y62.q1 y62.q2 y62.q3 y62.q4 y62.q5 y62.q6 y62.q7 y62.q8 y62.q9 y62.q10 y62.q11 y62.q12 y62.q13 y62.q14 x26 x27 x28 x29 x30 x31 x32 x33 x34 x35 x36 x37 x38 x39 x40) fun y63 =>
 bif y63 then
 (bif (ieq (ofN (List.length y62.q16)) (0)) then
 (Option.bind (F8 FUEL) fun y64 =>
 some y64)
 else (some false))
 else (some false))))
 else (bif (igt (ofN (List.length x39)) (0)) then
 (some false)
 else (Option.bind (F12 FUEL x6 x7 x8 x9 x10 x11 x12 x13 x14 x15 x16 x17 x18 x19 x20 x21 x22 x23 x24 x25 x26 x27 x28 x29 x30 x31 x32 x33 x34 x35 x36 x37 x38 x39 x40 (0) (0) (0) (0) (0) false false (0) (0) [] ByteArray.empty (0) (0) false (0)) fun y65 =>
 Option.bind (F13 FUEL y65.q0 y65.q1 y65.q2 y65.q3 y65.q4 y65.q5 y65.q6 y65.q7 y65.q8 y65.q9 y65.q10 y65.q11 y65.q12 y65.q13 y65.q14 x26 x27 x28 x29 x30 x31 x32 x33 x34 x35 x36 x37 x38 x39 x40) fun y66 =>
 bif y66 then
 (bif (ieq (ofN (List.length y65.q16)) (0)) then
 (Option.bind (F8 FUEL) fun y67 =>
 some y67)
 else (some false))
 else (some false)))))
 else (bif (ieq x0 (1)) then
 (bif x2 then
 (some false)
 else (bif (igt (ofN (List.length x39)) (0)) then
 (some false)
 else (Option.bind (F12 FUEL x6 x7 x8 x9 x10 x11 x12 x13 x14 x15 x16 x17 x18 x19 x20 x21 x22 x23 x24 x25 x26 x27 x28 x29 x30 x31 x32 x33 x34 x35 x36 x37 x38 x39 x40 (0) (0) (0) (0) (0) false false (0) (0) [] ByteArray.empty (0) (0) false (0)) fun y68 =>
 Option.bind (F13 FUEL y68.q0 y68.q1 y68.q2 y68.q3 y68.q4 y68.q5 y68.q6 y68.q7 y68.q8 y68.q9 y68.q10 y68.q11 y68.q12 y68.q13 y68.q14 x26 x27 x28 x29 x30 x31 x32 x33 x34 x35 x36 x37 x38 x39 x40) fun y69 =>
 bif y69 then
 (bif (ieq (ofN (List.length y68.q16)) (0)) then
 (Option.bind (F8 FUEL) fun y70 =>
 some y70)
 else (some false))
 else (some false))))
 else (bif (igt (ofN (List.length x39)) (0)) then
 (some false)
 else (Option.bind (F12 FUEL x6 x7 x8 x9 x10 x11 x12 x13 x14 x15 x16 x17 x18 x19 x20 x21 x22 x23 x24 x25 x26 x27 x28 x29 x30 x31 x32 x33 x34 x35 x36 x37 x38 x39 x40 (0) (0) (0) (0) (0) false false (0) (0) [] ByteArray.empty (0) (0) false (0)) fun y71 =>
 Option.bind (F13 FUEL y71.q0 y71.q1 y71.q2 y71.q3 y71.q4 y71.q5 y71.q6 y71.q7 y71.q8 y71.q9 y71.q10 y71.q11 y71.q12 y71.q13 y71.q14 x26 x27 x28 x29 x30 x31 x32 x33 x34 x35 x36 x37 x38 x39 x40) fun y72 =>
 bif y72 then
 (bif (ieq (ofN (List.length y71.q16)) (0)) then
 (Option.bind (F8 FUEL) fun y73 =>
 some y73)
 else (some false))
 else (some false)))))))
def F3 (n : Nat) (a0 : Int) (a1 a2 : List (Int)) (a3 a4 a5 a6 a7 a8 a9 a10 a11 a12 a13 a14 a15 a16 a17 a18 a19 a20 a21 : Int) (a22 : ByteArray) (a23 a24 : Int) (a25 : Bool) (a26 : List (Bool × Bool × Int × (List (Int)) × Bool)) : Option (Bool) :=
  Option.bind (F6 FUEL a0 a1 a2 a3 a4 a5 a6 a7 a8 a9 a10 a11 a12 a13 a14 a15 a16 a17 a18 a19) fun y1 =>
 bif y1 then
 (Option.bind (F8 FUEL) fun y2 =>
 some y2)
 else (Option.bind (F7 FUEL a0 a1 a2 a3 a4 a5 a6 a7 a8 a9 a10 a11 a12 a13 a14 a15 a16 a17 a18 a19) fun y3 =>
 bif (!y3) then
 (Option.bind (F8 FUEL) fun y4 =>
 some y4)
 else (bif (igt (ofN (List.length a26)) (100)) then
 (Option.bind (F8 FUEL) fun y5 =>
 some y5)
 else (bif (igt (stlen a22) (300)) then
 (Option.bind (F8 FUEL) fun y6 =>
 some y6)
 else (Option.bind (F9 FUEL a0 a1 a2 a3 a4 a5 a6 a7 a8 a9 a10 a11 a12 a13 a14 a15 a16 a17 a18 a19 a20 a21 a22 a23 a24 a25) fun y7 =>
 bif (room (0 + List.length y7.q16) 136) then
 (F3_c0 n a20 a26 y7.q14 false (0) (0) a0 a1 a2 a3 a4 a5 a6 a7 a8 a9 a10 a11 a12 a13 a14 a15 a16 a17 a18 a19 y7.q0 y7.q1 y7.q2 y7.q3 y7.q4 y7.q5 y7.q6 y7.q7 y7.q8 y7.q9 y7.q10 y7.q11 y7.q12 y7.q15 y7.q13 ([] ++ y7.q16))
 else (none)))))
end Go.Proofs.YtlcbbjcehaahlaaGreat
