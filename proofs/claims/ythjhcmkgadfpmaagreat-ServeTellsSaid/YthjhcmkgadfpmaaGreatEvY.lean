/-
 What the functions of this program compute, in plain words.
-/
import Derived.Test.YthjhcmkgadfpmaaGreatEvR
namespace Go.Proofs.YthjhcmkgadfpmaaGreat
open Go Go.RowKit
set_option maxRecDepth 100000
abbrev TY0 : Type := Int × Int × Int × Int × Int × Int × Bool × Bool × Int × Int × (List (Int)) × ByteArray × Int × Int × Bool × Int × Int × Int × Int × Int
abbrev TZ0 : TY0 := (0, 0, 0, 0, 0, 0, false, false, 0, 0, [], ByteArray.empty, 0, 0, false, 0, 0, 0, 0, 0)
abbrev TY1 : Type := Int × Int × Int × Int × Int × Int × Int × Bool × Bool × Int × Int × (List (Int)) × ByteArray × Int × Int × Bool × Int
abbrev TZ1 : TY1 := (0, 0, 0, 0, 0, 0, 0, false, false, 0, 0, [], ByteArray.empty, 0, 0, false, 0)
abbrev TY2 : Type := Int × Int × Int × Int × Int × Bool × Bool × Int × Int × (List (Int)) × ByteArray × Int × Int × Bool × Int
abbrev TZ2 : TY2 := (0, 0, 0, 0, 0, false, false, 0, 0, [], ByteArray.empty, 0, 0, false, 0)
def F32 (_n : Nat) (_a0 : Int) (a1 a2 : List (Int)) (_a3 _a4 _a5 _a6 _a7 _a8 _a9 _a10 _a11 _a12 _a13 _a14 _a15 _a16 _a17 _a18 _a19 : Int) : Option (Bool) :=
 bif (igt (ofN (List.length a1)) (20)) then
 (some true)
 else (some (igt (ofN (List.length a2)) (20)))
def jix : Nat → Int → Int → Int → List (TY0) → Option (Bool)
 | 0, _, _, _, _ => none
 | n + 1, x0, x1, x2, x3 => bif (ilt x0 (ofN (List.length x3))) then
 (bif (ile x0 (30)) then
 (bif (inb x0 (List.length x3)) then
 (bif (igt (ofN (List.length (List.getD x3 (Int.toNat x0) TZ0).2.2.2.2.2.2.2.2.2.2.1)) (20)) then
 (some true)
 else (bif (inb x0 (List.length x3)) then
 (bif (igt (jav (List.getD x3 (Int.toNat x0) TZ0).2.2.2.2.2.2.2.2.2.2.2.1) (100)) then
 (some true)
 else (jix n (iadd .i64 x0 (1)) x1 x2 x3))
 else (none)))
 else (none))
 else (some (igt (ofN (List.length x3)) (30))))
 else (some (igt (ofN (List.length x3)) (30)))
def F33 (n : Nat) (a0 a1 : Int) (a2 : List (TY0)) : Option (Bool) :=
 jix n (0) a0 a1 a2
mutual
def jsy : Nat → Int → Int → List (Int) → List (Int) → Int → Int → Int → Int → Int → Int → Int → Int → Int → Int → Int → Int → Int → Int → Int → Int → Int → Int → Int → Int → List (TY0) → List (TY1) → Int → Int → Int → Int → Int → Int → Int → Bool → Bool → Int → ByteArray → Int → Int → Bool → Int → List (Int) → Int → Int → Int → Int → Int → Int → Bool → Bool → Int → ByteArray → Int → Int → Bool → Int → List (Int) → Int → Int → Int → Int → Int → Int → Bool → Bool → Int → ByteArray → Int → Int → Bool → Int → List (Int) → Int → Int → ByteArray → List (ByteArray × Int × Int × Bool) → Int → Option (Bool)
 | 0, _, _, _, _, _, _, _, _, _, _, _, _, _, _, _, _, _, _, _, _, _, _, _, _, _, _, _, _, _, _, _, _, _, _, _, _, _, _, _, _, _, _, _, _, _, _, _, _, _, _, _, _, _, _, _, _, _, _, _, _, _, _, _, _, _, _, _, _, _, _, _, _, _, _, _, _, _ => none
 | n + 1, x0, x1, x2, x3, x4, x5, x6, x7, x8, x9, x10, x11, x12, x13, x14, x15, x16, x17, x18, x19, x20, x21, x22, x23, x24, x25, x26, x27, x28, x29, x30, x31, x32, x33, x34, x35, x36, x37, x38, x39, x40, x41, x42, x43, x44, x45, x46, x47, x48, x49, x50, x51, x52, x53, x54, x55, x56, x57, x58, x59, x60, x61, x62, x63, x64, x65, x66, x67, x68, x69, x70, x71, x72, x73, x74, x75, x76 => bif (ilt x0 (ofN (List.length x25))) then
 (bif (inb x0 (List.length x25)) then
 (bif (igt (ofN (List.length (List.getD x25 (Int.toNat x0) TZ1).2.2.2.2.2.2.2.2.2.2.2.1)) (20)) then
 (some true)
 else (bif (inb x0 (List.length x25)) then
 (bif (igt (jav (List.getD x25 (Int.toNat x0) TZ1).2.2.2.2.2.2.2.2.2.2.2.2.1) (100)) then
 (some true)
 else (jsy n (iadd .i64 x0 (1)) x1 x2 x3 x4 x5 x6 x7 x8 x9 x10 x11 x12 x13 x14 x15 x16 x17 x18 x19 x20 x21 x22 x23 x24 x25 x26 x27 x28 x29 x30 x31 x32 x33 x34 x35 x36 x37 x38 x39 x40 x41 x42 x43 x44 x45 x46 x47 x48 x49 x50 x51 x52 x53 x54 x55 x56 x57 x58 x59 x60 x61 x62 x63 x64 x65 x66 x67 x68 x69 x70 x71 x72 x73 x74 x75 x76))
 else (none)))
 else (none))
 else (jsx n (0) x1 x2 x3 x4 x5 x6 x7 x8 x9 x10 x11 x12 x13 x14 x15 x16 x17 x18 x19 x20 x21 x22 x23 x24 x25 x26 x27 x28 x29 x30 x31 x32 x33 x34 x35 x36 x37 x38 x39 x40 x41 x42 x43 x44 x45 x46 x47 x48 x49 x50 x51 x52 x53 x54 x55 x56 x57 x58 x59 x60 x61 x62 x63 x64 x65 x66 x67 x68 x69 x70 x71 x72 x73 x74 x75 x76)
def jsx : Nat → Int → Int → List (Int) → List (Int) → Int → Int → Int → Int → Int → Int → Int → Int → Int → Int → Int → Int → Int → Int → Int → Int → Int → Int → Int → Int → List (TY0) → List (TY1) → Int → Int → Int → Int → Int → Int → Int → Bool → Bool → Int → ByteArray → Int → Int → Bool → Int → List (Int) → Int → Int → Int → Int → Int → Int → Bool → Bool → Int → ByteArray → Int → Int → Bool → Int → List (Int) → Int → Int → Int → Int → Int → Int → Bool → Bool → Int → ByteArray → Int → Int → Bool → Int → List (Int) → Int → Int → ByteArray → List (ByteArray × Int × Int × Bool) → Int → Option (Bool)
 | 0, _, _, _, _, _, _, _, _, _, _, _, _, _, _, _, _, _, _, _, _, _, _, _, _, _, _, _, _, _, _, _, _, _, _, _, _, _, _, _, _, _, _, _, _, _, _, _, _, _, _, _, _, _, _, _, _, _, _, _, _, _, _, _, _, _, _, _, _, _, _, _, _, _, _, _, _, _ => none
 | n + 1, x0, x1, x2, x3, x4, x5, x6, x7, x8, x9, x10, x11, x12, x13, x14, x15, x16, x17, x18, x19, x20, x21, x22, x23, x24, x25, x26, x27, x28, x29, x30, x31, x32, x33, x34, x35, x36, x37, x38, x39, x40, x41, x42, x43, x44, x45, x46, x47, x48, x49, x50, x51, x52, x53, x54, x55, x56, x57, x58, x59, x60, x61, x62, x63, x64, x65, x66, x67, x68, x69, x70, x71, x72, x73, x74, x75, x76 => bif (ilt x0 (ofN (List.length x75))) then
 (bif (inb x0 (List.length x75)) then
 (bif (igt (jav (List.getD x75 (Int.toNat x0) (ByteArray.empty, 0, 0, false)).1) (100)) then
 (some true)
 else (jsx n (iadd .i64 x0 (1)) x1 x2 x3 x4 x5 x6 x7 x8 x9 x10 x11 x12 x13 x14 x15 x16 x17 x18 x19 x20 x21 x22 x23 x24 x25 x26 x27 x28 x29 x30 x31 x32 x33 x34 x35 x36 x37 x38 x39 x40 x41 x42 x43 x44 x45 x46 x47 x48 x49 x50 x51 x52 x53 x54 x55 x56 x57 x58 x59 x60 x61 x62 x63 x64 x65 x66 x67 x68 x69 x70 x71 x72 x73 x74 x75 x76))
 else (none))
 else (some false)
end
def F8 (n : Nat) (a0 : Int) (a1 a2 : List (Int)) (a3 a4 a5 a6 a7 a8 a9 a10 a11 a12 a13 a14 a15 a16 a17 a18 a19 a20 a21 a22 : Int) (a23 : List (TY0)) (a24 : List (TY1)) (a25 a26 a27 a28 a29 a30 a31 : Int) (a32 a33 : Bool) (a34 : Int) (a35 : ByteArray) (a36 a37 : Int) (a38 : Bool) (a39 : Int) (a40 : List (Int)) (a41 a42 a43 a44 a45 a46 : Int) (a47 a48 : Bool) (a49 : Int) (a50 : ByteArray) (a51 a52 : Int) (a53 : Bool) (a54 : Int) (a55 : List (Int)) (a56 a57 a58 a59 a60 a61 : Int) (a62 a63 : Bool) (a64 : Int) (a65 : ByteArray) (a66 a67 : Int) (a68 : Bool) (a69 : Int) (a70 : List (Int)) (a71 a72 : Int) (a73 : ByteArray) (a74 : List (ByteArray × Int × Int × Bool)) (a75 : Int) : Option (Bool) :=
 Option.bind (F32 FUEL a0 a1 a2 a3 a4 a5 a6 a7 a8 a9 a10 a11 a12 a13 a14 a15 a16 a17 a18 a19) fun y1 =>
 bif y1 then
 (some true)
 else (Option.bind (F33 FUEL a21 a22 a23) fun y2 =>
 bif y2 then
 (some true)
 else (bif (igt (ofN (List.length a24)) (60)) then
 (some true)
 else (bif (igt (ofN (List.length a74)) (40)) then
 (some true)
 else (bif (igt (jav a73) (100)) then
 (some true)
 else (bif (igt (ofN (List.length a40)) (20)) then
 (some true)
 else (bif (igt (ofN (List.length a55)) (20)) then
 (some true)
 else (bif (igt (ofN (List.length a70)) (20)) then
 (some true)
 else (jsy n (0) a0 a1 a2 a3 a4 a5 a6 a7 a8 a9 a10 a11 a12 a13 a14 a15 a16 a17 a18 a19 a20 a21 a22 a23 a24 a25 a26 a27 a28 a29 a30 a31 a32 a33 a34 a35 a36 a37 a38 a39 a40 a41 a42 a43 a44 a45 a46 a47 a48 a49 a50 a51 a52 a53 a54 a55 a56 a57 a58 a59 a60 a61 a62 a63 a64 a65 a66 a67 a68 a69 a70 a71 a72 a73 a74 a75))))))))
def F9 (_n : Nat) (_a0 _a1 _a2 _a3 _a4 : Int) (_a5 _a6 : Bool) (_a7 _a8 : Int) (a9 : List (Int)) (a10 : ByteArray) (_a11 _a12 : Int) (_a13 : Bool) (_a14 : Int) : Option (Bool) :=
 bif (igt (ofN (List.length a9)) (20)) then
 (some true)
 else (some (igt (jav a10) (100)))
def F137 (_n : Nat) (a0 : Int) : Option (Bool) :=
 bif (ige a0 (0)) then
 (some (ilt a0 (65536)))
 else (some false)
def F175 (_n : Nat) (a0 : Int) : Option (Bool) :=
 bif (ige a0 (0)) then
 (some (ilt a0 (65536)))
 else (some false)
def F155 (_n : Nat) (a0 : Int) : Option (Int) :=
 bif (inz (65536)) then
 (bif (inz (65536)) then
 (some (irem (iadd .i64 (irem a0 (65536)) (65536)) (65536)))
 else (none))
 else (none)
def F105 (_n : Nat) (a0 a1 : Int) : Option (Int) :=
 Option.bind (F155 FUEL a1) fun y1 =>
 Option.bind (F155 FUEL a0) fun y2 =>
 Option.bind (F155 FUEL (isub .i64 y1 y2)) fun y3 =>
 some y3
def F176 (_n : Nat) (a0 a1 a2 : Int) : Option (Bool) :=
 Option.bind (F105 FUEL a0 a2) fun y1 =>
 Option.bind (F105 FUEL a0 a1) fun y2 =>
 some (igt y1 y2)
def jbj : Nat → Int → List (Int) → Int → Option (Bool)
 | 0, _, _, _ => none
 | n + 1, x0, x1, x2 => bif (ilt x2 (ofN (List.length x1))) then
 (bif (inb x2 (List.length x1)) then
 (Option.bind (F175 FUEL (List.getD x1 (Int.toNat x2) 0)) fun y1 =>
 bif (!y1) then
 (some false)
 else (bif (inb x2 (List.length x1)) then
 (Option.bind (F155 FUEL x0) fun y2 =>
 bif (ieq (List.getD x1 (Int.toNat x2) 0) y2) then
 (some false)
 else (bif (igt x2 (0)) then
 (bif (inb (isub .i64 x2 (1)) (List.length x1)) then
 (bif (inb x2 (List.length x1)) then
 (Option.bind (F176 FUEL x0 (List.getD x1 (Int.toNat (isub .i64 x2 (1))) 0) (List.getD x1 (Int.toNat x2) 0)) fun y3 =>
 bif (!y3) then
 (some false)
 else (jbj n x0 x1 (iadd .i64 x2 (1))))
 else (none))
 else (none))
 else (jbj n x0 x1 (iadd .i64 x2 (1)))))
 else (none)))
 else (none))
 else (some (ile (ofN (List.length x1)) (3)))
def F138 (n : Nat) (a0 : Int) (a1 : List (Int)) : Option (Bool) :=
 jbj n a0 a1 (0)
def F139 (_n : Nat) (a0 : Int) (_a1 _a2 : List (Int)) (_a3 _a4 _a5 _a6 _a7 _a8 _a9 _a10 _a11 _a12 _a13 _a14 _a15 _a16 _a17 _a18 _a19 a20 : Int) : Option (Bool) :=
 bif (ieq a20 (-1)) then
 (some true)
 else (Option.bind (F137 FUEL a20) fun y1 =>
 bif y1 then
 (some (ine a20 a0))
 else (some false))
mutual
def jhb : Nat → Int → Int → List (Int) → List (Int) → Int → Int → Int → Int → Int → Int → Int → Int → Int → Int → Int → Int → Int → Int → Int → Int → Int → Option (Bool)
 | 0, _, _, _, _, _, _, _, _, _, _, _, _, _, _, _, _, _, _, _, _, _ => none
 | n + 1, x0, x1, x2, x3, x4, x5, x6, x7, x8, x9, x10, x11, x12, x13, x14, x15, x16, x17, x18, x19, x20 => bif (ilt x0 (ofN (List.length x2))) then
 (bif (inb x0 (List.length x2)) then
 (Option.bind (F137 FUEL (List.getD x2 (Int.toNat x0) 0)) fun y4 =>
 bif (!y4) then
 (some false)
 else (bif (igt x0 (0)) then
 (bif (inb x0 (List.length x2)) then
 (bif (inb (isub .i64 x0 (1)) (List.length x2)) then
 (bif (ile (List.getD x2 (Int.toNat x0) 0) (List.getD x2 (Int.toNat (isub .i64 x0 (1))) 0)) then
 (some false)
 else (jhb n (iadd .i64 x0 (1)) x1 x2 x3 x4 x5 x6 x7 x8 x9 x10 x11 x12 x13 x14 x15 x16 x17 x18 x19 x20))
 else (none))
 else (none))
 else (jhb n (iadd .i64 x0 (1)) x1 x2 x3 x4 x5 x6 x7 x8 x9 x10 x11 x12 x13 x14 x15 x16 x17 x18 x19 x20)))
 else (none))
 else (jip n (0) x1 x2 x3 x4 x5 x6 x7 x8 x9 x10 x11 x12 x13 x14 x15 x16 x17 x18 x19 x20)
def jip : Nat → Int → Int → List (Int) → List (Int) → Int → Int → Int → Int → Int → Int → Int → Int → Int → Int → Int → Int → Int → Int → Int → Int → Int → Option (Bool)
 | 0, _, _, _, _, _, _, _, _, _, _, _, _, _, _, _, _, _, _, _, _, _ => none
 | n + 1, x0, x1, x2, x3, x4, x5, x6, x7, x8, x9, x10, x11, x12, x13, x14, x15, x16, x17, x18, x19, x20 => bif (ilt x0 (16)) then
 (bif (inb x0 16) then
 (bif (nlt (Int.toNat x0) 16) then
 (Option.bind (F139 FUEL x1 x2 x3 x4 x5 x6 x7 x8 x9 x10 x11 x12 x13 x14 x15 x16 x17 x18 x19 x20 (List.getD [x5, x6, x7, x8, x9, x10, x11, x12, x13, x14, x15, x16, x17, x18, x19, x20] (Int.toNat x0) 0)) fun y5 =>
 bif (!y5) then
 (some false)
 else (jip n (iadd .i64 x0 (1)) x1 x2 x3 x4 x5 x6 x7 x8 x9 x10 x11 x12 x13 x14 x15 x16 x17 x18 x19 x20))
 else (none))
 else (none))
 else (some true)
end
def F66 (n : Nat) (a0 : Int) (a1 a2 : List (Int)) (a3 a4 a5 a6 a7 a8 a9 a10 a11 a12 a13 a14 a15 a16 a17 a18 a19 : Int) : Option (Bool) :=
 Option.bind (F137 FUEL a0) fun y1 =>
 bif (!y1) then
 (some false)
 else (bif (ilt (ofN (List.length a1)) (2)) then
 (some false)
 else (bif (igt (ofN (List.length a1)) (4)) then
 (some false)
 else (Option.bind (F138 FUEL a0 a2) fun y2 =>
 bif (!y2) then
 (some false)
 else (Option.bind (F139 FUEL a0 a1 a2 a3 a4 a5 a6 a7 a8 a9 a10 a11 a12 a13 a14 a15 a16 a17 a18 a19 a3) fun y3 =>
 bif (!y3) then
 (some false)
 else (jhb n (0) a0 a1 a2 a3 a4 a5 a6 a7 a8 a9 a10 a11 a12 a13 a14 a15 a16 a17 a18 a19)))))
structure jsw where
 (q0 q1 q2 q3 q4 q5 q6 q7 q8 q9 q10 q11 q12 q13 q14 q15 q16 q17 q18 : Int)
 q19 : List (Int)
def jpg : Nat → Int → Int → Int → Int → Int → Int → Int → Int → Int → Int → Int → Int → Int → Int → Int → Int → Int → Int → List (Int) → Option (jsw)
 | 0, _, _, _, _, _, _, _, _, _, _, _, _, _, _, _, _, _, _, _ => none
 | n + 1, x0, x1, x2, x3, x4, x5, x6, x7, x8, x9, x10, x11, x12, x13, x14, x15, x16, x17, x18 => bif (ilt x0 (16)) then
 (bif (inb x0 16) then
 (bif (nlt (Int.toNat x0) 16) then
 (jpg n (iadd .i64 x0 (1)) x1 (List.getD (List.set [x2, x3, x4, x5, x6, x7, x8, x9, x10, x11, x12, x13, x14, x15, x16, x17] (Int.toNat x0) (-1)) 0 0) (List.getD (List.set [x2, x3, x4, x5, x6, x7, x8, x9, x10, x11, x12, x13, x14, x15, x16, x17] (Int.toNat x0) (-1)) 1 0) (List.getD (List.set [x2, x3, x4, x5, x6, x7, x8, x9, x10, x11, x12, x13, x14, x15, x16, x17] (Int.toNat x0) (-1)) 2 0) (List.getD (List.set [x2, x3, x4, x5, x6, x7, x8, x9, x10, x11, x12, x13, x14, x15, x16, x17] (Int.toNat x0) (-1)) 3 0) (List.getD (List.set [x2, x3, x4, x5, x6, x7, x8, x9, x10, x11, x12, x13, x14, x15, x16, x17] (Int.toNat x0) (-1)) 4 0) (List.getD (List.set [x2, x3, x4, x5, x6, x7, x8, x9, x10, x11, x12, x13, x14, x15, x16, x17] (Int.toNat x0) (-1)) 5 0) (List.getD (List.set [x2, x3, x4, x5, x6, x7, x8, x9, x10, x11, x12, x13, x14, x15, x16, x17] (Int.toNat x0) (-1)) 6 0) (List.getD (List.set [x2, x3, x4, x5, x6, x7, x8, x9, x10, x11, x12, x13, x14, x15, x16, x17] (Int.toNat x0) (-1)) 7 0) (List.getD (List.set [x2, x3, x4, x5, x6, x7, x8, x9, x10, x11, x12, x13, x14, x15, x16, x17] (Int.toNat x0) (-1)) 8 0) (List.getD (List.set [x2, x3, x4, x5, x6, x7, x8, x9, x10, x11, x12, x13, x14, x15, x16, x17] (Int.toNat x0) (-1)) 9 0) (List.getD (List.set [x2, x3, x4, x5, x6, x7, x8, x9, x10, x11, x12, x13, x14, x15, x16, x17] (Int.toNat x0) (-1)) 10 0) (List.getD (List.set [x2, x3, x4, x5, x6, x7, x8, x9, x10, x11, x12, x13, x14, x15, x16, x17] (Int.toNat x0) (-1)) 11 0) (List.getD (List.set [x2, x3, x4, x5, x6, x7, x8, x9, x10, x11, x12, x13, x14, x15, x16, x17] (Int.toNat x0) (-1)) 12 0) (List.getD (List.set [x2, x3, x4, x5, x6, x7, x8, x9, x10, x11, x12, x13, x14, x15, x16, x17] (Int.toNat x0) (-1)) 13 0) (List.getD (List.set [x2, x3, x4, x5, x6, x7, x8, x9, x10, x11, x12, x13, x14, x15, x16, x17] (Int.toNat x0) (-1)) 14 0) (List.getD (List.set [x2, x3, x4, x5, x6, x7, x8, x9, x10, x11, x12, x13, x14, x15, x16, x17] (Int.toNat x0) (-1)) 15 0) x18)
 else (none))
 else (none))
 else (Option.bind (F66 FUEL x1 x18 [] (-1) x2 x3 x4 x5 x6 x7 x8 x9 x10 x11 x12 x13 x14 x15 x16 x17) fun y1 =>
 bif (!y1) then
 (some ⟨(0), (0), (0), (0), (0), (0), (0), (0), (0), (0), (0), (0), (0), (0), (0), (0), (0), (0), (2), []⟩)
 else (some ⟨x1, (-1), x2, x3, x4, x5, x6, x7, x8, x9, x10, x11, x12, x13, x14, x15, x16, x17, (0), x18⟩))
def F107 (n : Nat) (a0 : Int) (a1 : List (Int)) : Option (jsw) :=
 bif (room (0 + List.length a1) 8) then
 (jpg n (0) a0 (0) (0) (0) (0) (0) (0) (0) (0) (0) (0) (0) (0) (0) (0) (0) (0) ([] ++ a1))
 else (none)
def F92 (_n : Nat) (a0 : Int) : Option (Bool) :=
 bif (ige a0 (0)) then
 (some (ilt a0 (65536)))
 else (some false)
def F22 (_n : Nat) (a0 _a1 _a2 _a3 _a4 : Int) (_a5 _a6 : Bool) (_a7 _a8 : Int) (_a9 : List (Int)) (_a10 : ByteArray) (_a11 _a12 : Int) (_a13 : Bool) (_a14 : Int) : Option (Bool) :=
 bif (ige a0 (1)) then
 (some (ile a0 (6)))
 else (some false)
def F93 (_n : Nat) (a0 a1 a2 a3 a4 : Int) (a5 a6 : Bool) (a7 a8 : Int) (a9 : List (Int)) (a10 : ByteArray) (a11 a12 : Int) (a13 : Bool) (a14 : Int) : Option (Int) :=
 Option.bind (F22 FUEL a0 a1 a2 a3 a4 a5 a6 a7 a8 a9 a10 a11 a12 a13 a14) fun y1 =>
 bif y1 then
 (some a2)
 else (some a3)
structure uz where
 q0 : Bool
 (q1 q2 q3 q4 q5 : Int)
 (q6 q7 : Bool)
 (q8 q9 : Int)
 q10 : ByteArray
 (q11 q12 : Int)
 q13 : Bool
 q14 : Int
def F94 (_n : Nat) (a0 a1 a2 a3 a4 : Int) (a5 a6 : Bool) (a7 a8 : Int) (a9 : ByteArray) (a10 a11 : Int) (a12 : Bool) (a13 : Int) : Option (uz) :=
 bif (ieq a0 (4)) then
 (some ⟨true, a0, a1, a2, a3, (0), false, a6, a7, a8, a9, a10, a11, a12, a13⟩)
 else (bif (ieq a0 (5)) then
 (bif (ieq a0 (5)) then
 (some ⟨true, a0, a1, a2, a3, a4, a5, a6, a7, a8, ByteArray.empty, (0), (0), false, a13⟩)
 else (bif (ieq a0 (7)) then
 (some ⟨false, a0, a1, a2, a3, a4, a5, a6, a7, (0), a9, a10, a11, a12, a13⟩)
 else (bif (ieq a0 (10)) then
 (some ⟨true, a0, a1, a2, a3, a4, a5, false, (0), a8, a9, a10, a11, a12, a13⟩)
 else (bif (ieq a0 (11)) then
 (some ⟨true, a0, a1, a2, a3, a4, a5, a6, a7, a8, a9, a10, a11, a12, (0)⟩)
 else (bif (ieq a0 (12)) then
 (some ⟨true, a0, a1, a2, a3, a4, a5, a6, a7, a8, ByteArray.empty, (0), (0), false, (0)⟩)
 else (some ⟨true, a0, a1, a2, a3, a4, a5, a6, a7, a8, a9, a10, a11, a12, a13⟩))))))
 else (bif (ieq a0 (6)) then
 (some ⟨true, a0, a1, a2, a3, a4, a5, a6, a7, a8, ByteArray.empty, (0), (0), false, a13⟩)
 else (bif (ieq a0 (7)) then
 (some ⟨false, a0, a1, a2, a3, a4, a5, a6, a7, (0), a9, a10, a11, a12, a13⟩)
 else (bif (ieq a0 (10)) then
 (some ⟨true, a0, a1, a2, a3, a4, a5, false, (0), a8, a9, a10, a11, a12, a13⟩)
 else (bif (ieq a0 (11)) then
 (some ⟨true, a0, a1, a2, a3, a4, a5, a6, a7, a8, a9, a10, a11, a12, (0)⟩)
 else (bif (ieq a0 (12)) then
 (some ⟨true, a0, a1, a2, a3, a4, a5, a6, a7, a8, ByteArray.empty, (0), (0), false, (0)⟩)
 else (some ⟨true, a0, a1, a2, a3, a4, a5, a6, a7, a8, a9, a10, a11, a12, a13⟩)))))))
def jiz : Nat → Int → Int → Int → Int → Int → Int → Bool → Bool → Int → Int → List (Int) → ByteArray → Int → Int → Bool → Int → Int → Int → Int → Int → Int → Bool → Bool → Int → Int → List (Int) → ByteArray → Int → Int → Bool → Int → Option (Bool)
 | 0, _, _, _, _, _, _, _, _, _, _, _, _, _, _, _, _, _, _, _, _, _, _, _, _, _, _, _, _, _, _, _ => none
 | n + 1, x0, x1, x2, x3, x4, x5, x6, x7, x8, x9, x10, x11, x12, x13, x14, x15, x16, x17, x18, x19, x20, x21, x22, x23, x24, x25, x26, x27, x28, x29, x30 => bif (ilt x0 (ofN (List.length x10))) then
 (bif (inb x0 (List.length x10)) then
 (bif (inb x0 (List.length x25)) then
 (bif (ine (List.getD x10 (Int.toNat x0) 0) (List.getD x25 (Int.toNat x0) 0)) then
 (some false)
 else (jiz n (iadd .i64 x0 (1)) x1 x2 x3 x4 x5 x6 x7 x8 x9 x10 x11 x12 x13 x14 x15 x16 x17 x18 x19 x20 x21 x22 x23 x24 x25 x26 x27 x28 x29 x30))
 else (none))
 else (none))
 else (bif (ieq x1 x16) then
 (bif (ieq x2 x17) then
 (bif (ieq x3 x18) then
 (bif (ieq x4 x19) then
 (bif (ieq x5 x20) then
 (bif (beqb x6 x21) then
 (bif (beqb x7 x22) then
 (bif (ieq x8 x23) then
 (bif (ieq x9 x24) then
 (bif ((steq x11 x26) && ((ieq x12 x27) && ((ieq x13 x28) && ((beqb x14 x29) && true)))) then
 (some (ieq x15 x30))
 else (some false))
 else (some false))
 else (some false))
 else (some false))
 else (some false))
 else (some false))
 else (some false))
 else (some false))
 else (some false))
 else (some false))
def F14 (n : Nat) (a0 a1 a2 a3 a4 : Int) (a5 a6 : Bool) (a7 a8 : Int) (a9 : List (Int)) (a10 : ByteArray) (a11 a12 : Int) (a13 : Bool) (a14 a15 a16 a17 a18 a19 : Int) (a20 a21 : Bool) (a22 a23 : Int) (a24 : List (Int)) (a25 : ByteArray) (a26 a27 : Int) (a28 : Bool) (a29 : Int) : Option (Bool) :=
 bif (ine (ofN (List.length a9)) (ofN (List.length a24))) then
 (some false)
 else (jiz n (0) a0 a1 a2 a3 a4 a5 a6 a7 a8 a9 a10 a11 a12 a13 a14 a15 a16 a17 a18 a19 a20 a21 a22 a23 a24 a25 a26 a27 a28 a29)
def F29 (_n : Nat) (a0 : ByteArray) (a1 a2 : Int) (_a3 : Bool) : Option (Bool) :=
 bif (ige (jav a0) (1)) then
 (bif (ile (jav a0) (20)) then
 (bif (ige a1 (0)) then
 (bif (ile a1 (1048576)) then
 (bif (ige a2 (0)) then
 (some (ile a2 (1048576)))
 else (some false))
 else (some false))
 else (some false))
 else (some false))
 else (some false)
mutual
def wy : Nat → List (Int) → Int → Int → Option (Bool)
 | 0, _, _, _ => none
 | n + 1, x0, x1, x2 => bif (ilt x2 (ofN (List.length x0))) then
 (bif (inb x2 (List.length x0)) then
 (Option.bind (F92 FUEL (List.getD x0 (Int.toNat x2) 0)) fun y1 =>
 bif (!y1) then
 (some false)
 else (bif (inb x2 (List.length x0)) then
 (bif (ieq (List.getD x0 (Int.toNat x2) 0) x1) then
 (some false)
 else (jaj n x0 x1 x2 (0)))
 else (none)))
 else (none))
 else (some (ile (ofN (List.length x0)) (3)))
def jaj : Nat → List (Int) → Int → Int → Int → Option (Bool)
 | 0, _, _, _, _ => none
 | n + 1, x0, x1, x2, x3 => bif (ilt x3 x2) then
 (bif (inb x3 (List.length x0)) then
 (bif (inb x2 (List.length x0)) then
 (bif (ieq (List.getD x0 (Int.toNat x3) 0) (List.getD x0 (Int.toNat x2) 0)) then
 (some false)
 else (jaj n x0 x1 x2 (iadd .i64 x3 (1))))
 else (none))
 else (none))
 else (wy n x0 x1 (iadd .i64 x2 (1)))
end
def F153 (n : Nat) (a0 : List (Int)) (a1 : Int) : Option (Bool) :=
 wy n a0 a1 (0)
def F95 (_n : Nat) (a0 _a1 a2 _a3 a4 : Int) (_a5 _a6 : Bool) (a7 a8 : Int) (a9 : List (Int)) (a10 : ByteArray) (a11 a12 : Int) (a13 : Bool) (a14 : Int) : Option (Bool) :=
 bif (ieq a0 (4)) then
 (Option.bind (F92 FUEL a4) fun y1 =>
 some y1)
 else (bif (ieq a0 (5)) then
 (Option.bind (F29 FUEL a10 a11 a12 a13) fun y2 =>
 some y2)
 else (bif (ieq a0 (6)) then
 (Option.bind (F29 FUEL a10 a11 a12 a13) fun y3 =>
 bif y3 then
 (some ((steq a10 a10) && ((ieq a11 (0)) && ((ieq a12 (0)) && ((beqb a13 false) && true)))))
 else (some false))
 else (bif (ieq a0 (7)) then
 (bif (ieq a8 (-1)) then
 (Option.bind (F153 FUEL a9 a2) fun y4 =>
 some y4)
 else (Option.bind (F92 FUEL a8) fun y5 =>
 bif y5 then
 (Option.bind (F153 FUEL a9 a2) fun y6 =>
 some y6)
 else (some false)))
 else (bif (ieq a0 (10)) then
 (Option.bind (F92 FUEL a7) fun y7 =>
 some y7)
 else (bif (ieq a0 (11)) then
 (bif (ieq a14 (0)) then
 (some true)
 else (some (ieq a14 (200))))
 else (bif (ieq a0 (12)) then
 (bif (ieq a14 (0)) then
 (Option.bind (F29 FUEL a10 a11 a12 a13) fun y8 =>
 bif y8 then
 (some true)
 else (bif (ieq a14 (201)) then
 (some ((steq a10 ByteArray.empty) && ((ieq a11 (0)) && ((ieq a12 (0)) && ((beqb a13 false) && true)))))
 else (some false)))
 else (bif (ieq a14 (201)) then
 (some ((steq a10 ByteArray.empty) && ((ieq a11 (0)) && ((ieq a12 (0)) && ((beqb a13 false) && true)))))
 else (some false)))
 else (some true)))))))
def F21 (_n : Nat) (a0 a1 a2 a3 a4 : Int) (a5 a6 : Bool) (a7 a8 : Int) (a9 : List (Int)) (a10 : ByteArray) (a11 a12 : Int) (a13 : Bool) (a14 : Int) : Option (Bool) :=
 bif (ilt a0 (1)) then
 (some false)
 else (bif (ige a0 (13)) then
 (some false)
 else (Option.bind (F92 FUEL a2) fun y1 =>
 bif (!y1) then
 (some false)
 else (Option.bind (F92 FUEL a3) fun y2 =>
 bif (!y2) then
 (some false)
 else (bif (ieq a2 a3) then
 (some false)
 else (Option.bind (F93 FUEL a0 a1 a2 a3 a4 a5 a6 a7 a8 a9 a10 a11 a12 a13 a14) fun y3 =>
 bif (ilt a1 (iadd .i64 (imul .i64 y3 (1048576)) (1))) then
 (some false)
 else (bif (ige a1 (iadd .i64 (iadd .i64 (imul .i64 y3 (1048576)) (1)) (1048576))) then
 (some false)
 else (Option.bind (F94 FUEL a0 a1 a2 a3 a4 a5 a6 a7 a8 a10 a11 a12 a13 a14) fun y4 =>
 bif y4.q0 then
 (Option.bind (F14 FUEL y4.q1 y4.q2 y4.q3 y4.q4 y4.q5 y4.q6 y4.q7 y4.q8 y4.q9 a9 y4.q10 y4.q11 y4.q12 y4.q13 y4.q14 a0 a1 a2 a3 (0) false false (0) (0) [] ByteArray.empty (0) (0) false (0)) fun y5 =>
 bif y5 then
 (Option.bind (F95 FUEL a0 a1 a2 a3 a4 a5 a6 a7 a8 a9 a10 a11 a12 a13 a14) fun y6 =>
 some y6)
 else (some false))
 else (Option.bind (F14 FUEL y4.q1 y4.q2 y4.q3 y4.q4 y4.q5 y4.q6 y4.q7 y4.q8 y4.q9 [] y4.q10 y4.q11 y4.q12 y4.q13 y4.q14 a0 a1 a2 a3 (0) false false (0) (0) [] ByteArray.empty (0) (0) false (0)) fun y7 =>
 bif y7 then
 (Option.bind (F95 FUEL a0 a1 a2 a3 a4 a5 a6 a7 a8 a9 a10 a11 a12 a13 a14) fun y8 =>
 some y8)
 else (some false)))))))))
def F140 (_n : Nat) (a0 : Int) : Option (Bool) :=
 bif (ige a0 (0)) then
 (some (ile a0 (1099511627776)))
 else (some false)
def jha : Nat → Int → Int → Int → List (TY0) → Option (Bool)
 | 0, _, _, _, _ => none
 | n + 1, x0, x1, x2, x3 => bif (ilt x0 (ofN (List.length x3))) then
 (bif (inb x0 (List.length x3)) then
 (Option.bind (F21 FUEL (List.getD x3 (Int.toNat x0) TZ0).2.1 (List.getD x3 (Int.toNat x0) TZ0).2.2.1 (List.getD x3 (Int.toNat x0) TZ0).2.2.2.1 (List.getD x3 (Int.toNat x0) TZ0).2.2.2.2.1 (List.getD x3 (Int.toNat x0) TZ0).2.2.2.2.2.1 (List.getD x3 (Int.toNat x0) TZ0).2.2.2.2.2.2.1 (List.getD x3 (Int.toNat x0) TZ0).2.2.2.2.2.2.2.1 (List.getD x3 (Int.toNat x0) TZ0).2.2.2.2.2.2.2.2.1 (List.getD x3 (Int.toNat x0) TZ0).2.2.2.2.2.2.2.2.2.1 (List.getD x3 (Int.toNat x0) TZ0).2.2.2.2.2.2.2.2.2.2.1 (List.getD x3 (Int.toNat x0) TZ0).2.2.2.2.2.2.2.2.2.2.2.1 (List.getD x3 (Int.toNat x0) TZ0).2.2.2.2.2.2.2.2.2.2.2.2.1 (List.getD x3 (Int.toNat x0) TZ0).2.2.2.2.2.2.2.2.2.2.2.2.2.1 (List.getD x3 (Int.toNat x0) TZ0).2.2.2.2.2.2.2.2.2.2.2.2.2.2.1 (List.getD x3 (Int.toNat x0) TZ0).2.2.2.2.2.2.2.2.2.2.2.2.2.2.2.1) fun y1 =>
 bif (!y1) then
 (some false)
 else (Option.bind (F22 FUEL (List.getD x3 (Int.toNat x0) TZ0).2.1 (List.getD x3 (Int.toNat x0) TZ0).2.2.1 (List.getD x3 (Int.toNat x0) TZ0).2.2.2.1 (List.getD x3 (Int.toNat x0) TZ0).2.2.2.2.1 (List.getD x3 (Int.toNat x0) TZ0).2.2.2.2.2.1 (List.getD x3 (Int.toNat x0) TZ0).2.2.2.2.2.2.1 (List.getD x3 (Int.toNat x0) TZ0).2.2.2.2.2.2.2.1 (List.getD x3 (Int.toNat x0) TZ0).2.2.2.2.2.2.2.2.1 (List.getD x3 (Int.toNat x0) TZ0).2.2.2.2.2.2.2.2.2.1 (List.getD x3 (Int.toNat x0) TZ0).2.2.2.2.2.2.2.2.2.2.1 (List.getD x3 (Int.toNat x0) TZ0).2.2.2.2.2.2.2.2.2.2.2.1 (List.getD x3 (Int.toNat x0) TZ0).2.2.2.2.2.2.2.2.2.2.2.2.1 (List.getD x3 (Int.toNat x0) TZ0).2.2.2.2.2.2.2.2.2.2.2.2.2.1 (List.getD x3 (Int.toNat x0) TZ0).2.2.2.2.2.2.2.2.2.2.2.2.2.2.1 (List.getD x3 (Int.toNat x0) TZ0).2.2.2.2.2.2.2.2.2.2.2.2.2.2.2.1) fun y2 =>
 bif (!y2) then
 (some false)
 else (bif (ine (List.getD x3 (Int.toNat x0) TZ0).2.2.2.1 x1) then
 (some false)
 else (bif (ine (List.getD x3 (Int.toNat x0) TZ0).1 (List.getD x3 (Int.toNat x0) TZ0).2.2.1) then
 (some false)
 else (bif (igt (List.getD x3 (Int.toNat x0) TZ0).1 (iadd .i64 (imul .i64 x1 (1048576)) x2)) then
 (some false)
 else (bif (igt x0 (0)) then
 (bif (inb (isub .i64 x0 (1)) (List.length x3)) then
 (bif (ile (List.getD x3 (Int.toNat x0) TZ0).1 (List.getD x3 (Int.toNat (isub .i64 x0 (1))) TZ0).1) then
 (some false)
 else (bif (ilt (List.getD x3 (Int.toNat x0) TZ0).2.2.2.2.2.2.2.2.2.2.2.2.2.2.2.2.2.2.2 (1)) then
 (some false)
 else (bif (igt (List.getD x3 (Int.toNat x0) TZ0).2.2.2.2.2.2.2.2.2.2.2.2.2.2.2.2.2.2.2 (3)) then
 (some false)
 else (Option.bind (F140 FUEL (List.getD x3 (Int.toNat x0) TZ0).2.2.2.2.2.2.2.2.2.2.2.2.2.2.2.2.2.2.1) fun y3 =>
 bif (!y3) then
 (some false)
 else (jha n (iadd .i64 x0 (1)) x1 x2 x3)))))
 else (none))
 else (bif (ilt (List.getD x3 (Int.toNat x0) TZ0).2.2.2.2.2.2.2.2.2.2.2.2.2.2.2.2.2.2.2 (1)) then
 (some false)
 else (bif (igt (List.getD x3 (Int.toNat x0) TZ0).2.2.2.2.2.2.2.2.2.2.2.2.2.2.2.2.2.2.2 (3)) then
 (some false)
 else (Option.bind (F140 FUEL (List.getD x3 (Int.toNat x0) TZ0).2.2.2.2.2.2.2.2.2.2.2.2.2.2.2.2.2.2.1) fun y4 =>
 bif (!y4) then
 (some false)
 else (jha n (iadd .i64 x0 (1)) x1 x2 x3))))))))))
 else (none))
 else (some true)
def F67 (n : Nat) (a0 a1 : Int) (a2 : List (TY0)) : Option (Bool) :=
 bif (ilt a0 (0)) then
 (some false)
 else (bif (ige a0 (65536)) then
 (some false)
 else (bif (ilt a1 (0)) then
 (some false)
 else (bif (igt a1 (1048576)) then
 (some false)
 else (bif (igt (ofN (List.length a2)) (16)) then
 (some false)
 else (jha n (0) a0 a1 a2)))))
def F108 (_n : Nat) (a0 : Int) : Option (Int × Int × Int) :=
 Option.bind (F67 FUEL a0 (0) []) fun y1 =>
 bif (!y1) then
 (some ((0), (0), (2)))
 else (some (a0, (0), (0)))
structure Sx0 where
 (q0 q1 q2 q3 q4 q5 q6 q7 q8 q9 q10 q11 q12 q13 q14 q15 q16 q17 q18 q19 q20 q21 q22 q23 q24 q25 q26 q27 : Int)
 (q28 q29 : Bool)
 q30 : Int
 q31 : ByteArray
 (q32 q33 : Int)
 q34 : Bool
 (q35 q36 q37 q38 q39 q40 q41 : Int)
 (q42 q43 : Bool)
 q44 : Int
 q45 : ByteArray
 (q46 q47 : Int)
 q48 : Bool
 (q49 q50 q51 q52 q53 q54 q55 : Int)
 (q56 q57 : Bool)
 q58 : Int
 q59 : ByteArray
 (q60 q61 : Int)
 q62 : Bool
 (q63 q64 q65 : Int)
 q66 : ByteArray
 q67 : Int
 q68 : List (Int)
def F34 (_n : Nat) (a0 : Int) (a1 : List (Int)) : Option (Sx0) :=
 Option.bind (F107 FUEL a0 a1) fun y1 =>
 Option.bind (F108 FUEL a0) fun y2 =>
 some ⟨y1.q0, y1.q1, y1.q2, y1.q3, y1.q4, y1.q5, y1.q6, y1.q7, y1.q8, y1.q9, y1.q10, y1.q11, y1.q12, y1.q13, y1.q14, y1.q15, y1.q16, y1.q17, (0), y2.1, y2.2.1, (0), (0), (0), (0), (0), (0), (0), false, false, (0), ByteArray.empty, (0), (0), false, (0), (0), (0), (0), (0), (0), (0), false, false, (0), ByteArray.empty, (0), (0), false, (0), (0), (0), (0), (0), (0), (0), false, false, (0), ByteArray.empty, (0), (0), false, (0), (0), (0), ByteArray.empty, (0), y1.q19⟩
structure qe where
 (q0 q1 q2 q3 q4 : Int)
 (q5 q6 : Bool)
 (q7 q8 : Int)
 q9 : ByteArray
 (q10 q11 : Int)
 q12 : Bool
 q13 : Int
def F30 (_n : Nat) (a0 a1 a2 a3 : Int) : Option (qe) :=
 some ⟨a0, (iadd .i64 (imul .i64 a1 (1048576)) a2), a1, a3, (0), false, false, (0), (0), ByteArray.empty, (0), (0), false, (0)⟩
def F113 (_n : Nat) (a0 : List (Int)) : Option ((List (Int))) :=
 bif (List.isEmpty a0) then
 (altE (some [])
 (bif (room (0 + List.length a0) 8) then
 (some ([] ++ a0))
 else (none)))
 else (bif (room (0 + List.length a0) 8) then
 (some ([] ++ a0))
 else (none))
structure wx where
 (q0 q1 q2 q3 q4 q5 q6 q7 q8 q9 q10 q11 q12 q13 q14 q15 q16 q17 : Int)
 (q18 q19 : List (Int))
def F87 (_n : Nat) (a0 : Int) (a1 a2 : List (Int)) (a3 a4 a5 a6 a7 a8 a9 a10 a11 a12 a13 a14 a15 a16 a17 a18 a19 : Int) : Option (wx) :=
 Option.bind (F113 FUEL a1) fun y1 =>
 Option.bind (F113 FUEL a2) fun y2 =>
 some ⟨a0, a3, a4, a5, a6, a7, a8, a9, a10, a11, a12, a13, a14, a15, a16, a17, a18, a19, y1, y2⟩
structure uw where
 (q0 q1 q2 q3 q4 : Int)
 (q5 q6 : Bool)
 (q7 q8 : Int)
 q9 : ByteArray
 (q10 q11 : Int)
 q12 : Bool
 q13 : Int
 q14 : List (Int)
def F38 (_n : Nat) (a0 a1 a2 a3 a4 : Int) (a5 a6 : Bool) (a7 a8 : Int) (a9 : List (Int)) (a10 : ByteArray) (a11 a12 : Int) (a13 : Bool) (a14 : Int) : Option (uw) :=
 bif (room (List.length a9) 8) then
 (some ⟨a0, a1, a2, a3, a4, a5, a6, a7, a8, a10, a11, a12, a13, a14, a9⟩)
 else (none)
structure vc where
 (q0 q1 q2 q3 q4 q5 : Int)
 (q6 q7 : Bool)
 (q8 q9 : Int)
 q10 : ByteArray
 (q11 q12 : Int)
 q13 : Bool
 (q14 q15 q16 q17 q18 : Int)
 q19 : List (Int)
def F195 (_n : Nat) (a0 a1 a2 a3 a4 a5 : Int) (a6 a7 : Bool) (a8 a9 : Int) (a10 : List (Int)) (a11 : ByteArray) (a12 a13 : Int) (a14 : Bool) (a15 a16 a17 a18 a19 : Int) : Option (vc) :=
 Option.bind (F38 FUEL a1 a2 a3 a4 a5 a6 a7 a8 a9 a10 a11 a12 a13 a14 a15) fun y1 =>
 some ⟨a0, y1.q0, y1.q1, y1.q2, y1.q3, y1.q4, y1.q5, y1.q6, y1.q7, y1.q8, y1.q9, y1.q10, y1.q11, y1.q12, y1.q13, a16, a17, a18, a19, y1.q14⟩
def jil : Nat → List (TY0) → Int → Int → Int → Int → List (TY0) → Option (Int × Int × (List (TY0)))
 | 0, _, _, _, _, _, _ => none
 | n + 1, x0, x1, x2, x3, x4, x5 => bif (ilt x2 x1) then
 (bif (inb x2 (List.length x0)) then
 (Option.bind (F195 FUEL (List.getD x0 (Int.toNat x2) TZ0).1 (List.getD x0 (Int.toNat x2) TZ0).2.1 (List.getD x0 (Int.toNat x2) TZ0).2.2.1 (List.getD x0 (Int.toNat x2) TZ0).2.2.2.1 (List.getD x0 (Int.toNat x2) TZ0).2.2.2.2.1 (List.getD x0 (Int.toNat x2) TZ0).2.2.2.2.2.1 (List.getD x0 (Int.toNat x2) TZ0).2.2.2.2.2.2.1 (List.getD x0 (Int.toNat x2) TZ0).2.2.2.2.2.2.2.1 (List.getD x0 (Int.toNat x2) TZ0).2.2.2.2.2.2.2.2.1 (List.getD x0 (Int.toNat x2) TZ0).2.2.2.2.2.2.2.2.2.1 (List.getD x0 (Int.toNat x2) TZ0).2.2.2.2.2.2.2.2.2.2.1 (List.getD x0 (Int.toNat x2) TZ0).2.2.2.2.2.2.2.2.2.2.2.1 (List.getD x0 (Int.toNat x2) TZ0).2.2.2.2.2.2.2.2.2.2.2.2.1 (List.getD x0 (Int.toNat x2) TZ0).2.2.2.2.2.2.2.2.2.2.2.2.2.1 (List.getD x0 (Int.toNat x2) TZ0).2.2.2.2.2.2.2.2.2.2.2.2.2.2.1 (List.getD x0 (Int.toNat x2) TZ0).2.2.2.2.2.2.2.2.2.2.2.2.2.2.2.1 (List.getD x0 (Int.toNat x2) TZ0).2.2.2.2.2.2.2.2.2.2.2.2.2.2.2.2.1 (List.getD x0 (Int.toNat x2) TZ0).2.2.2.2.2.2.2.2.2.2.2.2.2.2.2.2.2.1 (List.getD x0 (Int.toNat x2) TZ0).2.2.2.2.2.2.2.2.2.2.2.2.2.2.2.2.2.2.1 (List.getD x0 (Int.toNat x2) TZ0).2.2.2.2.2.2.2.2.2.2.2.2.2.2.2.2.2.2.2) fun y1 =>
 bif (room (List.length x5 + List.length [(y1.q0, y1.q1, y1.q2, y1.q3, y1.q4, y1.q5, y1.q6, y1.q7, y1.q8, y1.q9, y1.q19, y1.q10, y1.q11, y1.q12, y1.q13, y1.q14, y1.q15, y1.q16, y1.q17, y1.q18)]) 176) then
 (jil n x0 x1 (iadd .i64 x2 (1)) x3 x4 (x5 ++ [(y1.q0, y1.q1, y1.q2, y1.q3, y1.q4, y1.q5, y1.q6, y1.q7, y1.q8, y1.q9, y1.q19, y1.q10, y1.q11, y1.q12, y1.q13, y1.q14, y1.q15, y1.q16, y1.q17, y1.q18)]))
 else (none))
 else (none))
 else (some (x3, x4, x5))
def F88 (n : Nat) (a0 a1 : Int) (a2 : List (TY0)) : Option (Int × Int × (List (TY0))) :=
 bif (inn (0) && ile (0) (ofN (List.length a2)) && decide ((ofN (List.length a2)) * 176 ≤ 281474976710656) && decide ((ofN (List.length a2)) ≤ 9223372036854775807)) then
 (jil n a2 (ofN (List.length a2)) (0) a0 a1 (List.replicate (Int.toNat (0)) ((0), (0), (0), (0), (0), (0), false, false, (0), (0), [], ByteArray.empty, (0), (0), false, (0), (0), (0), (0), (0))))
 else (none)
def jij : Nat → List (TY1) → Int → Int → List (TY1) → Option ((List (TY1)))
 | 0, _, _, _, _ => none
 | n + 1, x0, x1, x2, x3 => bif (ilt x2 x1) then
 (bif (inb x2 (List.length x0)) then
 (Option.bind (F38 FUEL (List.getD x0 (Int.toNat x2) TZ1).2.2.1 (List.getD x0 (Int.toNat x2) TZ1).2.2.2.1 (List.getD x0 (Int.toNat x2) TZ1).2.2.2.2.1 (List.getD x0 (Int.toNat x2) TZ1).2.2.2.2.2.1 (List.getD x0 (Int.toNat x2) TZ1).2.2.2.2.2.2.1 (List.getD x0 (Int.toNat x2) TZ1).2.2.2.2.2.2.2.1 (List.getD x0 (Int.toNat x2) TZ1).2.2.2.2.2.2.2.2.1 (List.getD x0 (Int.toNat x2) TZ1).2.2.2.2.2.2.2.2.2.1 (List.getD x0 (Int.toNat x2) TZ1).2.2.2.2.2.2.2.2.2.2.1 (List.getD x0 (Int.toNat x2) TZ1).2.2.2.2.2.2.2.2.2.2.2.1 (List.getD x0 (Int.toNat x2) TZ1).2.2.2.2.2.2.2.2.2.2.2.2.1 (List.getD x0 (Int.toNat x2) TZ1).2.2.2.2.2.2.2.2.2.2.2.2.2.1 (List.getD x0 (Int.toNat x2) TZ1).2.2.2.2.2.2.2.2.2.2.2.2.2.2.1 (List.getD x0 (Int.toNat x2) TZ1).2.2.2.2.2.2.2.2.2.2.2.2.2.2.2.1 (List.getD x0 (Int.toNat x2) TZ1).2.2.2.2.2.2.2.2.2.2.2.2.2.2.2.2) fun y1 =>
 bif (room (List.length x3 + List.length [((List.getD x0 (Int.toNat x2) TZ1).1, (List.getD x0 (Int.toNat x2) TZ1).2.1, y1.q0, y1.q1, y1.q2, y1.q3, y1.q4, y1.q5, y1.q6, y1.q7, y1.q8, y1.q14, y1.q9, y1.q10, y1.q11, y1.q12, y1.q13)]) 152) then
 (jij n x0 x1 (iadd .i64 x2 (1)) (x3 ++ [((List.getD x0 (Int.toNat x2) TZ1).1, (List.getD x0 (Int.toNat x2) TZ1).2.1, y1.q0, y1.q1, y1.q2, y1.q3, y1.q4, y1.q5, y1.q6, y1.q7, y1.q8, y1.q14, y1.q9, y1.q10, y1.q11, y1.q12, y1.q13)]))
 else (none))
 else (none))
 else (some x3)
def F89 (n : Nat) (a0 : List (TY1)) : Option ((List (TY1))) :=
 jij n a0 (ofN (List.length a0)) (0) []
structure uv where
 (q0 q1 q2 q3 q4 : Int)
 (q5 q6 : Bool)
 q7 : Int
 q8 : ByteArray
 (q9 q10 : Int)
 q11 : Bool
 (q12 q13 : Int)
 q14 : List (Int)
def F90 (_n : Nat) (a0 a1 a2 a3 a4 : Int) (a5 a6 : Bool) (a7 : Int) (a8 : ByteArray) (a9 a10 : Int) (a11 : Bool) (a12 : Int) (a13 : List (Int)) (a14 : Int) : Option (uv) :=
 bif (ieq (ofN (List.length a13)) (0)) then
 (some ⟨a0, a1, a2, a3, a4, a5, a6, a7, a8, a9, a10, a11, a12, a14, []⟩)
 else (Option.bind (F113 FUEL a13) fun y1 =>
 some ⟨a0, a1, a2, a3, a4, a5, a6, a7, a8, a9, a10, a11, a12, a14, y1⟩)
def jii : Nat → List (ByteArray × Int × Int × Bool) → Int → Int → List (ByteArray × Int × Int × Bool) → Option ((List (ByteArray × Int × Int × Bool)))
 | 0, _, _, _, _ => none
 | n + 1, x0, x1, x2, x3 => bif (ilt x2 x1) then
 (bif (inb x2 (List.length x0)) then
 (bif (room (List.length x3 + List.length [((List.getD x0 (Int.toNat x2) (ByteArray.empty, 0, 0, false)).1, (List.getD x0 (Int.toNat x2) (ByteArray.empty, 0, 0, false)).2.1, (List.getD x0 (Int.toNat x2) (ByteArray.empty, 0, 0, false)).2.2.1, (List.getD x0 (Int.toNat x2) (ByteArray.empty, 0, 0, false)).2.2.2)]) 40) then
 (jii n x0 x1 (iadd .i64 x2 (1)) (x3 ++ [((List.getD x0 (Int.toNat x2) (ByteArray.empty, 0, 0, false)).1, (List.getD x0 (Int.toNat x2) (ByteArray.empty, 0, 0, false)).2.1, (List.getD x0 (Int.toNat x2) (ByteArray.empty, 0, 0, false)).2.2.1, (List.getD x0 (Int.toNat x2) (ByteArray.empty, 0, 0, false)).2.2.2)]))
 else (none))
 else (none))
 else (some x3)
def F91 (n : Nat) (a0 : List (ByteArray × Int × Int × Bool)) : Option ((List (ByteArray × Int × Int × Bool))) :=
 bif (ieq (ofN (List.length a0)) (0)) then
 (some [])
 else (bif (inn (0) && ile (0) (ofN (List.length a0)) && decide ((ofN (List.length a0)) * 40 ≤ 281474976710656) && decide ((ofN (List.length a0)) ≤ 9223372036854775807)) then
 (jii n a0 (ofN (List.length a0)) (0) (List.replicate (Int.toNat (0)) (ByteArray.empty, (0), (0), false)))
 else (none))
structure Sx1 where
 (q0 q1 q2 q3 q4 q5 q6 q7 q8 q9 q10 q11 q12 q13 q14 q15 q16 q17 q18 q19 q20 q21 q22 q23 q24 q25 q26 q27 : Int)
 (q28 q29 : Bool)
 q30 : Int
 q31 : ByteArray
 (q32 q33 : Int)
 q34 : Bool
 (q35 q36 q37 q38 q39 q40 q41 : Int)
 (q42 q43 : Bool)
 q44 : Int
 q45 : ByteArray
 (q46 q47 : Int)
 q48 : Bool
 (q49 q50 q51 q52 q53 q54 q55 : Int)
 (q56 q57 : Bool)
 q58 : Int
 q59 : ByteArray
 (q60 q61 : Int)
 q62 : Bool
 (q63 q64 q65 : Int)
 q66 : ByteArray
 q67 : Int
 (q68 q69 : List (Int))
 q70 : List (TY0)
 q71 : List (TY1)
 (q72 q73 q74 : List (Int))
 q75 : List (ByteArray × Int × Int × Bool)
def F20 (_n : Nat) (a0 : Int) (a1 a2 : List (Int)) (a3 a4 a5 a6 a7 a8 a9 a10 a11 a12 a13 a14 a15 a16 a17 a18 a19 a20 a21 a22 : Int) (a23 : List (TY0)) (a24 : List (TY1)) (a25 a26 a27 a28 a29 a30 a31 : Int) (a32 a33 : Bool) (a34 : Int) (a35 : ByteArray) (a36 a37 : Int) (a38 : Bool) (a39 : Int) (a40 : List (Int)) (a41 a42 a43 a44 a45 a46 : Int) (a47 a48 : Bool) (a49 : Int) (a50 : ByteArray) (a51 a52 : Int) (a53 : Bool) (a54 : Int) (a55 : List (Int)) (a56 a57 a58 a59 a60 a61 : Int) (a62 a63 : Bool) (a64 : Int) (a65 : ByteArray) (a66 a67 : Int) (a68 : Bool) (a69 : Int) (a70 : List (Int)) (a71 a72 : Int) (a73 : ByteArray) (a74 : List (ByteArray × Int × Int × Bool)) (a75 : Int) : Option (Sx1) :=
 Option.bind (F87 FUEL a0 a1 a2 a3 a4 a5 a6 a7 a8 a9 a10 a11 a12 a13 a14 a15 a16 a17 a18 a19) fun y1 =>
 Option.bind (F88 FUEL a21 a22 a23) fun y2 =>
 Option.bind (F89 FUEL a24) fun y3 =>
 Option.bind (F90 FUEL a27 a28 a29 a30 a31 a32 a33 a34 a35 a36 a37 a38 a39 a40 a41) fun y4 =>
 Option.bind (F90 FUEL a42 a43 a44 a45 a46 a47 a48 a49 a50 a51 a52 a53 a54 a55 a56) fun y5 =>
 Option.bind (F90 FUEL a57 a58 a59 a60 a61 a62 a63 a64 a65 a66 a67 a68 a69 a70 a71) fun y6 =>
 Option.bind (F91 FUEL a74) fun y7 =>
 some ⟨y1.q0, y1.q1, y1.q2, y1.q3, y1.q4, y1.q5, y1.q6, y1.q7, y1.q8, y1.q9, y1.q10, y1.q11, y1.q12, y1.q13, y1.q14, y1.q15, y1.q16, y1.q17, a20, y2.1, y2.2.1, a25, a26, y4.q0, y4.q1, y4.q2, y4.q3, y4.q4, y4.q5, y4.q6, y4.q7, y4.q8, y4.q9, y4.q10, y4.q11, y4.q12, y4.q13, y5.q0, y5.q1, y5.q2, y5.q3, y5.q4, y5.q5, y5.q6, y5.q7, y5.q8, y5.q9, y5.q10, y5.q11, y5.q12, y5.q13, y6.q0, y6.q1, y6.q2, y6.q3, y6.q4, y6.q5, y6.q6, y6.q7, y6.q8, y6.q9, y6.q10, y6.q11, y6.q12, y6.q13, a72, a73, a75, y1.q18, y1.q19, y2.2.2, y3, y4.q14, y5.q14, y6.q14, y7⟩
def F71 (_n : Nat) (a0 _a1 _a2 _a3 _a4 : Int) (_a5 _a6 : Bool) (_a7 _a8 : Int) (_a9 : List (Int)) (_a10 : ByteArray) (_a11 _a12 : Int) (_a13 : Bool) (_a14 : Int) : Option (Bool) :=
 bif (ige a0 (1)) then
 (some (ile a0 (6)))
 else (some false)
def F172 (_n : Nat) (a0 : ByteArray) : Option (Bool) :=
 bif (ige (jav a0) (1)) then
 (some (ile (jav a0) (20)))
 else (some false)
def F173 (_n : Nat) (a0 : Int) : Option (Bool) :=
 bif (ige a0 (0)) then
 (some (ile a0 (1048576)))
 else (some false)
def F134 (_n : Nat) (a0 : ByteArray) (a1 a2 : Int) (_a3 : Bool) : Option (Bool) :=
 Option.bind (F172 FUEL a0) fun y1 =>
 bif y1 then
 (Option.bind (F173 FUEL a1) fun y2 =>
 bif y2 then
 (Option.bind (F173 FUEL a2) fun y3 =>
 some y3)
 else (some false))
 else (some false)
def jcm : Nat → List (Int) → Int → Int → Int → Option (Int)
 | 0, _, _, _, _ => none
 | n + 1, x0, x1, x2, x3 => bif (ilt x3 x2) then
 (bif (inb x3 (List.length x0)) then
 (bif (ieq x1 (List.getD x0 (Int.toNat x3) 0)) then
 (some x3)
 else (jcm n x0 x1 x2 (iadd .i64 x3 (1))))
 else (none))
 else (some (-1))
def F204 (n : Nat) (a0 : List (Int)) (a1 : Int) : Option (Int) :=
 jcm n a0 a1 (ofN (List.length a0)) (0)
def F193 (_n : Nat) (a0 : List (Int)) (a1 : Int) : Option (Bool) :=
 Option.bind (F204 FUEL a0 a1) fun y1 =>
 some (ige y1 (0))
def jeh : Nat → Int → List (Int) → List (Int) → Int → Int → Option (Bool)
 | 0, _, _, _, _, _ => none
 | n + 1, x0, x1, x2, x3, x4 => bif (ilt x4 x3) then
 (bif (inb x4 (List.length x2)) then
 (bif (ieq (List.getD x2 (Int.toNat x4) 0) x0) then
 (some false)
 else (bif ((inn x4) && (inbs 0 (Int.toNat x4) (List.length x1))) then
 (Option.bind (F193 FUEL (List.drop 0 (List.take (Int.toNat x4) x1)) (List.getD x2 (Int.toNat x4) 0)) fun y1 =>
 bif y1 then
 (some false)
 else (jeh n x0 x1 x2 x3 (iadd .i64 x4 (1))))
 else (none)))
 else (none))
 else (some true)
def F177 (n : Nat) (a0 : Int) (a1 : List (Int)) : Option (Bool) :=
 jeh n a0 a1 a1 (ofN (List.length a1)) (0)
def F141 (_n : Nat) (a0 _a1 a2 _a3 _a4 : Int) (_a5 _a6 : Bool) (_a7 _a8 : Int) (a9 : List (Int)) (a10 : ByteArray) (a11 a12 : Int) (a13 : Bool) (a14 : Int) : Option (Bool) :=
 bif (ieq a0 (5)) then
 (Option.bind (F134 FUEL a10 a11 a12 a13) fun y1 =>
 some y1)
 else (bif (ieq a0 (6)) then
 (Option.bind (F172 FUEL a10) fun y2 =>
 some y2)
 else (bif (ieq a0 (7)) then
 (bif (ile (ofN (List.length a9)) (3)) then
 (Option.bind (F177 FUEL a2 a9) fun y3 =>
 some y3)
 else (some false))
 else (bif (ieq a0 (11)) then
 (bif (ieq a14 (0)) then
 (some true)
 else (some (ieq a14 (200))))
 else (bif (ieq a0 (12)) then
 (bif (ieq a14 (0)) then
 (Option.bind (F134 FUEL a10 a11 a12 a13) fun y4 =>
 bif y4 then
 (some true)
 else (bif (ieq a14 (201)) then
 (some ((steq a10 ByteArray.empty) && ((ieq a11 (0)) && ((ieq a12 (0)) && ((beqb a13 false) && true)))))
 else (some false)))
 else (bif (ieq a14 (201)) then
 (some ((steq a10 ByteArray.empty) && ((ieq a11 (0)) && ((ieq a12 (0)) && ((beqb a13 false) && true)))))
 else (some false)))
 else (some true)))))
def F143 (_n : Nat) (a0 : Int) : Option (Bool) :=
 bif (ige a0 (0)) then
 (some (ilt a0 (65536)))
 else (some false)
def F145 (_n : Nat) (a0 a1 a2 a3 a4 : Int) (a5 a6 : Bool) (a7 a8 : Int) (a9 : List (Int)) (a10 : ByteArray) (a11 a12 : Int) (a13 : Bool) (a14 : Int) : Option (Int) :=
 Option.bind (F71 FUEL a0 a1 a2 a3 a4 a5 a6 a7 a8 a9 a10 a11 a12 a13 a14) fun y1 =>
 bif y1 then
 (some a2)
 else (some a3)
def F144 (_n : Nat) (a0 a1 : Int) : Option (Bool) :=
 bif (igt a1 (imul .i64 a0 (1048576))) then
 (some (ile a1 (imul .i64 (iadd .i64 a0 (1)) (1048576))))
 else (some false)
def F147 (_n : Nat) (a0 _a1 _a2 _a3 a4 : Int) (a5 a6 : Bool) (a7 a8 : Int) (a9 : ByteArray) (a10 a11 : Int) (a12 : Bool) (a13 : Int) : Option (uz) :=
 bif (ieq a0 (4)) then
 (some ⟨true, (0), (0), (0), (0), (0), false, a6, a7, a8, a9, a10, a11, a12, a13⟩)
 else (bif (ieq a0 (5)) then
 (some ⟨true, (0), (0), (0), (0), a4, a5, a6, a7, a8, ByteArray.empty, (0), (0), false, a13⟩)
 else (bif (ieq a0 (6)) then
 (some ⟨true, (0), (0), (0), (0), a4, a5, a6, a7, a8, ByteArray.empty, a10, a11, a12, a13⟩)
 else (bif (ieq a0 (7)) then
 (some ⟨false, (0), (0), (0), (0), a4, a5, a6, a7, (0), a9, a10, a11, a12, a13⟩)
 else (bif (ieq a0 (10)) then
 (some ⟨true, (0), (0), (0), (0), a4, a5, false, (0), a8, a9, a10, a11, a12, a13⟩)
 else (bif (ieq a0 (11)) then
 (some ⟨true, (0), (0), (0), (0), a4, a5, a6, a7, a8, a9, a10, a11, a12, (0)⟩)
 else (bif (ieq a0 (12)) then
 (some ⟨true, (0), (0), (0), (0), a4, a5, a6, a7, a8, ByteArray.empty, (0), (0), false, (0)⟩)
 else (some ⟨true, (0), (0), (0), (0), a4, a5, a6, a7, a8, a9, a10, a11, a12, a13⟩)))))))
def jei : Nat → List (Int) → List (Int) → Int → Int → Option (Bool)
 | 0, _, _, _, _ => none
 | n + 1, x0, x1, x2, x3 => bif (ilt x3 x2) then
 (bif (inb x3 (List.length x0)) then
 (bif (inb x3 (List.length x1)) then
 (bif (ine (List.getD x0 (Int.toNat x3) 0) (List.getD x1 (Int.toNat x3) 0)) then
 (some false)
 else (jei n x0 x1 x2 (iadd .i64 x3 (1))))
 else (none))
 else (none))
 else (some true)
def F148 (n : Nat) (a0 a1 : List (Int)) : Option (Bool) :=
 bif (ine (ofN (List.length a0)) (ofN (List.length a1))) then
 (some false)
 else (jei n a0 a1 (ofN (List.length a0)) (0))
def F146 (_n : Nat) (a0 a1 a2 a3 a4 : Int) (a5 a6 : Bool) (a7 a8 : Int) (a9 : List (Int)) (a10 : ByteArray) (a11 a12 : Int) (a13 : Bool) (a14 a15 a16 a17 a18 a19 : Int) (a20 a21 : Bool) (a22 a23 : Int) (a24 : List (Int)) (a25 : ByteArray) (a26 a27 : Int) (a28 : Bool) (a29 : Int) : Option (Bool) :=
 bif (ieq a0 a15) then
 (bif (ieq a1 a16) then
 (bif (ieq a2 a17) then
 (bif (ieq a3 a18) then
 (bif (ieq a4 a19) then
 (bif (beqb a5 a20) then
 (bif (beqb a6 a21) then
 (bif (ieq a7 a22) then
 (bif (ieq a8 a23) then
 (Option.bind (F148 FUEL a9 a24) fun y1 =>
 bif y1 then
 (bif ((steq a10 a25) && ((ieq a11 a26) && ((ieq a12 a27) && ((beqb a13 a28) && true)))) then
 (some (ieq a14 a29))
 else (some false))
 else (some false))
 else (some false))
 else (some false))
 else (some false))
 else (some false))
 else (some false))
 else (some false))
 else (some false))
 else (some false))
 else (some false)
mutual
def vq : Nat → Option (Bool)
 | 0 => none
 | _ + 1 => some false
def jdi : Nat → List (Int) → Int → Int → Int → Int → Int → Int → Int → Bool → Bool → Int → Int → List (Int) → ByteArray → Int → Int → Bool → Int → Option (Bool)
 | 0, _, _, _, _, _, _, _, _, _, _, _, _, _, _, _, _, _, _ => none
 | n + 1, x0, x1, x2, x3, x4, x5, x6, x7, x8, x9, x10, x11, x12, x13, x14, x15, x16, x17 => bif (ilt x2 x1) then
 (bif (inb x2 (List.length x0)) then
 (Option.bind (F143 FUEL (List.getD x0 (Int.toNat x2) 0)) fun y22 =>
 bif (!y22) then
 (vq n )
 else (jdi n x0 x1 (iadd .i64 x2 (1)) x3 x4 x5 x6 x7 x8 x9 x10 x11 x12 x13 x14 x15 x16 x17))
 else (none))
 else (bif (ieq x5 x6) then
 (vq n )
 else (Option.bind (F145 FUEL x3 x4 x5 x6 x7 x8 x9 x10 x11 x12 x13 x14 x15 x16 x17) fun y23 =>
 Option.bind (F144 FUEL y23 x4) fun y24 =>
 bif (!y24) then
 (vq n )
 else (Option.bind (F147 FUEL x3 x4 x5 x6 x7 x8 x9 x10 x11 x13 x14 x15 x16 x17) fun y25 =>
 bif y25.q0 then
 (Option.bind (F146 FUEL y25.q1 y25.q2 y25.q3 y25.q4 y25.q5 y25.q6 y25.q7 y25.q8 y25.q9 x12 y25.q10 y25.q11 y25.q12 y25.q13 y25.q14 (0) (0) (0) (0) (0) false false (0) (0) [] ByteArray.empty (0) (0) false (0)) fun y26 =>
 some y26)
 else (Option.bind (F146 FUEL y25.q1 y25.q2 y25.q3 y25.q4 y25.q5 y25.q6 y25.q7 y25.q8 y25.q9 [] y25.q10 y25.q11 y25.q12 y25.q13 y25.q14 (0) (0) (0) (0) (0) false false (0) (0) [] ByteArray.empty (0) (0) false (0)) fun y27 =>
 some y27))))
end
def F72 (n : Nat) (a0 a1 a2 a3 a4 : Int) (a5 a6 : Bool) (a7 a8 : Int) (a9 : List (Int)) (a10 : ByteArray) (a11 a12 : Int) (a13 : Bool) (a14 : Int) : Option (Bool) :=
 bif (ilt a0 (1)) then
 (vq n )
 else (bif (ige a0 (13)) then
 (vq n )
 else (Option.bind (F141 FUEL a0 a1 a2 a3 a4 a5 a6 a7 a8 a9 a10 a11 a12 a13 a14) fun y1 =>
 bif (!y1) then
 (vq n )
 else (Option.bind (F143 FUEL a2) fun y2 =>
 bif (!y2) then
 (vq n )
 else (Option.bind (F143 FUEL a3) fun y3 =>
 bif (!y3) then
 (vq n )
 else (bif (ieq a0 (4)) then
 (Option.bind (F143 FUEL a4) fun y4 =>
 bif (!y4) then
 (vq n )
 else (bif (ieq a2 a3) then
 (vq n )
 else (Option.bind (F145 FUEL a0 a1 a2 a3 a4 a5 a6 a7 a8 a9 a10 a11 a12 a13 a14) fun y5 =>
 Option.bind (F144 FUEL y5 a1) fun y6 =>
 bif (!y6) then
 (vq n )
 else (Option.bind (F147 FUEL a0 a1 a2 a3 a4 a5 a6 a7 a8 a10 a11 a12 a13 a14) fun y7 =>
 bif y7.q0 then
 (Option.bind (F146 FUEL y7.q1 y7.q2 y7.q3 y7.q4 y7.q5 y7.q6 y7.q7 y7.q8 y7.q9 a9 y7.q10 y7.q11 y7.q12 y7.q13 y7.q14 (0) (0) (0) (0) (0) false false (0) (0) [] ByteArray.empty (0) (0) false (0)) fun y8 =>
 some y8)
 else (Option.bind (F146 FUEL y7.q1 y7.q2 y7.q3 y7.q4 y7.q5 y7.q6 y7.q7 y7.q8 y7.q9 [] y7.q10 y7.q11 y7.q12 y7.q13 y7.q14 (0) (0) (0) (0) (0) false false (0) (0) [] ByteArray.empty (0) (0) false (0)) fun y9 =>
 some y9)))))
 else (bif (ieq a0 (10)) then
 (Option.bind (F143 FUEL a7) fun y10 =>
 bif (!y10) then
 (vq n )
 else (bif (ieq a2 a3) then
 (vq n )
 else (Option.bind (F145 FUEL a0 a1 a2 a3 a4 a5 a6 a7 a8 a9 a10 a11 a12 a13 a14) fun y11 =>
 Option.bind (F144 FUEL y11 a1) fun y12 =>
 bif (!y12) then
 (vq n )
 else (Option.bind (F147 FUEL a0 a1 a2 a3 a4 a5 a6 a7 a8 a10 a11 a12 a13 a14) fun y13 =>
 bif y13.q0 then
 (Option.bind (F146 FUEL y13.q1 y13.q2 y13.q3 y13.q4 y13.q5 y13.q6 y13.q7 y13.q8 y13.q9 a9 y13.q10 y13.q11 y13.q12 y13.q13 y13.q14 (0) (0) (0) (0) (0) false false (0) (0) [] ByteArray.empty (0) (0) false (0)) fun y14 =>
 some y14)
 else (Option.bind (F146 FUEL y13.q1 y13.q2 y13.q3 y13.q4 y13.q5 y13.q6 y13.q7 y13.q8 y13.q9 [] y13.q10 y13.q11 y13.q12 y13.q13 y13.q14 (0) (0) (0) (0) (0) false false (0) (0) [] ByteArray.empty (0) (0) false (0)) fun y15 =>
 some y15)))))
 else (bif (ieq a0 (7)) then
 (bif (ine a8 (-1)) then
 (Option.bind (F143 FUEL a8) fun y16 =>
 bif (!y16) then
 (vq n )
 else (jdi n a9 (ofN (List.length a9)) (0) a0 a1 a2 a3 a4 a5 a6 a7 a8 a9 a10 a11 a12 a13 a14))
 else (jdi n a9 (ofN (List.length a9)) (0) a0 a1 a2 a3 a4 a5 a6 a7 a8 a9 a10 a11 a12 a13 a14))
 else (bif (ieq a2 a3) then
 (vq n )
 else (Option.bind (F145 FUEL a0 a1 a2 a3 a4 a5 a6 a7 a8 a9 a10 a11 a12 a13 a14) fun y17 =>
 Option.bind (F144 FUEL y17 a1) fun y18 =>
 bif (!y18) then
 (vq n )
 else (Option.bind (F147 FUEL a0 a1 a2 a3 a4 a5 a6 a7 a8 a10 a11 a12 a13 a14) fun y19 =>
 bif y19.q0 then
 (Option.bind (F146 FUEL y19.q1 y19.q2 y19.q3 y19.q4 y19.q5 y19.q6 y19.q7 y19.q8 y19.q9 a9 y19.q10 y19.q11 y19.q12 y19.q13 y19.q14 (0) (0) (0) (0) (0) false false (0) (0) [] ByteArray.empty (0) (0) false (0)) fun y20 =>
 some y20)
 else (Option.bind (F146 FUEL y19.q1 y19.q2 y19.q3 y19.q4 y19.q5 y19.q6 y19.q7 y19.q8 y19.q9 [] y19.q10 y19.q11 y19.q12 y19.q13 y19.q14 (0) (0) (0) (0) (0) false false (0) (0) [] ByteArray.empty (0) (0) false (0)) fun y21 =>
 some y21)))))))))))
def F128 (_n : Nat) (a0 : Int) : Option (Bool) :=
 bif (ige a0 (0)) then
 (some (ilt a0 (65536)))
 else (some false)
def jco : Nat → List (Int) → List (Int) → Int → Int → Option (Bool)
 | 0, _, _, _, _ => none
 | n + 1, x0, x1, x2, x3 => bif (ilt x3 x2) then
 (bif (inb x3 (List.length x1)) then
 (Option.bind (F128 FUEL (List.getD x1 (Int.toNat x3) 0)) fun y1 =>
 bif (!y1) then
 (some false)
 else (bif (igt x3 (0)) then
 (bif (inb (isub .i64 x3 (1)) (List.length x0)) then
 (bif (ile (List.getD x1 (Int.toNat x3) 0) (List.getD x0 (Int.toNat (isub .i64 x3 (1))) 0)) then
 (some false)
 else (jco n x0 x1 x2 (iadd .i64 x3 (1))))
 else (none))
 else (jco n x0 x1 x2 (iadd .i64 x3 (1)))))
 else (none))
 else (some true)
def F129 (n : Nat) (a0 : List (Int)) : Option (Bool) :=
 bif (ilt (ofN (List.length a0)) (2)) then
 (some false)
 else (bif (igt (ofN (List.length a0)) (4)) then
 (some false)
 else (jco n a0 a0 (ofN (List.length a0)) (0)))
def F164 (_n : Nat) (a0 : Int) : Option (Int) :=
 some (bits .and .i64 a0 (65535))
def F166 (_n : Nat) (a0 : Int) : Option (Bool) :=
 bif (ige a0 (0)) then
 (some (ilt a0 (65536)))
 else (some false)
def F167 (_n : Nat) (a0 a1 : Int) : Option (Int) :=
 Option.bind (F164 FUEL a1) fun y1 =>
 Option.bind (F164 FUEL a0) fun y2 =>
 Option.bind (F164 FUEL (isub .i64 y1 y2)) fun y3 =>
 some y3
def jej : Nat → Int → List (Int) → Int → Int → Int → Bool → Option (Bool)
 | 0, _, _, _, _, _, _ => none
 | n + 1, x0, x1, x2, x3, x4, x5 => bif (ilt x3 x2) then
 (bif (inb x3 (List.length x1)) then
 (Option.bind (F166 FUEL (List.getD x1 (Int.toNat x3) 0)) fun y2 =>
 bif (!y2) then
 (some false)
 else (Option.bind (F167 FUEL x4 (List.getD x1 (Int.toNat x3) 0)) fun y3 =>
 Option.bind (F167 FUEL x4 x0) fun y4 =>
 bif (ile y3 y4) then
 (some false)
 else (jej n (List.getD x1 (Int.toNat x3) 0) x1 x2 (iadd .i64 x3 (1)) x4 x5)))
 else (none))
 else (some true)
def F130 (n : Nat) (a0 : Int) (a1 : List (Int)) : Option (Bool) :=
 bif (igt (ofN (List.length a1)) (3)) then
 (some false)
 else (Option.bind (F164 FUEL a0) fun y1 =>
 jej n y1 a1 (ofN (List.length a1)) (0) y1 false)
mutual
def jdk : Nat → Option (Bool)
 | 0 => none
 | _ + 1 => some false
def jet : Nat → Int → Int → Int → Int → Int → Int → Int → Int → Int → Int → Int → Int → Int → Int → Int → Int → Int → Int → List (Int) → List (Int) → Int → Int → Int → Int → Int → Int → Int → Int → Int → Int → Int → Int → Int → Int → Int → Int → Int → Option (Bool)
 | 0, _, _, _, _, _, _, _, _, _, _, _, _, _, _, _, _, _, _, _, _, _, _, _, _, _, _, _, _, _, _, _, _, _, _, _, _, _ => none
 | n + 1, x0, x1, x2, x3, x4, x5, x6, x7, x8, x9, x10, x11, x12, x13, x14, x15, x16, x17, x18, x19, x20, x21, x22, x23, x24, x25, x26, x27, x28, x29, x30, x31, x32, x33, x34, x35, x36 => bif (ilt x16 (16)) then
 (bif (inb x16 16) then
 (bif (ine (List.getD [x0, x1, x2, x3, x4, x5, x6, x7, x8, x9, x10, x11, x12, x13, x14, x15] (Int.toNat x16) 0) (-1)) then
 (Option.bind (F128 FUEL (List.getD [x0, x1, x2, x3, x4, x5, x6, x7, x8, x9, x10, x11, x12, x13, x14, x15] (Int.toNat x16) 0)) fun y5 =>
 bif (!y5) then
 (jdk n )
 else (bif (ieq (List.getD [x0, x1, x2, x3, x4, x5, x6, x7, x8, x9, x10, x11, x12, x13, x14, x15] (Int.toNat x16) 0) x17) then
 (jdk n )
 else (jet n x0 x1 x2 x3 x4 x5 x6 x7 x8 x9 x10 x11 x12 x13 x14 x15 (iadd .i64 x16 (1)) x17 x18 x19 x20 x21 x22 x23 x24 x25 x26 x27 x28 x29 x30 x31 x32 x33 x34 x35 x36)))
 else (jet n x0 x1 x2 x3 x4 x5 x6 x7 x8 x9 x10 x11 x12 x13 x14 x15 (iadd .i64 x16 (1)) x17 x18 x19 x20 x21 x22 x23 x24 x25 x26 x27 x28 x29 x30 x31 x32 x33 x34 x35 x36))
 else (none))
 else (some true)
end
def F53 (n : Nat) (a0 : Int) (a1 a2 : List (Int)) (a3 a4 a5 a6 a7 a8 a9 a10 a11 a12 a13 a14 a15 a16 a17 a18 a19 : Int) : Option (Bool) :=
 Option.bind (F128 FUEL a0) fun y1 =>
 bif (!y1) then
 (jdk n )
 else (Option.bind (F129 FUEL a1) fun y2 =>
 bif (!y2) then
 (jdk n )
 else (Option.bind (F130 FUEL a0 a2) fun y3 =>
 bif (!y3) then
 (jdk n )
 else (bif (ine a3 (-1)) then
 (Option.bind (F128 FUEL a3) fun y4 =>
 bif (!y4) then
 (jdk n )
 else (bif (ieq a3 a0) then
 (jdk n )
 else (jet n a4 a5 a6 a7 a8 a9 a10 a11 a12 a13 a14 a15 a16 a17 a18 a19 (0) a0 a1 a2 a3 a4 a5 a6 a7 a8 a9 a10 a11 a12 a13 a14 a15 a16 a17 a18 a19)))
 else (jet n a4 a5 a6 a7 a8 a9 a10 a11 a12 a13 a14 a15 a16 a17 a18 a19 (0) a0 a1 a2 a3 a4 a5 a6 a7 a8 a9 a10 a11 a12 a13 a14 a15 a16 a17 a18 a19))))
def jhh : Nat → Option (Int × Int)
 | 0 => none
 | _ + 1 => some ((0), (2))
def F169 (n : Nat) (a0 a1 : Int) : Option (Int × Int) :=
 Option.bind (F143 FUEL a0) fun y1 =>
 bif (!y1) then
 (jhh n )
 else (bif (ilt a1 (1)) then
 (jhh n )
 else (bif (igt a1 (1048576)) then
 (jhh n )
 else (some ((iadd .i64 (imul .i64 a0 (1048576)) a1), (0)))))
def F170 (_n : Nat) (a0 : Int) : Option (Bool) :=
 bif (ige a0 (0)) then
 (some (ile a0 (1099511627776)))
 else (some false)
def F132 (_n : Nat) (a0 a1 : Int) (_a2 : List (TY0)) (a3 a4 a5 a6 a7 a8 : Int) (a9 a10 : Bool) (a11 a12 : Int) (a13 : List (Int)) (a14 : ByteArray) (a15 a16 : Int) (a17 : Bool) (a18 _a19 _a20 a21 a22 : Int) : Option (Bool) :=
 Option.bind (F169 FUEL a0 (1)) fun y1 =>
 bif (ine y1.2 (0)) then
 (some false)
 else (bif (ilt a3 y1.1) then
 (some false)
 else (bif (ige a3 (iadd .i64 y1.1 a1)) then
 (some false)
 else (bif (ieq a5 a3) then
 (bif (ieq a6 a0) then
 (Option.bind (F71 FUEL a4 a5 a6 a7 a8 a9 a10 a11 a12 a13 a14 a15 a16 a17 a18) fun y2 =>
 bif y2 then
 (Option.bind (F72 FUEL a4 a5 a6 a7 a8 a9 a10 a11 a12 a13 a14 a15 a16 a17 a18) fun y3 =>
 bif y3 then
 (bif (ige a22 (1)) then
 (bif (ile a22 (3)) then
 (Option.bind (F170 FUEL a21) fun y4 =>
 some y4)
 else (some false))
 else (some false))
 else (some false))
 else (some false))
 else (some false))
 else (some false))))
mutual
def jdj : Nat → Option (Bool)
 | 0 => none
 | _ + 1 => some false
def jit : Nat → Int → List (TY0) → Int → Int → Int → Int → List (TY0) → Option (Bool)
 | 0, _, _, _, _, _, _, _ => none
 | n + 1, x0, x1, x2, x3, x4, x5, x6 => bif (ilt x3 x2) then
 (bif (inb x3 (List.length x1)) then
 (bif (ile (List.getD x1 (Int.toNat x3) TZ0).1 x0) then
 (jdj n )
 else (Option.bind (F132 FUEL x4 x5 x6 (List.getD x1 (Int.toNat x3) TZ0).1 (List.getD x1 (Int.toNat x3) TZ0).2.1 (List.getD x1 (Int.toNat x3) TZ0).2.2.1 (List.getD x1 (Int.toNat x3) TZ0).2.2.2.1 (List.getD x1 (Int.toNat x3) TZ0).2.2.2.2.1 (List.getD x1 (Int.toNat x3) TZ0).2.2.2.2.2.1 (List.getD x1 (Int.toNat x3) TZ0).2.2.2.2.2.2.1 (List.getD x1 (Int.toNat x3) TZ0).2.2.2.2.2.2.2.1 (List.getD x1 (Int.toNat x3) TZ0).2.2.2.2.2.2.2.2.1 (List.getD x1 (Int.toNat x3) TZ0).2.2.2.2.2.2.2.2.2.1 (List.getD x1 (Int.toNat x3) TZ0).2.2.2.2.2.2.2.2.2.2.1 (List.getD x1 (Int.toNat x3) TZ0).2.2.2.2.2.2.2.2.2.2.2.1 (List.getD x1 (Int.toNat x3) TZ0).2.2.2.2.2.2.2.2.2.2.2.2.1 (List.getD x1 (Int.toNat x3) TZ0).2.2.2.2.2.2.2.2.2.2.2.2.2.1 (List.getD x1 (Int.toNat x3) TZ0).2.2.2.2.2.2.2.2.2.2.2.2.2.2.1 (List.getD x1 (Int.toNat x3) TZ0).2.2.2.2.2.2.2.2.2.2.2.2.2.2.2.1 (List.getD x1 (Int.toNat x3) TZ0).2.2.2.2.2.2.2.2.2.2.2.2.2.2.2.2.1 (List.getD x1 (Int.toNat x3) TZ0).2.2.2.2.2.2.2.2.2.2.2.2.2.2.2.2.2.1 (List.getD x1 (Int.toNat x3) TZ0).2.2.2.2.2.2.2.2.2.2.2.2.2.2.2.2.2.2.1 (List.getD x1 (Int.toNat x3) TZ0).2.2.2.2.2.2.2.2.2.2.2.2.2.2.2.2.2.2.2) fun y1 =>
 bif (!y1) then
 (jdj n )
 else (jit n (List.getD x1 (Int.toNat x3) TZ0).1 x1 x2 (iadd .i64 x3 (1)) x4 x5 x6)))
 else (none))
 else (some true)
end
def F55 (n : Nat) (a0 a1 : Int) (a2 : List (TY0)) : Option (Bool) :=
 bif (ilt a0 (0)) then
 (jdj n )
 else (bif (ige a0 (65536)) then
 (jdj n )
 else (bif (ilt a1 (0)) then
 (jdj n )
 else (bif (igt a1 (1048576)) then
 (jdj n )
 else (bif (igt (ofN (List.length a2)) (16)) then
 (jdj n )
 else (jit n (0) a2 (ofN (List.length a2)) (0) a0 a1 a2)))))
def F57 (_n : Nat) (a0 a1 : Int) : Option (Bool) :=
 bif (ieq a0 (0)) then
 (some (ieq a1 (0)))
 else (bif (ilt a0 (4)) then
 (bif (ige a1 (0)) then
 (some (ilt a1 (65536)))
 else (some false))
 else (some false))
def jhc : Nat → List (ByteArray × Int × Int × Bool) → Int → Int → List (ByteArray × Int × Int × Bool) → Bool → Option (Bool)
 | 0, _, _, _, _, _ => none
 | n + 1, x0, x1, x2, x3, x4 => bif (ilt x2 x1) then
 (bif (inb x2 (List.length x0)) then
 (Option.bind (F134 FUEL (List.getD x0 (Int.toNat x2) (ByteArray.empty, 0, 0, false)).1 (List.getD x0 (Int.toNat x2) (ByteArray.empty, 0, 0, false)).2.1 (List.getD x0 (Int.toNat x2) (ByteArray.empty, 0, 0, false)).2.2.1 (List.getD x0 (Int.toNat x2) (ByteArray.empty, 0, 0, false)).2.2.2) fun y1 =>
 bif (!y1) then
 (some false)
 else (bif (igt x2 (0)) then
 (bif (inb (isub .i64 x2 (1)) (List.length x3)) then
 (bif (stge (List.getD x3 (Int.toNat (isub .i64 x2 (1))) (ByteArray.empty, 0, 0, false)).1 (List.getD x0 (Int.toNat x2) (ByteArray.empty, 0, 0, false)).1) then
 (some false)
 else (jhc n x0 x1 (iadd .i64 x2 (1)) x3 x4))
 else (none))
 else (jhc n x0 x1 (iadd .i64 x2 (1)) x3 x4)))
 else (none))
 else (some true)
def F59 (n : Nat) (a0 : List (ByteArray × Int × Int × Bool)) : Option (Bool) :=
 bif (igt (ofN (List.length a0)) (24)) then
 (some false)
 else (jhc n a0 (ofN (List.length a0)) (0) a0 false)
def F110 (_n : Nat) (a0 a1 : Int) : Option (Int × Int) :=
 some (a0, a1)
def jcp : Nat → List (TY1) → Int → Int → Int → Int → Option (Int)
 | 0, _, _, _, _, _ => none
 | n + 1, x0, x1, x2, x3, x4 => bif (ilt x2 x1) then
 (bif (inb x2 (List.length x0)) then
 (bif (ieq (List.getD x0 (Int.toNat x2) TZ1).1 x3) then
 (bif (ieq (List.getD x0 (Int.toNat x2) TZ1).2.1 x4) then
 (some x2)
 else (jcp n x0 x1 (iadd .i64 x2 (1)) x3 x4))
 else (jcp n x0 x1 (iadd .i64 x2 (1)) x3 x4))
 else (none))
 else (some (-1))
def F109 (n : Nat) (a0 : List (TY1)) (a1 a2 : Int) : Option (Int) :=
 jcp n a0 (ofN (List.length a0)) (0) a1 a2
def jis : Nat → List (TY1) → Int → Int → List (TY1) → Bool → Option (Bool)
 | 0, _, _, _, _, _ => none
 | n + 1, x0, x1, x2, x3, x4 => bif (ilt x2 x1) then
 (bif (inb x2 (List.length x0)) then
 (Option.bind (F72 FUEL (List.getD x0 (Int.toNat x2) TZ1).2.2.1 (List.getD x0 (Int.toNat x2) TZ1).2.2.2.1 (List.getD x0 (Int.toNat x2) TZ1).2.2.2.2.1 (List.getD x0 (Int.toNat x2) TZ1).2.2.2.2.2.1 (List.getD x0 (Int.toNat x2) TZ1).2.2.2.2.2.2.1 (List.getD x0 (Int.toNat x2) TZ1).2.2.2.2.2.2.2.1 (List.getD x0 (Int.toNat x2) TZ1).2.2.2.2.2.2.2.2.1 (List.getD x0 (Int.toNat x2) TZ1).2.2.2.2.2.2.2.2.2.1 (List.getD x0 (Int.toNat x2) TZ1).2.2.2.2.2.2.2.2.2.2.1 (List.getD x0 (Int.toNat x2) TZ1).2.2.2.2.2.2.2.2.2.2.2.1 (List.getD x0 (Int.toNat x2) TZ1).2.2.2.2.2.2.2.2.2.2.2.2.1 (List.getD x0 (Int.toNat x2) TZ1).2.2.2.2.2.2.2.2.2.2.2.2.2.1 (List.getD x0 (Int.toNat x2) TZ1).2.2.2.2.2.2.2.2.2.2.2.2.2.2.1 (List.getD x0 (Int.toNat x2) TZ1).2.2.2.2.2.2.2.2.2.2.2.2.2.2.2.1 (List.getD x0 (Int.toNat x2) TZ1).2.2.2.2.2.2.2.2.2.2.2.2.2.2.2.2) fun y1 =>
 bif (!y1) then
 (some false)
 else (Option.bind (F71 FUEL (List.getD x0 (Int.toNat x2) TZ1).2.2.1 (List.getD x0 (Int.toNat x2) TZ1).2.2.2.1 (List.getD x0 (Int.toNat x2) TZ1).2.2.2.2.1 (List.getD x0 (Int.toNat x2) TZ1).2.2.2.2.2.1 (List.getD x0 (Int.toNat x2) TZ1).2.2.2.2.2.2.1 (List.getD x0 (Int.toNat x2) TZ1).2.2.2.2.2.2.2.1 (List.getD x0 (Int.toNat x2) TZ1).2.2.2.2.2.2.2.2.1 (List.getD x0 (Int.toNat x2) TZ1).2.2.2.2.2.2.2.2.2.1 (List.getD x0 (Int.toNat x2) TZ1).2.2.2.2.2.2.2.2.2.2.1 (List.getD x0 (Int.toNat x2) TZ1).2.2.2.2.2.2.2.2.2.2.2.1 (List.getD x0 (Int.toNat x2) TZ1).2.2.2.2.2.2.2.2.2.2.2.2.1 (List.getD x0 (Int.toNat x2) TZ1).2.2.2.2.2.2.2.2.2.2.2.2.2.1 (List.getD x0 (Int.toNat x2) TZ1).2.2.2.2.2.2.2.2.2.2.2.2.2.2.1 (List.getD x0 (Int.toNat x2) TZ1).2.2.2.2.2.2.2.2.2.2.2.2.2.2.2.1 (List.getD x0 (Int.toNat x2) TZ1).2.2.2.2.2.2.2.2.2.2.2.2.2.2.2.2) fun y2 =>
 bif y2 then
 (some false)
 else (bif (ine (List.getD x0 (Int.toNat x2) TZ1).2.2.2.2.2.1 (List.getD x0 (Int.toNat x2) TZ1).1) then
 (some false)
 else (bif (ine (List.getD x0 (Int.toNat x2) TZ1).2.2.2.1 (List.getD x0 (Int.toNat x2) TZ1).2.1) then
 (some false)
 else (bif ((inn x2) && (inbs 0 (Int.toNat x2) (List.length x3))) then
 (Option.bind (F110 FUEL (List.getD x0 (Int.toNat x2) TZ1).1 (List.getD x0 (Int.toNat x2) TZ1).2.1) fun y3 =>
 Option.bind (F109 FUEL (List.drop 0 (List.take (Int.toNat x2) x3)) y3.1 y3.2) fun y4 =>
 bif (ige y4 (0)) then
 (some false)
 else (jis n x0 x1 (iadd .i64 x2 (1)) x3 x4))
 else (none))))))
 else (none))
 else (some true)
def F61 (n : Nat) (a0 : List (TY1)) : Option (Bool) :=
 bif (igt (ofN (List.length a0)) (40)) then
 (some false)
 else (jis n a0 (ofN (List.length a0)) (0) a0 false)
def jhi : Nat → List (TY1) → Int → Int → Int → List (Int) → List (Int) → Int → Int → Int → Int → Int → Int → Int → Int → Int → Int → Int → Int → Int → Int → Int → Int → Int → Int → Int → Int → List (TY0) → List (TY1) → Int → Int → Int → Int → Int → Int → Int → Bool → Bool → Int → ByteArray → Int → Int → Bool → Int → List (Int) → Int → Int → Int → Int → Int → Int → Bool → Bool → Int → ByteArray → Int → Int → Bool → Int → List (Int) → Int → Int → Int → Int → Int → Int → Bool → Bool → Int → ByteArray → Int → Int → Bool → Int → List (Int) → Int → Int → ByteArray → List (ByteArray × Int × Int × Bool) → Int → Bool → Option (Bool)
 | 0, _, _, _, _, _, _, _, _, _, _, _, _, _, _, _, _, _, _, _, _, _, _, _, _, _, _, _, _, _, _, _, _, _, _, _, _, _, _, _, _, _, _, _, _, _, _, _, _, _, _, _, _, _, _, _, _, _, _, _, _, _, _, _, _, _, _, _, _, _, _, _, _, _, _, _, _, _, _, _, _ => none
 | n + 1, x0, x1, x2, x3, x4, x5, x6, x7, x8, x9, x10, x11, x12, x13, x14, x15, x16, x17, x18, x19, x20, x21, x22, x23, x24, x25, x26, x27, x28, x29, x30, x31, x32, x33, x34, x35, x36, x37, x38, x39, x40, x41, x42, x43, x44, x45, x46, x47, x48, x49, x50, x51, x52, x53, x54, x55, x56, x57, x58, x59, x60, x61, x62, x63, x64, x65, x66, x67, x68, x69, x70, x71, x72, x73, x74, x75, x76, x77, x78, x79 => bif (ilt x2 x1) then
 (bif (inb x2 (List.length x0)) then
 (bif (ine (List.getD x0 (Int.toNat x2) TZ1).2.2.2.2.1 x3) then
 (bif (!(!(ige x2 (0)))) then
 (some false)
 else (some true))
 else (jhi n x0 x1 (iadd .i64 x2 (1)) x3 x4 x5 x6 x7 x8 x9 x10 x11 x12 x13 x14 x15 x16 x17 x18 x19 x20 x21 x22 x23 x24 x25 x26 x27 x28 x29 x30 x31 x32 x33 x34 x35 x36 x37 x38 x39 x40 x41 x42 x43 x44 x45 x46 x47 x48 x49 x50 x51 x52 x53 x54 x55 x56 x57 x58 x59 x60 x61 x62 x63 x64 x65 x66 x67 x68 x69 x70 x71 x72 x73 x74 x75 x76 x77 x78 x79))
 else (none))
 else (some true)
def F15 (n : Nat) (a0 : Int) (a1 a2 : List (Int)) (a3 a4 a5 a6 a7 a8 a9 a10 a11 a12 a13 a14 a15 a16 a17 a18 a19 a20 a21 a22 : Int) (a23 : List (TY0)) (a24 : List (TY1)) (a25 a26 a27 a28 a29 a30 a31 : Int) (a32 a33 : Bool) (a34 : Int) (a35 : ByteArray) (a36 a37 : Int) (a38 : Bool) (a39 : Int) (a40 : List (Int)) (a41 a42 a43 a44 a45 a46 : Int) (a47 a48 : Bool) (a49 : Int) (a50 : ByteArray) (a51 a52 : Int) (a53 : Bool) (a54 : Int) (a55 : List (Int)) (a56 a57 a58 a59 a60 a61 : Int) (a62 a63 : Bool) (a64 : Int) (a65 : ByteArray) (a66 a67 : Int) (a68 : Bool) (a69 : Int) (a70 : List (Int)) (a71 a72 : Int) (a73 : ByteArray) (a74 : List (ByteArray × Int × Int × Bool)) (a75 : Int) : Option (Bool) :=
 bif (ige a20 (0)) then
 (bif (!(ile a20 (1099511627776))) then
 (some false)
 else (bif (!(ige a75 (0))) then
 (some false)
 else (bif (ige a72 (0)) then
 (bif (!(ilt a72 (16))) then
 (some false)
 else (Option.bind (F53 FUEL a0 a1 a2 a3 a4 a5 a6 a7 a8 a9 a10 a11 a12 a13 a14 a15 a16 a17 a18 a19) fun y1 =>
 bif (!y1) then
 (some false)
 else (bif (ieq a21 a0) then
 (Option.bind (F55 FUEL a21 a22 a23) fun y2 =>
 bif (!y2) then
 (some false)
 else (Option.bind (F57 FUEL a25 a26) fun y3 =>
 bif (!y3) then
 (some false)
 else (Option.bind (F59 FUEL a74) fun y4 =>
 bif (!y4) then
 (some false)
 else (Option.bind (F61 FUEL a24) fun y5 =>
 bif (!y5) then
 (some false)
 else (jhi n a24 (ofN (List.length a24)) (0) a0 a1 a2 a3 a4 a5 a6 a7 a8 a9 a10 a11 a12 a13 a14 a15 a16 a17 a18 a19 a20 a21 a22 a23 a24 a25 a26 a27 a28 a29 a30 a31 a32 a33 a34 a35 a36 a37 a38 a39 a40 a41 a42 a43 a44 a45 a46 a47 a48 a49 a50 a51 a52 a53 a54 a55 a56 a57 a58 a59 a60 a61 a62 a63 a64 a65 a66 a67 a68 a69 a70 a71 a72 a73 a74 a75 false)))))
 else (some false))))
 else (some false))))
 else (some false)
def F17 (_n : Nat) (a0 : Int) (a1 a2 : List (Int)) (a3 a4 a5 a6 a7 a8 a9 a10 a11 a12 a13 a14 a15 a16 a17 a18 a19 a20 a21 a22 : Int) (a23 : List (TY0)) (a24 : List (TY1)) (a25 a26 a27 a28 a29 a30 a31 : Int) (a32 a33 : Bool) (a34 : Int) (a35 : ByteArray) (a36 a37 : Int) (a38 : Bool) (a39 : Int) (a40 : List (Int)) (a41 a42 a43 a44 a45 a46 : Int) (a47 a48 : Bool) (a49 : Int) (a50 : ByteArray) (a51 a52 : Int) (a53 : Bool) (a54 : Int) (a55 : List (Int)) (a56 a57 a58 a59 a60 a61 : Int) (a62 a63 : Bool) (a64 : Int) (a65 : ByteArray) (a66 a67 : Int) (a68 : Bool) (a69 : Int) (a70 : List (Int)) (a71 a72 : Int) (a73 : ByteArray) (a74 : List (ByteArray × Int × Int × Bool)) (a75 a76 a77 a78 a79 a80 : Int) (a81 a82 : Bool) (a83 a84 : Int) (a85 : List (Int)) (a86 : ByteArray) (a87 a88 : Int) (a89 : Bool) (a90 : Int) : Option (Bool) :=
 Option.bind (F71 FUEL a76 a77 a78 a79 a80 a81 a82 a83 a84 a85 a86 a87 a88 a89 a90) fun y1 =>
 bif y1 then
 (Option.bind (F72 FUEL a76 a77 a78 a79 a80 a81 a82 a83 a84 a85 a86 a87 a88 a89 a90) fun y2 =>
 bif y2 then
 (bif (ieq a79 a0) then
 (Option.bind (F15 FUEL a0 a1 a2 a3 a4 a5 a6 a7 a8 a9 a10 a11 a12 a13 a14 a15 a16 a17 a18 a19 a20 a21 a22 a23 a24 a25 a26 a27 a28 a29 a30 a31 a32 a33 a34 a35 a36 a37 a38 a39 a40 a41 a42 a43 a44 a45 a46 a47 a48 a49 a50 a51 a52 a53 a54 a55 a56 a57 a58 a59 a60 a61 a62 a63 a64 a65 a66 a67 a68 a69 a70 a71 a72 a73 a74 a75) fun y3 =>
 some y3)
 else (some false))
 else (some false))
 else (some false)
structure qp where
 (q0 q1 q2 q3 q4 : Int)
 (q5 q6 : Bool)
 (q7 q8 : Int)
 q9 : ByteArray
 (q10 q11 : Int)
 q12 : Bool
 q13 : Int
 q14 : Bool
 q15 : List (Int)
def F35 (_n : Nat) (a0 : List (TY1)) (a1 a2 : Int) : Option (qp) :=
 Option.bind (F110 FUEL a1 a2) fun y1 =>
 Option.bind (F109 FUEL a0 y1.1 y1.2) fun y2 =>
 bif (ilt y2 (0)) then
 (some ⟨(0), (0), (0), (0), (0), false, false, (0), (0), ByteArray.empty, (0), (0), false, (0), false, []⟩)
 else (bif (inb y2 (List.length a0)) then
 (Option.bind (F38 FUEL (List.getD a0 (Int.toNat y2) TZ1).2.2.1 (List.getD a0 (Int.toNat y2) TZ1).2.2.2.1 (List.getD a0 (Int.toNat y2) TZ1).2.2.2.2.1 (List.getD a0 (Int.toNat y2) TZ1).2.2.2.2.2.1 (List.getD a0 (Int.toNat y2) TZ1).2.2.2.2.2.2.1 (List.getD a0 (Int.toNat y2) TZ1).2.2.2.2.2.2.2.1 (List.getD a0 (Int.toNat y2) TZ1).2.2.2.2.2.2.2.2.1 (List.getD a0 (Int.toNat y2) TZ1).2.2.2.2.2.2.2.2.2.1 (List.getD a0 (Int.toNat y2) TZ1).2.2.2.2.2.2.2.2.2.2.1 (List.getD a0 (Int.toNat y2) TZ1).2.2.2.2.2.2.2.2.2.2.2.1 (List.getD a0 (Int.toNat y2) TZ1).2.2.2.2.2.2.2.2.2.2.2.2.1 (List.getD a0 (Int.toNat y2) TZ1).2.2.2.2.2.2.2.2.2.2.2.2.2.1 (List.getD a0 (Int.toNat y2) TZ1).2.2.2.2.2.2.2.2.2.2.2.2.2.2.1 (List.getD a0 (Int.toNat y2) TZ1).2.2.2.2.2.2.2.2.2.2.2.2.2.2.2.1 (List.getD a0 (Int.toNat y2) TZ1).2.2.2.2.2.2.2.2.2.2.2.2.2.2.2.2) fun y3 =>
 some ⟨y3.q0, y3.q1, y3.q2, y3.q3, y3.q4, y3.q5, y3.q6, y3.q7, y3.q8, y3.q9, y3.q10, y3.q11, y3.q12, y3.q13, true, y3.q14⟩)
 else (none))
def F111 (_n : Nat) (a0 a1 a2 a3 a4 : Int) (a5 a6 : Bool) (a7 a8 : Int) (a9 : List (Int)) (a10 : ByteArray) (a11 a12 : Int) (a13 : Bool) (a14 : Int) : Option (qe) :=
 Option.bind (F71 FUEL a0 a1 a2 a3 a4 a5 a6 a7 a8 a9 a10 a11 a12 a13 a14) fun y1 =>
 bif (!y1) then
 (some ⟨(0), (0), (0), (0), (0), false, false, (0), (0), ByteArray.empty, (0), (0), false, (0)⟩)
 else (some ⟨(iadd .u8 a0 (6)), a1, a3, a2, (0), false, false, (0), (0), ByteArray.empty, (0), (0), false, (0)⟩)
def F182 (_n : Nat) (a0 : Int) : Option (Bool) :=
 bif (ige a0 (0)) then
 (some (ilt a0 (65536)))
 else (some false)
def F183 (_n : Nat) (a0 a1 a2 : Int) : Option (Bool) :=
 Option.bind (F167 FUEL a0 a1) fun y1 =>
 Option.bind (F167 FUEL a0 a2) fun y2 =>
 bif (ieq y2 (0)) then
 (some (igt y1 (0)))
 else (bif (igt y1 (0)) then
 (some (ilt y1 y2))
 else (some false))
mutual
def jzc : Nat → Int → Int → Int → Int → Int → Int → Int → Int → Int → Int → Int → Int → Int → Int → Int → Int → Int → Int → List (Int) → List (Int) → Option (wx)
 | 0, _, _, _, _, _, _, _, _, _, _, _, _, _, _, _, _, _, _, _, _ => none
 | _ + 1, x0, x1, x2, x3, x4, x5, x6, x7, x8, x9, x10, x11, x12, x13, x14, x15, x16, x17, x18, x19 => some ⟨x0, x1, x2, x3, x4, x5, x6, x7, x8, x9, x10, x11, x12, x13, x14, x15, x16, x17, x18, x19⟩
def zn : Nat → List (Int) → Int → Int → Int → Int → Int → Int → Int → Int → Int → Int → Int → Int → Int → Int → Int → Int → Int → Int → Int → Int → List (Int) → List (Int) → Option (wx)
 | 0, _, _, _, _, _, _, _, _, _, _, _, _, _, _, _, _, _, _, _, _, _, _, _ => none
 | n + 1, x0, x1, x2, x3, x4, x5, x6, x7, x8, x9, x10, x11, x12, x13, x14, x15, x16, x17, x18, x19, x20, x21, x22 => bif (ilt x2 x1) then
 (bif (inb x2 (List.length x0)) then
 (Option.bind (F182 FUEL (List.getD x0 (Int.toNat x2) 0)) fun y3 =>
 bif (!y3) then
 (zn n x0 x1 (iadd .i64 x2 (1)) x3 x4 x5 x6 x7 x8 x9 x10 x11 x12 x13 x14 x15 x16 x17 x18 x19 x20 x21 x22)
 else (bif (ieq (List.getD x0 (Int.toNat x2) 0) x3) then
 (zn n x0 x1 (iadd .i64 x2 (1)) x3 x4 x5 x6 x7 x8 x9 x10 x11 x12 x13 x14 x15 x16 x17 x18 x19 x20 x21 x22)
 else (bif (ieq x4 (-1)) then
 (zn n x0 x1 (iadd .i64 x2 (1)) x3 (List.getD x0 (Int.toNat x2) 0) x5 x6 x7 x8 x9 x10 x11 x12 x13 x14 x15 x16 x17 x18 x19 x20 x21 x22)
 else (Option.bind (F183 FUEL x4 (List.getD x0 (Int.toNat x2) 0) x3) fun y4 =>
 bif y4 then
 (zn n x0 x1 (iadd .i64 x2 (1)) x3 (List.getD x0 (Int.toNat x2) 0) x5 x6 x7 x8 x9 x10 x11 x12 x13 x14 x15 x16 x17 x18 x19 x20 x21 x22)
 else (zn n x0 x1 (iadd .i64 x2 (1)) x3 x4 x5 x6 x7 x8 x9 x10 x11 x12 x13 x14 x15 x16 x17 x18 x19 x20 x21 x22)))))
 else (none))
 else (some ⟨x3, x4, x5, x6, x7, x8, x9, x10, x11, x12, x13, x14, x15, x16, x17, x18, x19, x20, x21, x22⟩)
end
def F116 (n : Nat) (a0 : Int) (a1 a2 : List (Int)) (a3 a4 a5 a6 a7 a8 a9 a10 a11 a12 a13 a14 a15 a16 a17 a18 a19 : Int) (a20 : List (Int)) : Option (wx) :=
 Option.bind (F87 FUEL a0 a1 a2 a3 a4 a5 a6 a7 a8 a9 a10 a11 a12 a13 a14 a15 a16 a17 a18 a19) fun y1 =>
 Option.bind (F53 FUEL a0 a1 a2 a3 a4 a5 a6 a7 a8 a9 a10 a11 a12 a13 a14 a15 a16 a17 a18 a19) fun y2 =>
 bif (!y2) then
 (jzc n y1.q0 y1.q1 y1.q2 y1.q3 y1.q4 y1.q5 y1.q6 y1.q7 y1.q8 y1.q9 y1.q10 y1.q11 y1.q12 y1.q13 y1.q14 y1.q15 y1.q16 y1.q17 y1.q18 y1.q19)
 else (zn n a20 (ofN (List.length a20)) (0) y1.q0 y1.q1 y1.q2 y1.q3 y1.q4 y1.q5 y1.q6 y1.q7 y1.q8 y1.q9 y1.q10 y1.q11 y1.q12 y1.q13 y1.q14 y1.q15 y1.q16 y1.q17 y1.q18 y1.q19)
def jpf : Nat → List (Int) → Int → Bool → Option (Int × Bool)
 | 0, _, _, _ => none
 | _ + 1, x0, x1, _ => bif (ilt (0) x1) then
 (bif (inb (0) (List.length x0)) then
 (some ((List.getD x0 (Int.toNat (0)) 0), true))
 else (none))
 else (some ((0), false))
def F196 (n : Nat) (a0 : List (Int)) : Option (Int × Bool) :=
 jpf n a0 (ofN (List.length a0)) false
def jag : Nat → Int → List (Int) → Int → Int → Int → List (Int) → List (Int) → Int → Int → Int → Int → Int → Int → Int → Int → Int → Int → Int → Int → Int → Int → Int → Int → Int → Option (Int)
 | 0, _, _, _, _, _, _, _, _, _, _, _, _, _, _, _, _, _, _, _, _, _, _, _, _ => none
 | n + 1, x0, x1, x2, x3, x4, x5, x6, x7, x8, x9, x10, x11, x12, x13, x14, x15, x16, x17, x18, x19, x20, x21, x22, x23 => bif (ilt x3 x2) then
 (bif (inb x3 (List.length x1)) then
 (bif (ine (List.getD x1 (Int.toNat x3) 0) x4) then
 (bif (ilt x0 (0)) then
 (jag n (List.getD x1 (Int.toNat x3) 0) x1 x2 (iadd .i64 x3 (1)) x4 x5 x6 x7 x8 x9 x10 x11 x12 x13 x14 x15 x16 x17 x18 x19 x20 x21 x22 x23)
 else (Option.bind (F167 FUEL x4 (List.getD x1 (Int.toNat x3) 0)) fun y1 =>
 Option.bind (F167 FUEL x4 x0) fun y2 =>
 bif (ilt y1 y2) then
 (jag n (List.getD x1 (Int.toNat x3) 0) x1 x2 (iadd .i64 x3 (1)) x4 x5 x6 x7 x8 x9 x10 x11 x12 x13 x14 x15 x16 x17 x18 x19 x20 x21 x22 x23)
 else (jag n x0 x1 x2 (iadd .i64 x3 (1)) x4 x5 x6 x7 x8 x9 x10 x11 x12 x13 x14 x15 x16 x17 x18 x19 x20 x21 x22 x23)))
 else (jag n x0 x1 x2 (iadd .i64 x3 (1)) x4 x5 x6 x7 x8 x9 x10 x11 x12 x13 x14 x15 x16 x17 x18 x19 x20 x21 x22 x23))
 else (none))
 else (some x0)
def F197 (n : Nat) (a0 : Int) (a1 a2 : List (Int)) (a3 a4 a5 a6 a7 a8 a9 a10 a11 a12 a13 a14 a15 a16 a17 a18 a19 : Int) : Option (Int) :=
 jag n (-1) a1 (ofN (List.length a1)) (0) a0 a1 a2 a3 a4 a5 a6 a7 a8 a9 a10 a11 a12 a13 a14 a15 a16 a17 a18 a19
def F185 (_n : Nat) (a0 : Int) (a1 a2 : List (Int)) (a3 a4 a5 a6 a7 a8 a9 a10 a11 a12 a13 a14 a15 a16 a17 a18 a19 : Int) : Option (Int) :=
 Option.bind (F53 FUEL a0 a1 a2 a3 a4 a5 a6 a7 a8 a9 a10 a11 a12 a13 a14 a15 a16 a17 a18 a19) fun y1 =>
 bif (!y1) then
 (some (-1))
 else (Option.bind (F196 FUEL a2) fun y2 =>
 bif y2.2 then
 (some y2.1)
 else (Option.bind (F197 FUEL a0 a1 a2 a3 a4 a5 a6 a7 a8 a9 a10 a11 a12 a13 a14 a15 a16 a17 a18 a19) fun y3 =>
 some y3))
def F186 (_n : Nat) (a0 a1 a2 : Int) : Option (Bool) :=
 Option.bind (F183 FUEL a0 a1 a2) fun y1 =>
 bif y1 then
 (some true)
 else (Option.bind (F164 FUEL a1) fun y2 =>
 Option.bind (F164 FUEL a2) fun y3 =>
 some (ieq y2 y3))
mutual
def zm : Nat → List (Int) → Int → Int → Int → List (Int) → List (Int) → Int → Int → Int → Int → Int → Int → Int → Int → Int → Int → Int → Int → Int → Int → Int → Int → Int → Int → Int → Int → Option (Int × Bool)
 | 0, _, _, _, _, _, _, _, _, _, _, _, _, _, _, _, _, _, _, _, _, _, _, _, _, _, _ => none
 | n + 1, x0, x1, x2, x3, x4, x5, x6, x7, x8, x9, x10, x11, x12, x13, x14, x15, x16, x17, x18, x19, x20, x21, x22, x23, x24, x25 => bif (ilt x2 x1) then
 (bif (inb x2 (List.length x0)) then
 (Option.bind (F183 FUEL x24 (List.getD x0 (Int.toNat x2) 0) x25) fun y8 =>
 bif y8 then
 (Option.bind (F167 FUEL x24 (List.getD x0 (Int.toNat x2) 0)) fun y9 =>
 Option.bind (F167 FUEL x24 x23) fun y10 =>
 bif (igt y9 y10) then
 (zm n x0 x1 (iadd .i64 x2 (1)) x3 x4 x5 x6 x7 x8 x9 x10 x11 x12 x13 x14 x15 x16 x17 x18 x19 x20 x21 x22 (List.getD x0 (Int.toNat x2) 0) x24 x25)
 else (zm n x0 x1 (iadd .i64 x2 (1)) x3 x4 x5 x6 x7 x8 x9 x10 x11 x12 x13 x14 x15 x16 x17 x18 x19 x20 x21 x22 x23 x24 x25))
 else (zm n x0 x1 (iadd .i64 x2 (1)) x3 x4 x5 x6 x7 x8 x9 x10 x11 x12 x13 x14 x15 x16 x17 x18 x19 x20 x21 x22 x23 x24 x25))
 else (none))
 else (jai n x7 x8 x9 x10 x11 x12 x13 x14 x15 x16 x17 x18 x19 x20 x21 x22 (0) x23 x24 x25)
def jai : Nat → Int → Int → Int → Int → Int → Int → Int → Int → Int → Int → Int → Int → Int → Int → Int → Int → Int → Int → Int → Int → Option (Int × Bool)
 | 0, _, _, _, _, _, _, _, _, _, _, _, _, _, _, _, _, _, _, _, _ => none
 | n + 1, x0, x1, x2, x3, x4, x5, x6, x7, x8, x9, x10, x11, x12, x13, x14, x15, x16, x17, x18, x19 => bif (ilt x16 (16)) then
 (bif (inb x16 16) then
 (bif (ine (List.getD [x0, x1, x2, x3, x4, x5, x6, x7, x8, x9, x10, x11, x12, x13, x14, x15] (Int.toNat x16) 0) (-1)) then
 (Option.bind (F183 FUEL x18 (List.getD [x0, x1, x2, x3, x4, x5, x6, x7, x8, x9, x10, x11, x12, x13, x14, x15] (Int.toNat x16) 0) x19) fun y11 =>
 bif y11 then
 (Option.bind (F167 FUEL x18 (List.getD [x0, x1, x2, x3, x4, x5, x6, x7, x8, x9, x10, x11, x12, x13, x14, x15] (Int.toNat x16) 0)) fun y12 =>
 Option.bind (F167 FUEL x18 x17) fun y13 =>
 bif (igt y12 y13) then
 (jai n x0 x1 x2 x3 x4 x5 x6 x7 x8 x9 x10 x11 x12 x13 x14 x15 (iadd .i64 x16 (1)) (List.getD [x0, x1, x2, x3, x4, x5, x6, x7, x8, x9, x10, x11, x12, x13, x14, x15] (Int.toNat x16) 0) x18 x19)
 else (jai n x0 x1 x2 x3 x4 x5 x6 x7 x8 x9 x10 x11 x12 x13 x14 x15 (iadd .i64 x16 (1)) x17 x18 x19))
 else (jai n x0 x1 x2 x3 x4 x5 x6 x7 x8 x9 x10 x11 x12 x13 x14 x15 (iadd .i64 x16 (1)) x17 x18 x19))
 else (jai n x0 x1 x2 x3 x4 x5 x6 x7 x8 x9 x10 x11 x12 x13 x14 x15 (iadd .i64 x16 (1)) x17 x18 x19))
 else (none))
 else (some (x17, false))
end
def F159 (n : Nat) (a0 : Int) (a1 a2 : List (Int)) (a3 a4 a5 a6 a7 a8 a9 a10 a11 a12 a13 a14 a15 a16 a17 a18 a19 a20 : Int) (a21 : Bool) : Option (Int × Bool) :=
 Option.bind (F53 FUEL a0 a1 a2 a3 a4 a5 a6 a7 a8 a9 a10 a11 a12 a13 a14 a15 a16 a17 a18 a19) fun y1 =>
 bif (!y1) then
 (some ((-1), false))
 else (Option.bind (F185 FUEL a0 a1 a2 a3 a4 a5 a6 a7 a8 a9 a10 a11 a12 a13 a14 a15 a16 a17 a18 a19) fun y2 =>
 Option.bind (F186 FUEL a0 a20 y2) fun y3 =>
 bif y3 then
 (some (y2, true))
 else (bif a21 then
 (some (y2, false))
 else (Option.bind (F185 FUEL a0 a1 a2 a3 a4 a5 a6 a7 a8 a9 a10 a11 a12 a13 a14 a15 a16 a17 a18 a19) fun y4 =>
 Option.bind (F183 FUEL a0 y4 a20) fun y5 =>
 bif y5 then
 (Option.bind (F167 FUEL a0 y4) fun y6 =>
 Option.bind (F167 FUEL a0 y2) fun y7 =>
 bif (igt y6 y7) then
 (zm n a2 (ofN (List.length a2)) (0) a0 a1 a2 a3 a4 a5 a6 a7 a8 a9 a10 a11 a12 a13 a14 a15 a16 a17 a18 a19 y4 a0 a20)
 else (zm n a2 (ofN (List.length a2)) (0) a0 a1 a2 a3 a4 a5 a6 a7 a8 a9 a10 a11 a12 a13 a14 a15 a16 a17 a18 a19 y2 a0 a20))
 else (zm n a2 (ofN (List.length a2)) (0) a0 a1 a2 a3 a4 a5 a6 a7 a8 a9 a10 a11 a12 a13 a14 a15 a16 a17 a18 a19 y2 a0 a20))))
def jem : Nat → Bool → Bool → ByteArray → Bool → Bool → Bool → ByteArray → Bool → Option (qe)
 | 0, _, _, _, _, _, _, _, _ => none
 | _ + 1, _, _, _, _, x4, x5, x6, x7 => some ⟨(0), (0), (0), (0), (0), x4, x5, (0), (0), x6, (0), (0), x7, (0)⟩
def F118 (n : Nat) (a0 : Int) (a1 a2 : List (Int)) (a3 a4 a5 a6 a7 a8 a9 a10 a11 a12 a13 a14 a15 a16 a17 a18 a19 a20 a21 a22 a23 a24 : Int) (a25 a26 : Bool) (a27 a28 : Int) (a29 : List (Int)) (a30 : ByteArray) (a31 a32 : Int) (a33 : Bool) (a34 : Int) : Option (qe) :=
 Option.bind (F53 FUEL a0 a1 a2 a3 a4 a5 a6 a7 a8 a9 a10 a11 a12 a13 a14 a15 a16 a17 a18 a19) fun y1 =>
 bif (!y1) then
 (jem n false false ByteArray.empty false false false ByteArray.empty false)
 else (bif (ine a20 (4)) then
 (jem n false false ByteArray.empty false false false ByteArray.empty false)
 else (bif (ine a23 a0) then
 (jem n false false ByteArray.empty false false false ByteArray.empty false)
 else (Option.bind (F72 FUEL a20 a21 a22 a23 a24 a25 a26 a27 a28 a29 a30 a31 a32 a33 a34) fun y2 =>
 bif (!y2) then
 (jem n false false ByteArray.empty false false false ByteArray.empty false)
 else (Option.bind (F111 FUEL a20 a21 a22 a23 a24 a25 a26 a27 a28 a29 a30 a31 a32 a33 a34) fun y3 =>
 Option.bind (F159 FUEL a0 a1 a2 a3 a4 a5 a6 a7 a8 a9 a10 a11 a12 a13 a14 a15 a16 a17 a18 a19 a24 a25) fun y4 =>
 some ⟨y3.q0, y3.q1, y3.q2, y3.q3, y3.q4, y3.q5, y4.2, y4.1, y3.q8, y3.q9, y3.q10, y3.q11, y3.q12, y3.q13⟩))))
def F200 (_n : Nat) (a0 : ByteArray) : Option (Bool) :=
 some (stne a0 a0)
def F190 (_n : Nat) (a0 a1 : ByteArray) : Option (Int) :=
 Option.bind (F200 FUEL a0) fun y1 =>
 Option.bind (F200 FUEL a1) fun y2 =>
 bif y1 then
 (bif y2 then
 (some (0))
 else (some (-1)))
 else (bif y2 then
 (some (1))
 else (bif (stlt a0 a1) then
 (some (-1))
 else (bif (stgt a0 a1) then
 (some (1))
 else (some (0)))))
def jah : Nat → List (ByteArray × Int × Int × Bool) → Int → Int → ByteArray → Option (Int × Bool)
 | 0, _, _, _, _ => none
 | n + 1, x0, x1, x2, x3 => bif (ilt x1 x2) then
 (bif (inz (2)) then
 (bif (inb (iadd .i64 x1 (iquo .i64 (isub .i64 x2 x1) (2))) (List.length x0)) then
 (Option.bind (F190 FUEL (List.getD x0 (Int.toNat (iadd .i64 x1 (iquo .i64 (isub .i64 x2 x1) (2)))) (ByteArray.empty, 0, 0, false)).1 x3) fun y3 =>
 bif (ilt y3 (0)) then
 (jah n x0 (iadd .i64 (iadd .i64 x1 (iquo .i64 (isub .i64 x2 x1) (2))) (1)) x2 x3)
 else (jah n x0 x1 (iadd .i64 x1 (iquo .i64 (isub .i64 x2 x1) (2))) x3))
 else (none))
 else (none))
 else (bif (ilt x1 (ofN (List.length x0))) then
 (bif (inb x1 (List.length x0)) then
 (Option.bind (F190 FUEL (List.getD x0 (Int.toNat x1) (ByteArray.empty, 0, 0, false)).1 x3) fun y4 =>
 some (x1, (ieq y4 (0))))
 else (none))
 else (some (x1, false)))
def F160 (n : Nat) (a0 : List (ByteArray × Int × Int × Bool)) (a1 : ByteArray) : Option (Int × Bool) :=
 bif (ilt (0) (ofN (List.length a0))) then
 (bif (inz (2)) then
 (bif (inb (iadd .i64 (0) (iquo .i64 (isub .i64 (ofN (List.length a0)) (0)) (2))) (List.length a0)) then
 (Option.bind (F190 FUEL (List.getD a0 (Int.toNat (iadd .i64 (0) (iquo .i64 (isub .i64 (ofN (List.length a0)) (0)) (2)))) (ByteArray.empty, 0, 0, false)).1 a1) fun y1 =>
 bif (ilt y1 (0)) then
 (jah n a0 (iadd .i64 (iadd .i64 (0) (iquo .i64 (isub .i64 (ofN (List.length a0)) (0)) (2))) (1)) (ofN (List.length a0)) a1)
 else (jah n a0 (0) (iadd .i64 (0) (iquo .i64 (isub .i64 (ofN (List.length a0)) (0)) (2))) a1))
 else (none))
 else (none))
 else (bif (ilt (0) (ofN (List.length a0))) then
 (bif (inb (0) (List.length a0)) then
 (Option.bind (F190 FUEL (List.getD a0 (Int.toNat (0)) (ByteArray.empty, 0, 0, false)).1 a1) fun y2 =>
 some ((0), (ieq y2 (0))))
 else (none))
 else (some ((0), false)))
def F201 (_n : Nat) (_a0 : ByteArray) (a1 a2 : Int) (a3 : Bool) : Option (Int × Int × Bool) :=
 some (a2, a1, a3)
def F206 (_n : Nat) (a0 : Int) : Option (Bool) :=
 some (ine a0 a0)
def F203 (_n : Nat) (a0 a1 : Int) : Option (Int) :=
 Option.bind (F206 FUEL a0) fun y1 =>
 Option.bind (F206 FUEL a1) fun y2 =>
 bif y1 then
 (bif y2 then
 (some (0))
 else (some (-1)))
 else (bif y2 then
 (some (1))
 else (bif (ilt a0 a1) then
 (some (-1))
 else (bif (igt a0 a1) then
 (some (1))
 else (some (0)))))
def jkl : Nat → List (Int) → Int → Int → Option (Int)
 | 0, _, _, _ => none
 | n + 1, x0, x1, x2 => bif (ilt x2 x1) then
 (bif (inb x2 (List.length x0)) then
 (bif (ine (List.getD x0 (Int.toNat x2) 0) (0)) then
 (some (List.getD x0 (Int.toNat x2) 0))
 else (jkl n x0 x1 (iadd .i64 x2 (1))))
 else (none))
 else (some (0))
def F202 (n : Nat) (a0 : List (Int)) : Option (Int) :=
 jkl n a0 (ofN (List.length a0)) (0)
def F191 (_n : Nat) (a0 : ByteArray) (a1 a2 : Int) (a3 : Bool) (a4 : ByteArray) (a5 a6 : Int) (a7 : Bool) : Option (Int) :=
 Option.bind (F201 FUEL a0 a1 a2 a3) fun y1 =>
 Option.bind (F201 FUEL a4 a5 a6 a7) fun y2 =>
 bif ((ieq y1.1 y2.1) && ((ieq y1.2.1 y2.2.1) && ((beqb y1.2.2 y2.2.2) && true))) then
 (some (0))
 else (Option.bind (F203 FUEL y1.1 y2.1) fun y3 =>
 Option.bind (F203 FUEL y1.2.1 y2.2.1) fun y4 =>
 Option.bind (F202 FUEL [y3, y4]) fun y5 =>
 bif (ieq y5 (0)) then
 (bif y1.2.2 then
 (some (1))
 else (bif (ieq y5 (0)) then
 (some (-1))
 else (some y5)))
 else (bif (ieq y5 (0)) then
 (some (-1))
 else (some y5)))
def F161 (_n : Nat) (a0 : ByteArray) (a1 a2 : Int) (a3 : Bool) (a4 : ByteArray) (a5 a6 : Int) (a7 : Bool) : Option (Bool) :=
 Option.bind (F191 FUEL a0 a1 a2 a3 a4 a5 a6 a7) fun y1 =>
 some (igt y1 (0))
def F120 (_n : Nat) (a0 : List (ByteArray × Int × Int × Bool)) (a1 : ByteArray) (a2 a3 : Int) (a4 : Bool) : Option (Int × (List (ByteArray × Int × Int × Bool))) :=
 Option.bind (F59 FUEL a0) fun y1 =>
 bif (!y1) then
 (Option.bind (F91 FUEL a0) fun y2 =>
 some ((2), y2))
 else (Option.bind (F134 FUEL a1 a2 a3 a4) fun y3 =>
 bif (!y3) then
 (Option.bind (F91 FUEL a0) fun y4 =>
 some ((2), y4))
 else (Option.bind (F160 FUEL a0 a1) fun y5 =>
 bif y5.2 then
 (Option.bind (F91 FUEL a0) fun y6 =>
 bif (inb y5.1 (List.length y6)) then
 (bif (nlt (Int.toNat y5.1) (List.length y6)) then
 (Option.bind (F161 FUEL a1 a2 a3 a4 (List.getD y6 (Int.toNat y5.1) (ByteArray.empty, 0, 0, false)).1 (List.getD y6 (Int.toNat y5.1) (ByteArray.empty, 0, 0, false)).2.1 (List.getD y6 (Int.toNat y5.1) (ByteArray.empty, 0, 0, false)).2.2.1 (List.getD y6 (Int.toNat y5.1) (ByteArray.empty, 0, 0, false)).2.2.2) fun y7 =>
 bif y7 then
 (bif (inb y5.1 (List.length y6)) then
 (bif (nlt (Int.toNat y5.1) (List.length y6)) then
 (some ((0), (List.set y6 (Int.toNat y5.1) (a1, a2, a3, a4))))
 else (none))
 else (none))
 else (some ((0), y6)))
 else (none))
 else (none))
 else (bif (ige (ofN (List.length a0)) (24)) then
 (Option.bind (F91 FUEL a0) fun y8 =>
 some ((200), y8))
 else (bif (inn (0) && ile (0) (iadd .i64 (ofN (List.length a0)) (1)) && decide ((iadd .i64 (ofN (List.length a0)) (1)) * 40 ≤ 281474976710656) && decide ((iadd .i64 (ofN (List.length a0)) (1)) ≤ 9223372036854775807)) then
 (bif ((inn y5.1) && (inbs 0 (Int.toNat y5.1) (List.length a0))) then
 (bif (room (List.length (List.replicate (Int.toNat (0)) (ByteArray.empty, (0), (0), false)) + List.length (List.drop 0 (List.take (Int.toNat y5.1) a0))) 40) then
 (bif (room (List.length ((List.replicate (Int.toNat (0)) (ByteArray.empty, (0), (0), false)) ++ (List.drop 0 (List.take (Int.toNat y5.1) a0))) + List.length [(a1, a2, a3, a4)]) 40) then
 (bif (((inn y5.1) && true) && (inbs (Int.toNat y5.1) (List.length a0) (List.length a0))) then
 (bif (room (List.length (((List.replicate (Int.toNat (0)) (ByteArray.empty, (0), (0), false)) ++ (List.drop 0 (List.take (Int.toNat y5.1) a0))) ++ [(a1, a2, a3, a4)]) + List.length (List.drop (Int.toNat y5.1) (List.take (List.length a0) a0))) 40) then
 (some ((0), ((((List.replicate (Int.toNat (0)) (ByteArray.empty, (0), (0), false)) ++ (List.drop 0 (List.take (Int.toNat y5.1) a0))) ++ [(a1, a2, a3, a4)]) ++ (List.drop (Int.toNat y5.1) (List.take (List.length a0) a0)))))
 else (none))
 else (none))
 else (none))
 else (none))
 else (none))
 else (none)))))
structure jdh where
 q0 : ByteArray
 (q1 q2 : Int)
 q3 : Bool
 q4 : Int
def F122 (_n : Nat) (a0 : List (ByteArray × Int × Int × Bool)) (a1 : ByteArray) : Option (jdh) :=
 Option.bind (F59 FUEL a0) fun y1 =>
 bif (!y1) then
 (some ⟨ByteArray.empty, (0), (0), false, (201)⟩)
 else (Option.bind (F160 FUEL a0 a1) fun y2 =>
 bif (!y2.2) then
 (some ⟨ByteArray.empty, (0), (0), false, (201)⟩)
 else (bif (inb y2.1 (List.length a0)) then
 (some ⟨(List.getD a0 (Int.toNat y2.1) (ByteArray.empty, 0, 0, false)).1, (List.getD a0 (Int.toNat y2.1) (ByteArray.empty, 0, 0, false)).2.1, (List.getD a0 (Int.toNat y2.1) (ByteArray.empty, 0, 0, false)).2.2.1, (List.getD a0 (Int.toNat y2.1) (ByteArray.empty, 0, 0, false)).2.2.2, (0)⟩)
 else (none)))
structure ui where
 (q0 q1 q2 q3 q4 q5 q6 : Int)
 (q7 q8 : Bool)
 (q9 q10 : Int)
 q11 : List (Int)
 q12 : ByteArray
 (q13 q14 : Int)
 q15 : Bool
 (q16 q17 : Int)
def F123 (_n : Nat) (a0 a1 a2 a3 a4 : Int) (a5 a6 : Bool) (a7 a8 : Int) (a9 : List (Int)) (a10 : ByteArray) (a11 a12 : Int) (a13 : Bool) (a14 : Int) : Option (ui) :=
 Option.bind (F72 FUEL a0 a1 a2 a3 a4 a5 a6 a7 a8 a9 a10 a11 a12 a13 a14) fun y1 =>
 bif (!y1) then
 (some ⟨(0), (0), (0), (0), (0), (0), (0), false, false, (0), (0), [], ByteArray.empty, (0), (0), false, (0), (2)⟩)
 else (Option.bind (F71 FUEL a0 a1 a2 a3 a4 a5 a6 a7 a8 a9 a10 a11 a12 a13 a14) fun y2 =>
 bif y2 then
 (some ⟨(0), (0), (0), (0), (0), (0), (0), false, false, (0), (0), [], ByteArray.empty, (0), (0), false, (0), (2)⟩)
 else (Option.bind (F38 FUEL a0 a1 a2 a3 a4 a5 a6 a7 a8 a9 a10 a11 a12 a13 a14) fun y3 =>
 some ⟨a3, a1, y3.q0, y3.q1, y3.q2, y3.q3, y3.q4, y3.q5, y3.q6, y3.q7, y3.q8, y3.q14, y3.q9, y3.q10, y3.q11, y3.q12, y3.q13, (0)⟩))
mutual
def jbi : Nat → Nat → Nat → List (TY2) → Int → Int → List (TY1) → Option ((List (TY1)))
 | 0, _, _, _, _, _, _ => none
 | n + 1, x0, x1, x2, x3, x4, x5 => bif (ilt x4 x3) then
 (bif (inb x4 (List.length x2)) then
 (Option.bind (F123 FUEL (List.getD x2 (Int.toNat x4) TZ2).1 (List.getD x2 (Int.toNat x4) TZ2).2.1 (List.getD x2 (Int.toNat x4) TZ2).2.2.1 (List.getD x2 (Int.toNat x4) TZ2).2.2.2.1 (List.getD x2 (Int.toNat x4) TZ2).2.2.2.2.1 (List.getD x2 (Int.toNat x4) TZ2).2.2.2.2.2.1 (List.getD x2 (Int.toNat x4) TZ2).2.2.2.2.2.2.1 (List.getD x2 (Int.toNat x4) TZ2).2.2.2.2.2.2.2.1 (List.getD x2 (Int.toNat x4) TZ2).2.2.2.2.2.2.2.2.1 (List.getD x2 (Int.toNat x4) TZ2).2.2.2.2.2.2.2.2.2.1 (List.getD x2 (Int.toNat x4) TZ2).2.2.2.2.2.2.2.2.2.2.1 (List.getD x2 (Int.toNat x4) TZ2).2.2.2.2.2.2.2.2.2.2.2.1 (List.getD x2 (Int.toNat x4) TZ2).2.2.2.2.2.2.2.2.2.2.2.2.1 (List.getD x2 (Int.toNat x4) TZ2).2.2.2.2.2.2.2.2.2.2.2.2.2.1 (List.getD x2 (Int.toNat x4) TZ2).2.2.2.2.2.2.2.2.2.2.2.2.2.2) fun y2 =>
 bif (ine y2.q17 (0)) then
 (jbi n x0 x1 x2 x3 (iadd .i64 x4 (1)) x5)
 else (Option.bind (F110 FUEL y2.q0 y2.q1) fun y3 =>
 Option.bind (F109 FUEL (List.take x1 (List.drop x0 x5)) y3.1 y3.2) fun y4 =>
 bif (ige y4 (0)) then
 (jbi n x0 x1 x2 x3 (iadd .i64 x4 (1)) x5)
 else (bif (full x0 x1 (List.length x5) && room (x1 + List.length [(y2.q0, y2.q1, y2.q2, y2.q3, y2.q4, y2.q5, y2.q6, y2.q7, y2.q8, y2.q9, y2.q10, y2.q11, y2.q12, y2.q13, y2.q14, y2.q15, y2.q16)]) 152) then
 (bif (igt (ofN (List.length (List.drop x0 x5 ++ [(y2.q0, y2.q1, y2.q2, y2.q3, y2.q4, y2.q5, y2.q6, y2.q7, y2.q8, y2.q9, y2.q10, y2.q11, y2.q12, y2.q13, y2.q14, y2.q15, y2.q16)]))) (40)) then
 (bif (((inn (1)) && true) && (inbs (Int.toNat (1)) (List.length (List.drop x0 x5 ++ [(y2.q0, y2.q1, y2.q2, y2.q3, y2.q4, y2.q5, y2.q6, y2.q7, y2.q8, y2.q9, y2.q10, y2.q11, y2.q12, y2.q13, y2.q14, y2.q15, y2.q16)])) (List.length (List.drop x0 x5 ++ [(y2.q0, y2.q1, y2.q2, y2.q3, y2.q4, y2.q5, y2.q6, y2.q7, y2.q8, y2.q9, y2.q10, y2.q11, y2.q12, y2.q13, y2.q14, y2.q15, y2.q16)])))) then
 (jhe n (Int.toNat (1)) ((List.length (List.drop x0 x5 ++ [(y2.q0, y2.q1, y2.q2, y2.q3, y2.q4, y2.q5, y2.q6, y2.q7, y2.q8, y2.q9, y2.q10, y2.q11, y2.q12, y2.q13, y2.q14, y2.q15, y2.q16)])) - (Int.toNat (1))) x2 x3 x4 (List.drop x0 x5 ++ [(y2.q0, y2.q1, y2.q2, y2.q3, y2.q4, y2.q5, y2.q6, y2.q7, y2.q8, y2.q9, y2.q10, y2.q11, y2.q12, y2.q13, y2.q14, y2.q15, y2.q16)]))
 else (none))
 else (jbi n 0 (List.length (List.drop x0 x5 ++ [(y2.q0, y2.q1, y2.q2, y2.q3, y2.q4, y2.q5, y2.q6, y2.q7, y2.q8, y2.q9, y2.q10, y2.q11, y2.q12, y2.q13, y2.q14, y2.q15, y2.q16)])) x2 x3 (iadd .i64 x4 (1)) (List.drop x0 x5 ++ [(y2.q0, y2.q1, y2.q2, y2.q3, y2.q4, y2.q5, y2.q6, y2.q7, y2.q8, y2.q9, y2.q10, y2.q11, y2.q12, y2.q13, y2.q14, y2.q15, y2.q16)])))
 else (none))))
 else (none))
 else (some (List.take x1 (List.drop x0 x5)))
def jhe : Nat → Nat → Nat → List (TY2) → Int → Int → List (TY1) → Option ((List (TY1)))
 | 0, _, _, _, _, _, _ => none
 | n + 1, x0, x1, x2, x3, x4, x5 => bif (igt (ofN x1) (40)) then
 (bif (((inn (1)) && true) && (inbs (Int.toNat (1)) x1 x1)) then
 (jhe n (x0 + (Int.toNat (1))) (x1 - (Int.toNat (1))) x2 x3 x4 x5)
 else (none))
 else (jbi n x0 x1 x2 x3 (iadd .i64 x4 (1)) x5)
end
def F37 (n : Nat) (a0 : List (TY1)) (a1 : List (TY2)) : Option ((List (TY1))) :=
 Option.bind (F89 FUEL a0) fun y1 =>
 jbi n 0 (List.length y1) a1 (ofN (List.length a1)) (0) y1
structure Sx2 where
 q0 : Int
 (q1 q2 : List (Int))
 (q3 q4 q5 q6 q7 q8 q9 q10 q11 q12 q13 q14 q15 q16 q17 q18 q19 q20 q21 q22 : Int)
 q23 : List (TY1)
 (q24 q25 q26 q27 q28 q29 q30 : Int)
 (q31 q32 : Bool)
 q33 : Int
 q34 : ByteArray
 (q35 q36 : Int)
 q37 : Bool
 (q38 q39 q40 q41 q42 q43 q44 : Int)
 (q45 q46 : Bool)
 q47 : Int
 q48 : ByteArray
 (q49 q50 : Int)
 q51 : Bool
 (q52 q53 q54 q55 q56 q57 q58 : Int)
 (q59 q60 : Bool)
 q61 : Int
 q62 : ByteArray
 (q63 q64 : Int)
 q65 : Bool
 (q66 q67 q68 : Int)
 q69 : ByteArray
 q70 : List (ByteArray × Int × Int × Bool)
 (q71 q72 q73 q74 q75 q76 : Int)
 (q77 q78 : Bool)
 (q79 q80 : Int)
 q81 : List (Int)
 q82 : ByteArray
 (q83 q84 : Int)
 q85 : Bool
 q86 : Int
 q87 : List (TY0)
 (q88 q89 q90 : List (Int))
def jmo : Nat → Bool → Bool → ByteArray → Bool → Bool → Bool → ByteArray → Bool → Bool → Bool → ByteArray → Bool → ByteArray → Bool → Bool → ByteArray → Bool → Int → Int → Int → Int → Int → Int → Int → Int → Int → Int → Int → Int → Int → Int → Int → Int → Int → Int → Int → Int → Int → Int → Int → Int → Int → Int → Int → Int → Bool → Bool → Int → ByteArray → Int → Int → Bool → Int → Int → Int → Int → Int → Int → Int → Bool → Bool → Int → ByteArray → Int → Int → Bool → Int → Int → Int → Int → Int → Int → Int → Bool → Bool → Int → ByteArray → Int → Int → Bool → Int → Int → Int → ByteArray → Int → Int → Int → Int → Int → Int → Bool → Bool → Int → Int → ByteArray → Int → Int → Bool → Int → List (Int) → List (Int) → List (TY0) → List (TY1) → List (Int) → List (Int) → List (Int) → List (ByteArray × Int × Int × Bool) → List (Int) → Option (Sx2)
 | 0, _, _, _, _, _, _, _, _, _, _, _, _, _, _, _, _, _, _, _, _, _, _, _, _, _, _, _, _, _, _, _, _, _, _, _, _, _, _, _, _, _, _, _, _, _, _, _, _, _, _, _, _, _, _, _, _, _, _, _, _, _, _, _, _, _, _, _, _, _, _, _, _, _, _, _, _, _, _, _, _, _, _, _, _, _, _, _, _, _, _, _, _, _, _, _, _, _, _, _, _, _, _, _, _, _, _, _, _ => none
 | _ + 1, _, _, _, _, _, _, _, _, _, _, _, _, _, _, _, _, _, x17, x18, x19, x20, x21, x22, x23, x24, x25, x26, x27, x28, x29, x30, x31, x32, x33, x34, x35, x36, x37, x38, x39, x40, x41, x42, x43, x44, x45, x46, x47, x48, x49, x50, x51, x52, x53, x54, x55, x56, x57, x58, x59, x60, x61, x62, x63, x64, x65, x66, x67, x68, x69, x70, x71, x72, x73, x74, x75, x76, x77, x78, x79, x80, x81, x82, x83, x84, x85, x86, x87, x88, x89, x90, x91, x92, x93, x94, x95, x96, x97, x98, x99, x100, x101, x102, x103, x104, x105, x106, x107 => Option.bind (F38 FUEL x85 x86 x87 x88 x89 x90 x91 x92 x93 x107 x94 x95 x96 x97 x98) fun y23 =>
 some ⟨x17, x99, x100, x18, x19, x20, x21, x22, x23, x24, x25, x26, x27, x28, x29, x30, x31, x32, x33, x34, x35, x36, x37, x102, x38, x39, x40, x41, x42, x43, x44, x45, x46, x47, x48, x49, x50, x51, x52, x53, x54, x55, x56, x57, x58, x59, x60, x61, x62, x63, x64, x65, x66, x67, x68, x69, x70, x71, x72, x73, x74, x75, x76, x77, x78, x79, x80, x81, x82, x83, x106, x84, y23.q0, y23.q1, y23.q2, y23.q3, y23.q4, y23.q5, y23.q6, y23.q7, y23.q8, y23.q14, y23.q9, y23.q10, y23.q11, y23.q12, y23.q13, x101, x103, x104, x105⟩
def F11 (n : Nat) (a0 : Int) (a1 a2 : List (Int)) (a3 a4 a5 a6 a7 a8 a9 a10 a11 a12 a13 a14 a15 a16 a17 a18 a19 a20 a21 a22 : Int) (a23 : List (TY0)) (a24 : List (TY1)) (a25 a26 a27 a28 a29 a30 a31 : Int) (a32 a33 : Bool) (a34 : Int) (a35 : ByteArray) (a36 a37 : Int) (a38 : Bool) (a39 : Int) (a40 : List (Int)) (a41 a42 a43 a44 a45 a46 : Int) (a47 a48 : Bool) (a49 : Int) (a50 : ByteArray) (a51 a52 : Int) (a53 : Bool) (a54 : Int) (a55 : List (Int)) (a56 a57 a58 a59 a60 a61 : Int) (a62 a63 : Bool) (a64 : Int) (a65 : ByteArray) (a66 a67 : Int) (a68 : Bool) (a69 : Int) (a70 : List (Int)) (a71 a72 : Int) (a73 : ByteArray) (a74 : List (ByteArray × Int × Int × Bool)) (a75 a76 a77 a78 a79 a80 : Int) (a81 a82 : Bool) (a83 a84 : Int) (a85 : List (Int)) (a86 : ByteArray) (a87 a88 : Int) (a89 : Bool) (a90 : Int) : Option (Sx2) :=
 Option.bind (F20 FUEL a0 a1 a2 a3 a4 a5 a6 a7 a8 a9 a10 a11 a12 a13 a14 a15 a16 a17 a18 a19 a20 a21 a22 a23 a24 a25 a26 a27 a28 a29 a30 a31 a32 a33 a34 a35 a36 a37 a38 a39 a40 a41 a42 a43 a44 a45 a46 a47 a48 a49 a50 a51 a52 a53 a54 a55 a56 a57 a58 a59 a60 a61 a62 a63 a64 a65 a66 a67 a68 a69 a70 a71 a72 a73 a74 a75) fun y1 =>
 Option.bind (F17 FUEL a0 a1 a2 a3 a4 a5 a6 a7 a8 a9 a10 a11 a12 a13 a14 a15 a16 a17 a18 a19 a20 a21 a22 a23 a24 a25 a26 a27 a28 a29 a30 a31 a32 a33 a34 a35 a36 a37 a38 a39 a40 a41 a42 a43 a44 a45 a46 a47 a48 a49 a50 a51 a52 a53 a54 a55 a56 a57 a58 a59 a60 a61 a62 a63 a64 a65 a66 a67 a68 a69 a70 a71 a72 a73 a74 a75 a76 a77 a78 a79 a80 a81 a82 a83 a84 a85 a86 a87 a88 a89 a90) fun y2 =>
 bif (!y2) then
 (jmo n false false ByteArray.empty false false false ByteArray.empty false false false ByteArray.empty false ByteArray.empty false false ByteArray.empty false y1.q0 y1.q1 y1.q2 y1.q3 y1.q4 y1.q5 y1.q6 y1.q7 y1.q8 y1.q9 y1.q10 y1.q11 y1.q12 y1.q13 y1.q14 y1.q15 y1.q16 y1.q17 y1.q18 y1.q19 y1.q20 y1.q21 y1.q22 y1.q23 y1.q24 y1.q25 y1.q26 y1.q27 y1.q28 y1.q29 y1.q30 y1.q31 y1.q32 y1.q33 y1.q34 y1.q35 y1.q36 y1.q37 y1.q38 y1.q39 y1.q40 y1.q41 y1.q42 y1.q43 y1.q44 y1.q45 y1.q46 y1.q47 y1.q48 y1.q49 y1.q50 y1.q51 y1.q52 y1.q53 y1.q54 y1.q55 y1.q56 y1.q57 y1.q58 y1.q59 y1.q60 y1.q61 y1.q62 y1.q63 y1.q64 y1.q65 y1.q66 y1.q67 (0) (0) (0) (0) (0) false false (0) (0) ByteArray.empty (0) (0) false (0) y1.q68 y1.q69 y1.q70 y1.q71 y1.q72 y1.q73 y1.q74 y1.q75 [])
 else (Option.bind (F35 FUEL a24 a78 a77) fun y3 =>
 bif y3.q14 then
 (jmo n false false ByteArray.empty false false false ByteArray.empty false false false ByteArray.empty false ByteArray.empty false false ByteArray.empty false y1.q0 y1.q1 y1.q2 y1.q3 y1.q4 y1.q5 y1.q6 y1.q7 y1.q8 y1.q9 y1.q10 y1.q11 y1.q12 y1.q13 y1.q14 y1.q15 y1.q16 y1.q17 y1.q18 y1.q19 y1.q20 y1.q21 y1.q22 y1.q23 y1.q24 y1.q25 y1.q26 y1.q27 y1.q28 y1.q29 y1.q30 y1.q31 y1.q32 y1.q33 y1.q34 y1.q35 y1.q36 y1.q37 y1.q38 y1.q39 y1.q40 y1.q41 y1.q42 y1.q43 y1.q44 y1.q45 y1.q46 y1.q47 y1.q48 y1.q49 y1.q50 y1.q51 y1.q52 y1.q53 y1.q54 y1.q55 y1.q56 y1.q57 y1.q58 y1.q59 y1.q60 y1.q61 y1.q62 y1.q63 y1.q64 y1.q65 y1.q66 y1.q67 y3.q0 y3.q1 y3.q2 y3.q3 y3.q4 y3.q5 y3.q6 y3.q7 y3.q8 y3.q9 y3.q10 y3.q11 y3.q12 y3.q13 y1.q68 y1.q69 y1.q70 y1.q71 y1.q72 y1.q73 y1.q74 y1.q75 y3.q15)
 else (Option.bind (F111 FUEL a76 a77 a78 a79 a80 a81 a82 a83 a84 a85 a86 a87 a88 a89 a90) fun y4 =>
 bif (ieq a76 (1)) then
 (Option.bind (F113 FUEL y1.q69) fun y5 =>
 Option.bind (F37 FUEL y1.q71 [(y4.q0, y4.q1, y4.q2, y4.q3, y4.q4, y4.q5, y4.q6, y4.q7, y1.q1, y5, y4.q9, y4.q10, y4.q11, y4.q12, y4.q13)]) fun y6 =>
 Option.bind (F38 FUEL y4.q0 y4.q1 y4.q2 y4.q3 y4.q4 y4.q5 y4.q6 y4.q7 y1.q1 y5 y4.q9 y4.q10 y4.q11 y4.q12 y4.q13) fun y7 =>
 some ⟨y1.q0, y1.q68, y1.q69, y1.q1, y1.q2, y1.q3, y1.q4, y1.q5, y1.q6, y1.q7, y1.q8, y1.q9, y1.q10, y1.q11, y1.q12, y1.q13, y1.q14, y1.q15, y1.q16, y1.q17, y1.q18, y1.q19, y1.q20, y6, y1.q21, y1.q22, y1.q23, y1.q24, y1.q25, y1.q26, y1.q27, y1.q28, y1.q29, y1.q30, y1.q31, y1.q32, y1.q33, y1.q34, y1.q35, y1.q36, y1.q37, y1.q38, y1.q39, y1.q40, y1.q41, y1.q42, y1.q43, y1.q44, y1.q45, y1.q46, y1.q47, y1.q48, y1.q49, y1.q50, y1.q51, y1.q52, y1.q53, y1.q54, y1.q55, y1.q56, y1.q57, y1.q58, y1.q59, y1.q60, y1.q61, y1.q62, y1.q63, y1.q64, y1.q65, y1.q66, y1.q75, y1.q67, y7.q0, y7.q1, y7.q2, y7.q3, y7.q4, y7.q5, y7.q6, y7.q7, y7.q8, y7.q14, y7.q9, y7.q10, y7.q11, y7.q12, y7.q13, y1.q70, y1.q72, y1.q73, y1.q74⟩)
 else (bif (ieq a76 (2)) then
 (Option.bind (F37 FUEL y1.q71 ([(y4.q0, y4.q1, y4.q2, y4.q3, y4.q4, y4.q5, y4.q6, y4.q7, y4.q8, [], y4.q9, y4.q10, y4.q11, y4.q12, y4.q13)] : List (Int × Int × Int × Int × Int × Bool × Bool × Int × Int × (List (Int)) × ByteArray × Int × Int × Bool × Int))) fun y8 =>
 Option.bind (F38 FUEL y4.q0 y4.q1 y4.q2 y4.q3 y4.q4 y4.q5 y4.q6 y4.q7 y4.q8 [] y4.q9 y4.q10 y4.q11 y4.q12 y4.q13) fun y9 =>
 some ⟨y1.q0, y1.q68, y1.q69, y1.q1, y1.q2, y1.q3, y1.q4, y1.q5, y1.q6, y1.q7, y1.q8, y1.q9, y1.q10, y1.q11, y1.q12, y1.q13, y1.q14, y1.q15, y1.q16, y1.q17, y1.q18, y1.q19, y1.q20, y8, y1.q21, y1.q22, y1.q23, y1.q24, y1.q25, y1.q26, y1.q27, y1.q28, y1.q29, y1.q30, y1.q31, y1.q32, y1.q33, y1.q34, y1.q35, y1.q36, y1.q37, y1.q38, y1.q39, y1.q40, y1.q41, y1.q42, y1.q43, y1.q44, y1.q45, y1.q46, y1.q47, y1.q48, y1.q49, y1.q50, y1.q51, y1.q52, y1.q53, y1.q54, y1.q55, y1.q56, y1.q57, y1.q58, y1.q59, y1.q60, y1.q61, y1.q62, y1.q63, y1.q64, y1.q65, y1.q66, y1.q75, y1.q67, y9.q0, y9.q1, y9.q2, y9.q3, y9.q4, y9.q5, y9.q6, y9.q7, y9.q8, y9.q14, y9.q9, y9.q10, y9.q11, y9.q12, y9.q13, y1.q70, y1.q72, y1.q73, y1.q74⟩)
 else (bif (ieq a76 (3)) then
 (Option.bind (F116 FUEL y1.q0 y1.q68 y1.q69 y1.q1 y1.q2 y1.q3 y1.q4 y1.q5 y1.q6 y1.q7 y1.q8 y1.q9 y1.q10 y1.q11 y1.q12 y1.q13 y1.q14 y1.q15 y1.q16 y1.q17 [a78]) fun y10 =>
 Option.bind (F37 FUEL y1.q71 ([(y4.q0, y4.q1, y4.q2, y4.q3, y4.q4, y4.q5, y4.q6, y4.q7, y4.q8, [], y4.q9, y4.q10, y4.q11, y4.q12, y4.q13)] : List (Int × Int × Int × Int × Int × Bool × Bool × Int × Int × (List (Int)) × ByteArray × Int × Int × Bool × Int))) fun y11 =>
 Option.bind (F38 FUEL y4.q0 y4.q1 y4.q2 y4.q3 y4.q4 y4.q5 y4.q6 y4.q7 y4.q8 [] y4.q9 y4.q10 y4.q11 y4.q12 y4.q13) fun y12 =>
 some ⟨y10.q0, y10.q18, y10.q19, y10.q1, y10.q2, y10.q3, y10.q4, y10.q5, y10.q6, y10.q7, y10.q8, y10.q9, y10.q10, y10.q11, y10.q12, y10.q13, y10.q14, y10.q15, y10.q16, y10.q17, y1.q18, y1.q19, y1.q20, y11, y1.q21, y1.q22, y1.q23, y1.q24, y1.q25, y1.q26, y1.q27, y1.q28, y1.q29, y1.q30, y1.q31, y1.q32, y1.q33, y1.q34, y1.q35, y1.q36, y1.q37, y1.q38, y1.q39, y1.q40, y1.q41, y1.q42, y1.q43, y1.q44, y1.q45, y1.q46, y1.q47, y1.q48, y1.q49, y1.q50, y1.q51, y1.q52, y1.q53, y1.q54, y1.q55, y1.q56, y1.q57, y1.q58, y1.q59, y1.q60, y1.q61, y1.q62, y1.q63, y1.q64, y1.q65, y1.q66, y1.q75, y1.q67, y12.q0, y12.q1, y12.q2, y12.q3, y12.q4, y12.q5, y12.q6, y12.q7, y12.q8, y12.q14, y12.q9, y12.q10, y12.q11, y12.q12, y12.q13, y1.q70, y1.q72, y1.q73, y1.q74⟩)
 else (bif (ieq a76 (4)) then
 (Option.bind (F118 FUEL y1.q0 y1.q68 y1.q69 y1.q1 y1.q2 y1.q3 y1.q4 y1.q5 y1.q6 y1.q7 y1.q8 y1.q9 y1.q10 y1.q11 y1.q12 y1.q13 y1.q14 y1.q15 y1.q16 y1.q17 a76 a77 a78 a79 a80 a81 a82 a83 a84 a85 a86 a87 a88 a89 a90) fun y13 =>
 Option.bind (F37 FUEL y1.q71 ([(y13.q0, y13.q1, y13.q2, y13.q3, y13.q4, y13.q5, y13.q6, y13.q7, y13.q8, [], y13.q9, y13.q10, y13.q11, y13.q12, y13.q13)] : List (Int × Int × Int × Int × Int × Bool × Bool × Int × Int × (List (Int)) × ByteArray × Int × Int × Bool × Int))) fun y14 =>
 Option.bind (F38 FUEL y13.q0 y13.q1 y13.q2 y13.q3 y13.q4 y13.q5 y13.q6 y13.q7 y13.q8 [] y13.q9 y13.q10 y13.q11 y13.q12 y13.q13) fun y15 =>
 some ⟨y1.q0, y1.q68, y1.q69, y1.q1, y1.q2, y1.q3, y1.q4, y1.q5, y1.q6, y1.q7, y1.q8, y1.q9, y1.q10, y1.q11, y1.q12, y1.q13, y1.q14, y1.q15, y1.q16, y1.q17, y1.q18, y1.q19, y1.q20, y14, y1.q21, y1.q22, y1.q23, y1.q24, y1.q25, y1.q26, y1.q27, y1.q28, y1.q29, y1.q30, y1.q31, y1.q32, y1.q33, y1.q34, y1.q35, y1.q36, y1.q37, y1.q38, y1.q39, y1.q40, y1.q41, y1.q42, y1.q43, y1.q44, y1.q45, y1.q46, y1.q47, y1.q48, y1.q49, y1.q50, y1.q51, y1.q52, y1.q53, y1.q54, y1.q55, y1.q56, y1.q57, y1.q58, y1.q59, y1.q60, y1.q61, y1.q62, y1.q63, y1.q64, y1.q65, y1.q66, y1.q75, y1.q67, y15.q0, y15.q1, y15.q2, y15.q3, y15.q4, y15.q5, y15.q6, y15.q7, y15.q8, y15.q14, y15.q9, y15.q10, y15.q11, y15.q12, y15.q13, y1.q70, y1.q72, y1.q73, y1.q74⟩)
 else (bif (ieq a76 (5)) then
 (Option.bind (F120 FUEL y1.q75 a86 a87 a88 a89) fun y16 =>
 Option.bind (F37 FUEL y1.q71 ([(y4.q0, y4.q1, y4.q2, y4.q3, y4.q4, y4.q5, y4.q6, y4.q7, y4.q8, [], y4.q9, y4.q10, y4.q11, y4.q12, y16.1)] : List (Int × Int × Int × Int × Int × Bool × Bool × Int × Int × (List (Int)) × ByteArray × Int × Int × Bool × Int))) fun y17 =>
 Option.bind (F38 FUEL y4.q0 y4.q1 y4.q2 y4.q3 y4.q4 y4.q5 y4.q6 y4.q7 y4.q8 [] y4.q9 y4.q10 y4.q11 y4.q12 y16.1) fun y18 =>
 some ⟨y1.q0, y1.q68, y1.q69, y1.q1, y1.q2, y1.q3, y1.q4, y1.q5, y1.q6, y1.q7, y1.q8, y1.q9, y1.q10, y1.q11, y1.q12, y1.q13, y1.q14, y1.q15, y1.q16, y1.q17, y1.q18, y1.q19, y1.q20, y17, y1.q21, y1.q22, y1.q23, y1.q24, y1.q25, y1.q26, y1.q27, y1.q28, y1.q29, y1.q30, y1.q31, y1.q32, y1.q33, y1.q34, y1.q35, y1.q36, y1.q37, y1.q38, y1.q39, y1.q40, y1.q41, y1.q42, y1.q43, y1.q44, y1.q45, y1.q46, y1.q47, y1.q48, y1.q49, y1.q50, y1.q51, y1.q52, y1.q53, y1.q54, y1.q55, y1.q56, y1.q57, y1.q58, y1.q59, y1.q60, y1.q61, y1.q62, y1.q63, y1.q64, y1.q65, y1.q66, y16.2, y1.q67, y18.q0, y18.q1, y18.q2, y18.q3, y18.q4, y18.q5, y18.q6, y18.q7, y18.q8, y18.q14, y18.q9, y18.q10, y18.q11, y18.q12, y18.q13, y1.q70, y1.q72, y1.q73, y1.q74⟩)
 else (bif (ieq a76 (6)) then
 (Option.bind (F122 FUEL y1.q75 a86) fun y19 =>
 Option.bind (F37 FUEL y1.q71 ([(y4.q0, y4.q1, y4.q2, y4.q3, y4.q4, y4.q5, y4.q6, y4.q7, y4.q8, [], y19.q0, y19.q1, y19.q2, y19.q3, y19.q4)] : List (Int × Int × Int × Int × Int × Bool × Bool × Int × Int × (List (Int)) × ByteArray × Int × Int × Bool × Int))) fun y20 =>
 Option.bind (F38 FUEL y4.q0 y4.q1 y4.q2 y4.q3 y4.q4 y4.q5 y4.q6 y4.q7 y4.q8 [] y19.q0 y19.q1 y19.q2 y19.q3 y19.q4) fun y21 =>
 some ⟨y1.q0, y1.q68, y1.q69, y1.q1, y1.q2, y1.q3, y1.q4, y1.q5, y1.q6, y1.q7, y1.q8, y1.q9, y1.q10, y1.q11, y1.q12, y1.q13, y1.q14, y1.q15, y1.q16, y1.q17, y1.q18, y1.q19, y1.q20, y20, y1.q21, y1.q22, y1.q23, y1.q24, y1.q25, y1.q26, y1.q27, y1.q28, y1.q29, y1.q30, y1.q31, y1.q32, y1.q33, y1.q34, y1.q35, y1.q36, y1.q37, y1.q38, y1.q39, y1.q40, y1.q41, y1.q42, y1.q43, y1.q44, y1.q45, y1.q46, y1.q47, y1.q48, y1.q49, y1.q50, y1.q51, y1.q52, y1.q53, y1.q54, y1.q55, y1.q56, y1.q57, y1.q58, y1.q59, y1.q60, y1.q61, y1.q62, y1.q63, y1.q64, y1.q65, y1.q66, y1.q75, y1.q67, y21.q0, y21.q1, y21.q2, y21.q3, y21.q4, y21.q5, y21.q6, y21.q7, y21.q8, y21.q14, y21.q9, y21.q10, y21.q11, y21.q12, y21.q13, y1.q70, y1.q72, y1.q73, y1.q74⟩)
 else (Option.bind (F38 FUEL (0) (0) (0) (0) (0) false false (0) (0) [] ByteArray.empty (0) (0) false (0)) fun y22 =>
 some ⟨y1.q0, y1.q68, y1.q69, y1.q1, y1.q2, y1.q3, y1.q4, y1.q5, y1.q6, y1.q7, y1.q8, y1.q9, y1.q10, y1.q11, y1.q12, y1.q13, y1.q14, y1.q15, y1.q16, y1.q17, y1.q18, y1.q19, y1.q20, y1.q71, y1.q21, y1.q22, y1.q23, y1.q24, y1.q25, y1.q26, y1.q27, y1.q28, y1.q29, y1.q30, y1.q31, y1.q32, y1.q33, y1.q34, y1.q35, y1.q36, y1.q37, y1.q38, y1.q39, y1.q40, y1.q41, y1.q42, y1.q43, y1.q44, y1.q45, y1.q46, y1.q47, y1.q48, y1.q49, y1.q50, y1.q51, y1.q52, y1.q53, y1.q54, y1.q55, y1.q56, y1.q57, y1.q58, y1.q59, y1.q60, y1.q61, y1.q62, y1.q63, y1.q64, y1.q65, y1.q66, y1.q75, y1.q67, y22.q0, y22.q1, y22.q2, y22.q3, y22.q4, y22.q5, y22.q6, y22.q7, y22.q8, y22.q14, y22.q9, y22.q10, y22.q11, y22.q12, y22.q13, y1.q70, y1.q72, y1.q73, y1.q74⟩))))))))
def jel : Nat → List (Int) → List (Int) → Int → Option (Bool)
 | 0, _, _, _ => none
 | n + 1, x0, x1, x2 => bif (ilt x2 (ofN (List.length x0))) then
 (bif (inb x2 (List.length x0)) then
 (bif (inb x2 (List.length x1)) then
 (bif (ine (List.getD x0 (Int.toNat x2) 0) (List.getD x1 (Int.toNat x2) 0)) then
 (some false)
 else (jel n x0 x1 (iadd .i64 x2 (1))))
 else (none))
 else (none))
 else (some true)
def F125 (n : Nat) (a0 a1 : List (Int)) : Option (Bool) :=
 bif (ine (ofN (List.length a0)) (ofN (List.length a1))) then
 (some false)
 else (jel n a0 a1 (0))
def F44 (_n : Nat) (a0 : Int) (a1 a2 : List (Int)) (a3 a4 a5 a6 a7 a8 a9 a10 a11 a12 a13 a14 a15 a16 a17 a18 a19 a20 : Int) (a21 a22 : List (Int)) (a23 a24 a25 a26 a27 a28 a29 a30 a31 a32 a33 a34 a35 a36 a37 a38 a39 : Int) : Option (Bool) :=
 bif (ieq a0 a20) then
 (Option.bind (F125 FUEL a1 a21) fun y1 =>
 bif y1 then
 (Option.bind (F125 FUEL a2 a22) fun y2 =>
 bif y2 then
 (bif (ieq a3 a23) then
 (some ((ieq a4 a24) && ((ieq a5 a25) && ((ieq a6 a26) && ((ieq a7 a27) && ((ieq a8 a28) && ((ieq a9 a29) && ((ieq a10 a30) && ((ieq a11 a31) && ((ieq a12 a32) && ((ieq a13 a33) && ((ieq a14 a34) && ((ieq a15 a35) && ((ieq a16 a36) && ((ieq a17 a37) && ((ieq a18 a38) && ((ieq a19 a39) && true)))))))))))))))))
 else (some false))
 else (some false))
 else (some false))
 else (some false)
def F162 (_n : Nat) (a0 a1 a2 a3 a4 a5 : Int) (a6 a7 : Bool) (a8 a9 : Int) (a10 : List (Int)) (a11 : ByteArray) (a12 a13 : Int) (a14 : Bool) (a15 a16 a17 a18 a19 a20 a21 a22 a23 a24 a25 : Int) (a26 a27 : Bool) (a28 a29 : Int) (a30 : List (Int)) (a31 : ByteArray) (a32 a33 : Int) (a34 : Bool) (a35 a36 a37 a38 a39 : Int) : Option (Bool) :=
 bif (ieq a0 a20) then
 (Option.bind (F14 FUEL a1 a2 a3 a4 a5 a6 a7 a8 a9 a10 a11 a12 a13 a14 a15 a21 a22 a23 a24 a25 a26 a27 a28 a29 a30 a31 a32 a33 a34 a35) fun y1 =>
 bif y1 then
 (bif (ieq a16 a36) then
 (bif (ieq a17 a37) then
 (bif (ieq a18 a38) then
 (some (ieq a19 a39))
 else (some false))
 else (some false))
 else (some false))
 else (some false))
 else (some false)
def jek : Nat → List (TY0) → List (TY0) → Int → Option (Bool)
 | 0, _, _, _ => none
 | n + 1, x0, x1, x2 => bif (ilt x2 (ofN (List.length x0))) then
 (bif (inb x2 (List.length x0)) then
 (bif (inb x2 (List.length x1)) then
 (Option.bind (F162 FUEL (List.getD x0 (Int.toNat x2) TZ0).1 (List.getD x0 (Int.toNat x2) TZ0).2.1 (List.getD x0 (Int.toNat x2) TZ0).2.2.1 (List.getD x0 (Int.toNat x2) TZ0).2.2.2.1 (List.getD x0 (Int.toNat x2) TZ0).2.2.2.2.1 (List.getD x0 (Int.toNat x2) TZ0).2.2.2.2.2.1 (List.getD x0 (Int.toNat x2) TZ0).2.2.2.2.2.2.1 (List.getD x0 (Int.toNat x2) TZ0).2.2.2.2.2.2.2.1 (List.getD x0 (Int.toNat x2) TZ0).2.2.2.2.2.2.2.2.1 (List.getD x0 (Int.toNat x2) TZ0).2.2.2.2.2.2.2.2.2.1 (List.getD x0 (Int.toNat x2) TZ0).2.2.2.2.2.2.2.2.2.2.1 (List.getD x0 (Int.toNat x2) TZ0).2.2.2.2.2.2.2.2.2.2.2.1 (List.getD x0 (Int.toNat x2) TZ0).2.2.2.2.2.2.2.2.2.2.2.2.1 (List.getD x0 (Int.toNat x2) TZ0).2.2.2.2.2.2.2.2.2.2.2.2.2.1 (List.getD x0 (Int.toNat x2) TZ0).2.2.2.2.2.2.2.2.2.2.2.2.2.2.1 (List.getD x0 (Int.toNat x2) TZ0).2.2.2.2.2.2.2.2.2.2.2.2.2.2.2.1 (List.getD x0 (Int.toNat x2) TZ0).2.2.2.2.2.2.2.2.2.2.2.2.2.2.2.2.1 (List.getD x0 (Int.toNat x2) TZ0).2.2.2.2.2.2.2.2.2.2.2.2.2.2.2.2.2.1 (List.getD x0 (Int.toNat x2) TZ0).2.2.2.2.2.2.2.2.2.2.2.2.2.2.2.2.2.2.1 (List.getD x0 (Int.toNat x2) TZ0).2.2.2.2.2.2.2.2.2.2.2.2.2.2.2.2.2.2.2 (List.getD x1 (Int.toNat x2) TZ0).1 (List.getD x1 (Int.toNat x2) TZ0).2.1 (List.getD x1 (Int.toNat x2) TZ0).2.2.1 (List.getD x1 (Int.toNat x2) TZ0).2.2.2.1 (List.getD x1 (Int.toNat x2) TZ0).2.2.2.2.1 (List.getD x1 (Int.toNat x2) TZ0).2.2.2.2.2.1 (List.getD x1 (Int.toNat x2) TZ0).2.2.2.2.2.2.1 (List.getD x1 (Int.toNat x2) TZ0).2.2.2.2.2.2.2.1 (List.getD x1 (Int.toNat x2) TZ0).2.2.2.2.2.2.2.2.1 (List.getD x1 (Int.toNat x2) TZ0).2.2.2.2.2.2.2.2.2.1 (List.getD x1 (Int.toNat x2) TZ0).2.2.2.2.2.2.2.2.2.2.1 (List.getD x1 (Int.toNat x2) TZ0).2.2.2.2.2.2.2.2.2.2.2.1 (List.getD x1 (Int.toNat x2) TZ0).2.2.2.2.2.2.2.2.2.2.2.2.1 (List.getD x1 (Int.toNat x2) TZ0).2.2.2.2.2.2.2.2.2.2.2.2.2.1 (List.getD x1 (Int.toNat x2) TZ0).2.2.2.2.2.2.2.2.2.2.2.2.2.2.1 (List.getD x1 (Int.toNat x2) TZ0).2.2.2.2.2.2.2.2.2.2.2.2.2.2.2.1 (List.getD x1 (Int.toNat x2) TZ0).2.2.2.2.2.2.2.2.2.2.2.2.2.2.2.2.1 (List.getD x1 (Int.toNat x2) TZ0).2.2.2.2.2.2.2.2.2.2.2.2.2.2.2.2.2.1 (List.getD x1 (Int.toNat x2) TZ0).2.2.2.2.2.2.2.2.2.2.2.2.2.2.2.2.2.2.1 (List.getD x1 (Int.toNat x2) TZ0).2.2.2.2.2.2.2.2.2.2.2.2.2.2.2.2.2.2.2) fun y1 =>
 bif (!y1) then
 (some false)
 else (jek n x0 x1 (iadd .i64 x2 (1))))
 else (none))
 else (none))
 else (some true)
def F126 (n : Nat) (a0 a1 : List (TY0)) : Option (Bool) :=
 bif (ine (ofN (List.length a0)) (ofN (List.length a1))) then
 (some false)
 else (jek n a0 a1 (0))
def F45 (_n : Nat) (a0 a1 : Int) (a2 : List (TY0)) (a3 a4 : Int) (a5 : List (TY0)) : Option (Bool) :=
 bif (ieq a0 a3) then
 (bif (ieq a1 a4) then
 (Option.bind (F126 FUEL a2 a5) fun y1 =>
 some y1)
 else (some false))
 else (some false)
def jiw : Nat → List (TY1) → List (TY1) → Int → Option (Bool)
 | 0, _, _, _ => none
 | n + 1, x0, x1, x2 => bif (ilt x2 (ofN (List.length x0))) then
 (bif (inb x2 (List.length x0)) then
 (bif (inb x2 (List.length x1)) then
 (bif (ine (List.getD x0 (Int.toNat x2) TZ1).1 (List.getD x1 (Int.toNat x2) TZ1).1) then
 (some false)
 else (bif (inb x2 (List.length x0)) then
 (bif (inb x2 (List.length x1)) then
 (bif (ine (List.getD x0 (Int.toNat x2) TZ1).2.1 (List.getD x1 (Int.toNat x2) TZ1).2.1) then
 (some false)
 else (bif (inb x2 (List.length x0)) then
 (bif (inb x2 (List.length x1)) then
 (Option.bind (F14 FUEL (List.getD x0 (Int.toNat x2) TZ1).2.2.1 (List.getD x0 (Int.toNat x2) TZ1).2.2.2.1 (List.getD x0 (Int.toNat x2) TZ1).2.2.2.2.1 (List.getD x0 (Int.toNat x2) TZ1).2.2.2.2.2.1 (List.getD x0 (Int.toNat x2) TZ1).2.2.2.2.2.2.1 (List.getD x0 (Int.toNat x2) TZ1).2.2.2.2.2.2.2.1 (List.getD x0 (Int.toNat x2) TZ1).2.2.2.2.2.2.2.2.1 (List.getD x0 (Int.toNat x2) TZ1).2.2.2.2.2.2.2.2.2.1 (List.getD x0 (Int.toNat x2) TZ1).2.2.2.2.2.2.2.2.2.2.1 (List.getD x0 (Int.toNat x2) TZ1).2.2.2.2.2.2.2.2.2.2.2.1 (List.getD x0 (Int.toNat x2) TZ1).2.2.2.2.2.2.2.2.2.2.2.2.1 (List.getD x0 (Int.toNat x2) TZ1).2.2.2.2.2.2.2.2.2.2.2.2.2.1 (List.getD x0 (Int.toNat x2) TZ1).2.2.2.2.2.2.2.2.2.2.2.2.2.2.1 (List.getD x0 (Int.toNat x2) TZ1).2.2.2.2.2.2.2.2.2.2.2.2.2.2.2.1 (List.getD x0 (Int.toNat x2) TZ1).2.2.2.2.2.2.2.2.2.2.2.2.2.2.2.2 (List.getD x1 (Int.toNat x2) TZ1).2.2.1 (List.getD x1 (Int.toNat x2) TZ1).2.2.2.1 (List.getD x1 (Int.toNat x2) TZ1).2.2.2.2.1 (List.getD x1 (Int.toNat x2) TZ1).2.2.2.2.2.1 (List.getD x1 (Int.toNat x2) TZ1).2.2.2.2.2.2.1 (List.getD x1 (Int.toNat x2) TZ1).2.2.2.2.2.2.2.1 (List.getD x1 (Int.toNat x2) TZ1).2.2.2.2.2.2.2.2.1 (List.getD x1 (Int.toNat x2) TZ1).2.2.2.2.2.2.2.2.2.1 (List.getD x1 (Int.toNat x2) TZ1).2.2.2.2.2.2.2.2.2.2.1 (List.getD x1 (Int.toNat x2) TZ1).2.2.2.2.2.2.2.2.2.2.2.1 (List.getD x1 (Int.toNat x2) TZ1).2.2.2.2.2.2.2.2.2.2.2.2.1 (List.getD x1 (Int.toNat x2) TZ1).2.2.2.2.2.2.2.2.2.2.2.2.2.1 (List.getD x1 (Int.toNat x2) TZ1).2.2.2.2.2.2.2.2.2.2.2.2.2.2.1 (List.getD x1 (Int.toNat x2) TZ1).2.2.2.2.2.2.2.2.2.2.2.2.2.2.2.1 (List.getD x1 (Int.toNat x2) TZ1).2.2.2.2.2.2.2.2.2.2.2.2.2.2.2.2) fun y1 =>
 bif (!y1) then
 (some false)
 else (jiw n x0 x1 (iadd .i64 x2 (1))))
 else (none))
 else (none)))
 else (none))
 else (none)))
 else (none))
 else (none))
 else (some true)
def F46 (n : Nat) (a0 a1 : List (TY1)) : Option (Bool) :=
 bif (ine (ofN (List.length a0)) (ofN (List.length a1))) then
 (some false)
 else (jiw n a0 a1 (0))
def jiu : Nat → Int → Int → Int → Int → Int → Int → Bool → Bool → Int → ByteArray → Int → Int → Bool → Int → List (Int) → Int → Int → Int → Int → Int → Int → Bool → Bool → Int → ByteArray → Int → Int → Bool → Int → List (Int) → Int → Option (Bool)
 | 0, _, _, _, _, _, _, _, _, _, _, _, _, _, _, _, _, _, _, _, _, _, _, _, _, _, _, _, _, _, _, _ => none
 | n + 1, x0, x1, x2, x3, x4, x5, x6, x7, x8, x9, x10, x11, x12, x13, x14, x15, x16, x17, x18, x19, x20, x21, x22, x23, x24, x25, x26, x27, x28, x29, x30 => bif (ilt x0 (ofN (List.length x14))) then
 (bif (inb x0 (List.length x14)) then
 (bif (inb x0 (List.length x29)) then
 (bif (ine (List.getD x14 (Int.toNat x0) 0) (List.getD x29 (Int.toNat x0) 0)) then
 (some false)
 else (jiu n (iadd .i64 x0 (1)) x1 x2 x3 x4 x5 x6 x7 x8 x9 x10 x11 x12 x13 x14 x15 x16 x17 x18 x19 x20 x21 x22 x23 x24 x25 x26 x27 x28 x29 x30))
 else (none))
 else (none))
 else (bif (ieq x1 x16) then
 (bif (ieq x2 x17) then
 (bif ((ieq x3 x18) && ((ieq x4 x19) && ((ieq x5 x20) && ((beqb x6 x21) && ((beqb x7 x22) && ((ieq x8 x23) && true)))))) then
 (bif ((steq x9 x24) && ((ieq x10 x25) && ((ieq x11 x26) && ((beqb x12 x27) && true)))) then
 (bif (ieq x13 x28) then
 (some (ieq x15 x30))
 else (some false))
 else (some false))
 else (some false))
 else (some false))
 else (some false))
def F47 (n : Nat) (a0 a1 a2 a3 a4 : Int) (a5 a6 : Bool) (a7 : Int) (a8 : ByteArray) (a9 a10 : Int) (a11 : Bool) (a12 : Int) (a13 : List (Int)) (a14 a15 a16 a17 a18 a19 : Int) (a20 a21 : Bool) (a22 : Int) (a23 : ByteArray) (a24 a25 : Int) (a26 : Bool) (a27 : Int) (a28 : List (Int)) (a29 : Int) : Option (Bool) :=
 bif (ine (ofN (List.length a13)) (ofN (List.length a28))) then
 (some false)
 else (jiu n (0) a0 a1 a2 a3 a4 a5 a6 a7 a8 a9 a10 a11 a12 a13 a14 a15 a16 a17 a18 a19 a20 a21 a22 a23 a24 a25 a26 a27 a28 a29)
def jhj : Nat → Int → Int → List (Int) → List (Int) → Int → Int → Int → Int → Int → Int → Int → Int → Int → Int → Int → Int → Int → Int → Int → Int → Int → Int → Int → Int → List (TY0) → List (TY1) → Int → Int → Int → Int → Int → Int → Int → Bool → Bool → Int → ByteArray → Int → Int → Bool → Int → List (Int) → Int → Int → Int → Int → Int → Int → Bool → Bool → Int → ByteArray → Int → Int → Bool → Int → List (Int) → Int → Int → Int → Int → Int → Int → Bool → Bool → Int → ByteArray → Int → Int → Bool → Int → List (Int) → Int → Int → ByteArray → List (ByteArray × Int × Int × Bool) → Int → Int → List (Int) → List (Int) → Int → Int → Int → Int → Int → Int → Int → Int → Int → Int → Int → Int → Int → Int → Int → Int → Int → Int → Int → Int → List (TY0) → List (TY1) → Int → Int → Int → Int → Int → Int → Int → Bool → Bool → Int → ByteArray → Int → Int → Bool → Int → List (Int) → Int → Int → Int → Int → Int → Int → Bool → Bool → Int → ByteArray → Int → Int → Bool → Int → List (Int) → Int → Int → Int → Int → Int → Int → Bool → Bool → Int → ByteArray → Int → Int → Bool → Int → List (Int) → Int → Int → ByteArray → List (ByteArray × Int × Int × Bool) → Int → Option (Bool)
 | 0, _, _, _, _, _, _, _, _, _, _, _, _, _, _, _, _, _, _, _, _, _, _, _, _, _, _, _, _, _, _, _, _, _, _, _, _, _, _, _, _, _, _, _, _, _, _, _, _, _, _, _, _, _, _, _, _, _, _, _, _, _, _, _, _, _, _, _, _, _, _, _, _, _, _, _, _, _, _, _, _, _, _, _, _, _, _, _, _, _, _, _, _, _, _, _, _, _, _, _, _, _, _, _, _, _, _, _, _, _, _, _, _, _, _, _, _, _, _, _, _, _, _, _, _, _, _, _, _, _, _, _, _, _, _, _, _, _, _, _, _, _, _, _, _, _, _, _, _, _, _, _, _, _ => none
 | n + 1, x0, x1, x2, x3, x4, x5, x6, x7, x8, x9, x10, x11, x12, x13, x14, x15, x16, x17, x18, x19, x20, x21, x22, x23, x24, x25, x26, x27, x28, x29, x30, x31, x32, x33, x34, x35, x36, x37, x38, x39, x40, x41, x42, x43, x44, x45, x46, x47, x48, x49, x50, x51, x52, x53, x54, x55, x56, x57, x58, x59, x60, x61, x62, x63, x64, x65, x66, x67, x68, x69, x70, x71, x72, x73, x74, x75, x76, x77, x78, x79, x80, x81, x82, x83, x84, x85, x86, x87, x88, x89, x90, x91, x92, x93, x94, x95, x96, x97, x98, x99, x100, x101, x102, x103, x104, x105, x106, x107, x108, x109, x110, x111, x112, x113, x114, x115, x116, x117, x118, x119, x120, x121, x122, x123, x124, x125, x126, x127, x128, x129, x130, x131, x132, x133, x134, x135, x136, x137, x138, x139, x140, x141, x142, x143, x144, x145, x146, x147, x148, x149, x150, x151, x152 => bif (ilt x0 (ofN (List.length x75))) then
 (bif (inb x0 (List.length x75)) then
 (bif (inb x0 (List.length x151)) then
 (bif (!((steq (List.getD x75 (Int.toNat x0) (ByteArray.empty, 0, 0, false)).1 (List.getD x151 (Int.toNat x0) (ByteArray.empty, 0, 0, false)).1) && ((ieq (List.getD x75 (Int.toNat x0) (ByteArray.empty, 0, 0, false)).2.1 (List.getD x151 (Int.toNat x0) (ByteArray.empty, 0, 0, false)).2.1) && ((ieq (List.getD x75 (Int.toNat x0) (ByteArray.empty, 0, 0, false)).2.2.1 (List.getD x151 (Int.toNat x0) (ByteArray.empty, 0, 0, false)).2.2.1) && ((beqb (List.getD x75 (Int.toNat x0) (ByteArray.empty, 0, 0, false)).2.2.2 (List.getD x151 (Int.toNat x0) (ByteArray.empty, 0, 0, false)).2.2.2) && true))))) then
 (some false)
 else (jhj n (iadd .i64 x0 (1)) x1 x2 x3 x4 x5 x6 x7 x8 x9 x10 x11 x12 x13 x14 x15 x16 x17 x18 x19 x20 x21 x22 x23 x24 x25 x26 x27 x28 x29 x30 x31 x32 x33 x34 x35 x36 x37 x38 x39 x40 x41 x42 x43 x44 x45 x46 x47 x48 x49 x50 x51 x52 x53 x54 x55 x56 x57 x58 x59 x60 x61 x62 x63 x64 x65 x66 x67 x68 x69 x70 x71 x72 x73 x74 x75 x76 x77 x78 x79 x80 x81 x82 x83 x84 x85 x86 x87 x88 x89 x90 x91 x92 x93 x94 x95 x96 x97 x98 x99 x100 x101 x102 x103 x104 x105 x106 x107 x108 x109 x110 x111 x112 x113 x114 x115 x116 x117 x118 x119 x120 x121 x122 x123 x124 x125 x126 x127 x128 x129 x130 x131 x132 x133 x134 x135 x136 x137 x138 x139 x140 x141 x142 x143 x144 x145 x146 x147 x148 x149 x150 x151 x152))
 else (none))
 else (none))
 else (bif (ieq x21 x97) then
 (bif ((ieq x26 x102) && ((ieq x27 x103) && true)) then
 (Option.bind (F47 FUEL x28 x29 x30 x31 x32 x33 x34 x35 x36 x37 x38 x39 x40 x41 x42 x104 x105 x106 x107 x108 x109 x110 x111 x112 x113 x114 x115 x116 x117 x118) fun y4 =>
 bif y4 then
 (Option.bind (F47 FUEL x43 x44 x45 x46 x47 x48 x49 x50 x51 x52 x53 x54 x55 x56 x57 x119 x120 x121 x122 x123 x124 x125 x126 x127 x128 x129 x130 x131 x132 x133) fun y5 =>
 bif y5 then
 (Option.bind (F47 FUEL x58 x59 x60 x61 x62 x63 x64 x65 x66 x67 x68 x69 x70 x71 x72 x134 x135 x136 x137 x138 x139 x140 x141 x142 x143 x144 x145 x146 x147 x148) fun y6 =>
 bif y6 then
 (bif (ieq x73 x149) then
 (bif (steq x74 x150) then
 (some (ieq x76 x152))
 else (some false))
 else (some false))
 else (some false))
 else (some false))
 else (some false))
 else (some false))
 else (some false))
def F13 (n : Nat) (a0 : Int) (a1 a2 : List (Int)) (a3 a4 a5 a6 a7 a8 a9 a10 a11 a12 a13 a14 a15 a16 a17 a18 a19 a20 a21 a22 : Int) (a23 : List (TY0)) (a24 : List (TY1)) (a25 a26 a27 a28 a29 a30 a31 : Int) (a32 a33 : Bool) (a34 : Int) (a35 : ByteArray) (a36 a37 : Int) (a38 : Bool) (a39 : Int) (a40 : List (Int)) (a41 a42 a43 a44 a45 a46 : Int) (a47 a48 : Bool) (a49 : Int) (a50 : ByteArray) (a51 a52 : Int) (a53 : Bool) (a54 : Int) (a55 : List (Int)) (a56 a57 a58 a59 a60 a61 : Int) (a62 a63 : Bool) (a64 : Int) (a65 : ByteArray) (a66 a67 : Int) (a68 : Bool) (a69 : Int) (a70 : List (Int)) (a71 a72 : Int) (a73 : ByteArray) (a74 : List (ByteArray × Int × Int × Bool)) (a75 a76 : Int) (a77 a78 : List (Int)) (a79 a80 a81 a82 a83 a84 a85 a86 a87 a88 a89 a90 a91 a92 a93 a94 a95 a96 a97 a98 : Int) (a99 : List (TY0)) (a100 : List (TY1)) (a101 a102 a103 a104 a105 a106 a107 : Int) (a108 a109 : Bool) (a110 : Int) (a111 : ByteArray) (a112 a113 : Int) (a114 : Bool) (a115 : Int) (a116 : List (Int)) (a117 a118 a119 a120 a121 a122 : Int) (a123 a124 : Bool) (a125 : Int) (a126 : ByteArray) (a127 a128 : Int) (a129 : Bool) (a130 : Int) (a131 : List (Int)) (a132 a133 a134 a135 a136 a137 : Int) (a138 a139 : Bool) (a140 : Int) (a141 : ByteArray) (a142 a143 : Int) (a144 : Bool) (a145 : Int) (a146 : List (Int)) (a147 a148 : Int) (a149 : ByteArray) (a150 : List (ByteArray × Int × Int × Bool)) (a151 : Int) : Option (Bool) :=
 Option.bind (F44 FUEL a0 a1 a2 a3 a4 a5 a6 a7 a8 a9 a10 a11 a12 a13 a14 a15 a16 a17 a18 a19 a76 a77 a78 a79 a80 a81 a82 a83 a84 a85 a86 a87 a88 a89 a90 a91 a92 a93 a94 a95) fun y1 =>
 bif (!y1) then
 (some false)
 else (Option.bind (F45 FUEL a21 a22 a23 a97 a98 a99) fun y2 =>
 bif (!y2) then
 (some false)
 else (Option.bind (F46 FUEL a24 a100) fun y3 =>
 bif (!y3) then
 (some false)
 else (bif (ine (ofN (List.length a74)) (ofN (List.length a150))) then
 (some false)
 else (jhj n (0) a0 a1 a2 a3 a4 a5 a6 a7 a8 a9 a10 a11 a12 a13 a14 a15 a16 a17 a18 a19 a20 a21 a22 a23 a24 a25 a26 a27 a28 a29 a30 a31 a32 a33 a34 a35 a36 a37 a38 a39 a40 a41 a42 a43 a44 a45 a46 a47 a48 a49 a50 a51 a52 a53 a54 a55 a56 a57 a58 a59 a60 a61 a62 a63 a64 a65 a66 a67 a68 a69 a70 a71 a72 a73 a74 a75 a76 a77 a78 a79 a80 a81 a82 a83 a84 a85 a86 a87 a88 a89 a90 a91 a92 a93 a94 a95 a96 a97 a98 a99 a100 a101 a102 a103 a104 a105 a106 a107 a108 a109 a110 a111 a112 a113 a114 a115 a116 a117 a118 a119 a120 a121 a122 a123 a124 a125 a126 a127 a128 a129 a130 a131 a132 a133 a134 a135 a136 a137 a138 a139 a140 a141 a142 a143 a144 a145 a146 a147 a148 a149 a150 a151))))
def F76 (_n : Nat) (a0 : Int) (a1 a2 : List (Int)) (a3 a4 a5 a6 a7 a8 a9 a10 a11 a12 a13 a14 a15 a16 a17 a18 a19 a20 : Int) (a21 a22 : List (Int)) (a23 a24 a25 a26 a27 a28 a29 a30 a31 a32 a33 a34 a35 a36 a37 a38 a39 : Int) : Option (Bool) :=
 bif (ieq a0 a20) then
 (bif (ieq a3 a23) then
 (bif ((ieq a4 a24) && ((ieq a5 a25) && ((ieq a6 a26) && ((ieq a7 a27) && ((ieq a8 a28) && ((ieq a9 a29) && ((ieq a10 a30) && ((ieq a11 a31) && ((ieq a12 a32) && ((ieq a13 a33) && ((ieq a14 a34) && ((ieq a15 a35) && ((ieq a16 a36) && ((ieq a17 a37) && ((ieq a18 a38) && ((ieq a19 a39) && true)))))))))))))))) then
 (Option.bind (F148 FUEL a1 a21) fun y1 =>
 bif y1 then
 (Option.bind (F148 FUEL a2 a22) fun y2 =>
 some y2)
 else (some false))
 else (some false))
 else (some false))
 else (some false)
def jin : Nat → List (ByteArray × Int × Int × Bool) → List (ByteArray × Int × Int × Bool) → Int → Int → Option (Bool)
 | 0, _, _, _, _ => none
 | n + 1, x0, x1, x2, x3 => bif (ilt x3 x2) then
 (bif (inb x3 (List.length x0)) then
 (bif (inb x3 (List.length x1)) then
 (bif (!((steq (List.getD x0 (Int.toNat x3) (ByteArray.empty, 0, 0, false)).1 (List.getD x1 (Int.toNat x3) (ByteArray.empty, 0, 0, false)).1) && ((ieq (List.getD x0 (Int.toNat x3) (ByteArray.empty, 0, 0, false)).2.1 (List.getD x1 (Int.toNat x3) (ByteArray.empty, 0, 0, false)).2.1) && ((ieq (List.getD x0 (Int.toNat x3) (ByteArray.empty, 0, 0, false)).2.2.1 (List.getD x1 (Int.toNat x3) (ByteArray.empty, 0, 0, false)).2.2.1) && ((beqb (List.getD x0 (Int.toNat x3) (ByteArray.empty, 0, 0, false)).2.2.2 (List.getD x1 (Int.toNat x3) (ByteArray.empty, 0, 0, false)).2.2.2) && true))))) then
 (some false)
 else (jin n x0 x1 x2 (iadd .i64 x3 (1))))
 else (none))
 else (none))
 else (some true)
def F78 (n : Nat) (a0 a1 : List (ByteArray × Int × Int × Bool)) : Option (Bool) :=
 bif (ine (ofN (List.length a0)) (ofN (List.length a1))) then
 (some false)
 else (jin n a0 a1 (ofN (List.length a0)) (0))
def F80 (_n : Nat) (a0 a1 a2 a3 a4 : Int) (a5 a6 : Bool) (a7 : Int) (a8 : ByteArray) (a9 a10 : Int) (a11 : Bool) (a12 : Int) (a13 : List (Int)) (a14 a15 a16 a17 a18 a19 : Int) (a20 a21 : Bool) (a22 : Int) (a23 : ByteArray) (a24 a25 : Int) (a26 : Bool) (a27 : Int) (a28 : List (Int)) (a29 : Int) : Option (Bool) :=
 bif (ieq a0 a15) then
 (bif (ieq a1 a16) then
 (bif ((ieq a2 a17) && ((ieq a3 a18) && ((ieq a4 a19) && ((beqb a5 a20) && ((beqb a6 a21) && ((ieq a7 a22) && true)))))) then
 (bif ((steq a8 a23) && ((ieq a9 a24) && ((ieq a10 a25) && ((beqb a11 a26) && true)))) then
 (bif (ieq a12 a27) then
 (Option.bind (F148 FUEL a13 a28) fun y1 =>
 bif y1 then
 (some (ieq a14 a29))
 else (some false))
 else (some false))
 else (some false))
 else (some false))
 else (some false))
 else (some false)
def F150 (_n : Nat) (a0 a1 a2 a3 a4 a5 : Int) (a6 a7 : Bool) (a8 a9 : Int) (a10 : List (Int)) (a11 : ByteArray) (a12 a13 : Int) (a14 : Bool) (a15 a16 a17 a18 a19 a20 a21 a22 a23 a24 a25 : Int) (a26 a27 : Bool) (a28 a29 : Int) (a30 : List (Int)) (a31 : ByteArray) (a32 a33 : Int) (a34 : Bool) (a35 a36 a37 a38 a39 : Int) : Option (Bool) :=
 bif (ieq a0 a20) then
 (bif (ieq a16 a36) then
 (bif (ieq a17 a37) then
 (bif (ieq a18 a38) then
 (bif (ieq a19 a39) then
 (Option.bind (F146 FUEL a1 a2 a3 a4 a5 a6 a7 a8 a9 a10 a11 a12 a13 a14 a15 a21 a22 a23 a24 a25 a26 a27 a28 a29 a30 a31 a32 a33 a34 a35) fun y1 =>
 some y1)
 else (some false))
 else (some false))
 else (some false))
 else (some false))
 else (some false)
def jgy : Nat → List (TY0) → List (TY0) → Int → Int → Bool → Option (Bool)
 | 0, _, _, _, _, _ => none
 | n + 1, x0, x1, x2, x3, x4 => bif (ilt x3 x2) then
 (bif (inb x3 (List.length x1)) then
 (bif (inb x3 (List.length x0)) then
 (Option.bind (F150 FUEL (List.getD x1 (Int.toNat x3) TZ0).1 (List.getD x1 (Int.toNat x3) TZ0).2.1 (List.getD x1 (Int.toNat x3) TZ0).2.2.1 (List.getD x1 (Int.toNat x3) TZ0).2.2.2.1 (List.getD x1 (Int.toNat x3) TZ0).2.2.2.2.1 (List.getD x1 (Int.toNat x3) TZ0).2.2.2.2.2.1 (List.getD x1 (Int.toNat x3) TZ0).2.2.2.2.2.2.1 (List.getD x1 (Int.toNat x3) TZ0).2.2.2.2.2.2.2.1 (List.getD x1 (Int.toNat x3) TZ0).2.2.2.2.2.2.2.2.1 (List.getD x1 (Int.toNat x3) TZ0).2.2.2.2.2.2.2.2.2.1 (List.getD x1 (Int.toNat x3) TZ0).2.2.2.2.2.2.2.2.2.2.1 (List.getD x1 (Int.toNat x3) TZ0).2.2.2.2.2.2.2.2.2.2.2.1 (List.getD x1 (Int.toNat x3) TZ0).2.2.2.2.2.2.2.2.2.2.2.2.1 (List.getD x1 (Int.toNat x3) TZ0).2.2.2.2.2.2.2.2.2.2.2.2.2.1 (List.getD x1 (Int.toNat x3) TZ0).2.2.2.2.2.2.2.2.2.2.2.2.2.2.1 (List.getD x1 (Int.toNat x3) TZ0).2.2.2.2.2.2.2.2.2.2.2.2.2.2.2.1 (List.getD x1 (Int.toNat x3) TZ0).2.2.2.2.2.2.2.2.2.2.2.2.2.2.2.2.1 (List.getD x1 (Int.toNat x3) TZ0).2.2.2.2.2.2.2.2.2.2.2.2.2.2.2.2.2.1 (List.getD x1 (Int.toNat x3) TZ0).2.2.2.2.2.2.2.2.2.2.2.2.2.2.2.2.2.2.1 (List.getD x1 (Int.toNat x3) TZ0).2.2.2.2.2.2.2.2.2.2.2.2.2.2.2.2.2.2.2 (List.getD x0 (Int.toNat x3) TZ0).1 (List.getD x0 (Int.toNat x3) TZ0).2.1 (List.getD x0 (Int.toNat x3) TZ0).2.2.1 (List.getD x0 (Int.toNat x3) TZ0).2.2.2.1 (List.getD x0 (Int.toNat x3) TZ0).2.2.2.2.1 (List.getD x0 (Int.toNat x3) TZ0).2.2.2.2.2.1 (List.getD x0 (Int.toNat x3) TZ0).2.2.2.2.2.2.1 (List.getD x0 (Int.toNat x3) TZ0).2.2.2.2.2.2.2.1 (List.getD x0 (Int.toNat x3) TZ0).2.2.2.2.2.2.2.2.1 (List.getD x0 (Int.toNat x3) TZ0).2.2.2.2.2.2.2.2.2.1 (List.getD x0 (Int.toNat x3) TZ0).2.2.2.2.2.2.2.2.2.2.1 (List.getD x0 (Int.toNat x3) TZ0).2.2.2.2.2.2.2.2.2.2.2.1 (List.getD x0 (Int.toNat x3) TZ0).2.2.2.2.2.2.2.2.2.2.2.2.1 (List.getD x0 (Int.toNat x3) TZ0).2.2.2.2.2.2.2.2.2.2.2.2.2.1 (List.getD x0 (Int.toNat x3) TZ0).2.2.2.2.2.2.2.2.2.2.2.2.2.2.1 (List.getD x0 (Int.toNat x3) TZ0).2.2.2.2.2.2.2.2.2.2.2.2.2.2.2.1 (List.getD x0 (Int.toNat x3) TZ0).2.2.2.2.2.2.2.2.2.2.2.2.2.2.2.2.1 (List.getD x0 (Int.toNat x3) TZ0).2.2.2.2.2.2.2.2.2.2.2.2.2.2.2.2.2.1 (List.getD x0 (Int.toNat x3) TZ0).2.2.2.2.2.2.2.2.2.2.2.2.2.2.2.2.2.2.1 (List.getD x0 (Int.toNat x3) TZ0).2.2.2.2.2.2.2.2.2.2.2.2.2.2.2.2.2.2.2) fun y1 =>
 bif (!y1) then
 (some (bif x4 then false else false))
 else (jgy n x0 x1 x2 (iadd .i64 x3 (1)) x4))
 else (none))
 else (none))
 else (some (bif x4 then true else false))
def F84 (n : Nat) (a0 a1 : Int) (a2 : List (TY0)) (a3 a4 : Int) (a5 : List (TY0)) : Option (Bool) :=
 bif (ieq a0 a3) then
 (bif (ieq a1 a4) then
 (bif (ine (ofN (List.length a2)) (ofN (List.length a5))) then
 (some false)
 else (jgy n a5 a2 (ofN (List.length a2)) (0) true))
 else (some false))
 else (some false)
def jim : Nat → List (TY1) → Int → Int → List (TY1) → Bool → Option (Bool)
 | 0, _, _, _, _, _ => none
 | n + 1, x0, x1, x2, x3, x4 => bif (ilt x2 x1) then
 (bif (inb x2 (List.length x0)) then
 (bif (inb x2 (List.length x3)) then
 (bif (ine (List.getD x0 (Int.toNat x2) TZ1).1 (List.getD x3 (Int.toNat x2) TZ1).1) then
 (some false)
 else (bif (inb x2 (List.length x3)) then
 (bif (ine (List.getD x0 (Int.toNat x2) TZ1).2.1 (List.getD x3 (Int.toNat x2) TZ1).2.1) then
 (some false)
 else (bif (inb x2 (List.length x3)) then
 (Option.bind (F146 FUEL (List.getD x0 (Int.toNat x2) TZ1).2.2.1 (List.getD x0 (Int.toNat x2) TZ1).2.2.2.1 (List.getD x0 (Int.toNat x2) TZ1).2.2.2.2.1 (List.getD x0 (Int.toNat x2) TZ1).2.2.2.2.2.1 (List.getD x0 (Int.toNat x2) TZ1).2.2.2.2.2.2.1 (List.getD x0 (Int.toNat x2) TZ1).2.2.2.2.2.2.2.1 (List.getD x0 (Int.toNat x2) TZ1).2.2.2.2.2.2.2.2.1 (List.getD x0 (Int.toNat x2) TZ1).2.2.2.2.2.2.2.2.2.1 (List.getD x0 (Int.toNat x2) TZ1).2.2.2.2.2.2.2.2.2.2.1 (List.getD x0 (Int.toNat x2) TZ1).2.2.2.2.2.2.2.2.2.2.2.1 (List.getD x0 (Int.toNat x2) TZ1).2.2.2.2.2.2.2.2.2.2.2.2.1 (List.getD x0 (Int.toNat x2) TZ1).2.2.2.2.2.2.2.2.2.2.2.2.2.1 (List.getD x0 (Int.toNat x2) TZ1).2.2.2.2.2.2.2.2.2.2.2.2.2.2.1 (List.getD x0 (Int.toNat x2) TZ1).2.2.2.2.2.2.2.2.2.2.2.2.2.2.2.1 (List.getD x0 (Int.toNat x2) TZ1).2.2.2.2.2.2.2.2.2.2.2.2.2.2.2.2 (List.getD x3 (Int.toNat x2) TZ1).2.2.1 (List.getD x3 (Int.toNat x2) TZ1).2.2.2.1 (List.getD x3 (Int.toNat x2) TZ1).2.2.2.2.1 (List.getD x3 (Int.toNat x2) TZ1).2.2.2.2.2.1 (List.getD x3 (Int.toNat x2) TZ1).2.2.2.2.2.2.1 (List.getD x3 (Int.toNat x2) TZ1).2.2.2.2.2.2.2.1 (List.getD x3 (Int.toNat x2) TZ1).2.2.2.2.2.2.2.2.1 (List.getD x3 (Int.toNat x2) TZ1).2.2.2.2.2.2.2.2.2.1 (List.getD x3 (Int.toNat x2) TZ1).2.2.2.2.2.2.2.2.2.2.1 (List.getD x3 (Int.toNat x2) TZ1).2.2.2.2.2.2.2.2.2.2.2.1 (List.getD x3 (Int.toNat x2) TZ1).2.2.2.2.2.2.2.2.2.2.2.2.1 (List.getD x3 (Int.toNat x2) TZ1).2.2.2.2.2.2.2.2.2.2.2.2.2.1 (List.getD x3 (Int.toNat x2) TZ1).2.2.2.2.2.2.2.2.2.2.2.2.2.2.1 (List.getD x3 (Int.toNat x2) TZ1).2.2.2.2.2.2.2.2.2.2.2.2.2.2.2.1 (List.getD x3 (Int.toNat x2) TZ1).2.2.2.2.2.2.2.2.2.2.2.2.2.2.2.2) fun y1 =>
 bif (!y1) then
 (some false)
 else (jim n x0 x1 (iadd .i64 x2 (1)) x3 x4))
 else (none)))
 else (none)))
 else (none))
 else (none))
 else (some true)
def F86 (n : Nat) (a0 a1 : List (TY1)) : Option (Bool) :=
 bif (ine (ofN (List.length a0)) (ofN (List.length a1))) then
 (some false)
 else (jim n a0 (ofN (List.length a0)) (0) a1 false)
def F19 (_n : Nat) (a0 : Int) (a1 a2 : List (Int)) (a3 a4 a5 a6 a7 a8 a9 a10 a11 a12 a13 a14 a15 a16 a17 a18 a19 a20 a21 a22 : Int) (a23 : List (TY0)) (a24 : List (TY1)) (a25 a26 a27 a28 a29 a30 a31 : Int) (a32 a33 : Bool) (a34 : Int) (a35 : ByteArray) (a36 a37 : Int) (a38 : Bool) (a39 : Int) (a40 : List (Int)) (a41 a42 a43 a44 a45 a46 : Int) (a47 a48 : Bool) (a49 : Int) (a50 : ByteArray) (a51 a52 : Int) (a53 : Bool) (a54 : Int) (a55 : List (Int)) (a56 a57 a58 a59 a60 a61 : Int) (a62 a63 : Bool) (a64 : Int) (a65 : ByteArray) (a66 a67 : Int) (a68 : Bool) (a69 : Int) (a70 : List (Int)) (a71 a72 : Int) (a73 : ByteArray) (a74 : List (ByteArray × Int × Int × Bool)) (a75 a76 : Int) (a77 a78 : List (Int)) (a79 a80 a81 a82 a83 a84 a85 a86 a87 a88 a89 a90 a91 a92 a93 a94 a95 a96 a97 a98 : Int) (a99 : List (TY0)) (a100 : List (TY1)) (a101 a102 a103 a104 a105 a106 a107 : Int) (a108 a109 : Bool) (a110 : Int) (a111 : ByteArray) (a112 a113 : Int) (a114 : Bool) (a115 : Int) (a116 : List (Int)) (a117 a118 a119 a120 a121 a122 : Int) (a123 a124 : Bool) (a125 : Int) (a126 : ByteArray) (a127 a128 : Int) (a129 : Bool) (a130 : Int) (a131 : List (Int)) (a132 a133 a134 a135 a136 a137 : Int) (a138 a139 : Bool) (a140 : Int) (a141 : ByteArray) (a142 a143 : Int) (a144 : Bool) (a145 : Int) (a146 : List (Int)) (a147 a148 : Int) (a149 : ByteArray) (a150 : List (ByteArray × Int × Int × Bool)) (a151 : Int) : Option (Bool) :=
 bif (ieq a20 a96) then
 (bif (ieq a72 a148) then
 (bif (steq a73 a149) then
 (bif (!(ieq a75 a151)) then
 (some false)
 else (bif (!((ieq a25 a101) && ((ieq a26 a102) && true))) then
 (some false)
 else (Option.bind (F76 FUEL a0 a1 a2 a3 a4 a5 a6 a7 a8 a9 a10 a11 a12 a13 a14 a15 a16 a17 a18 a19 a76 a77 a78 a79 a80 a81 a82 a83 a84 a85 a86 a87 a88 a89 a90 a91 a92 a93 a94 a95) fun y1 =>
 bif (!y1) then
 (some false)
 else (Option.bind (F78 FUEL a74 a150) fun y2 =>
 bif (!y2) then
 (some false)
 else (Option.bind (F80 FUEL a27 a28 a29 a30 a31 a32 a33 a34 a35 a36 a37 a38 a39 a40 a41 a103 a104 a105 a106 a107 a108 a109 a110 a111 a112 a113 a114 a115 a116 a117) fun y3 =>
 bif (!y3) then
 (some false)
 else (Option.bind (F80 FUEL a42 a43 a44 a45 a46 a47 a48 a49 a50 a51 a52 a53 a54 a55 a56 a118 a119 a120 a121 a122 a123 a124 a125 a126 a127 a128 a129 a130 a131 a132) fun y4 =>
 bif (!y4) then
 (some false)
 else (Option.bind (F80 FUEL a57 a58 a59 a60 a61 a62 a63 a64 a65 a66 a67 a68 a69 a70 a71 a133 a134 a135 a136 a137 a138 a139 a140 a141 a142 a143 a144 a145 a146 a147) fun y5 =>
 bif (!y5) then
 (some false)
 else (Option.bind (F84 FUEL a21 a22 a23 a97 a98 a99) fun y6 =>
 bif (!y6) then
 (some false)
 else (Option.bind (F86 FUEL a24 a100) fun y7 =>
 bif (!y7) then
 (some false)
 else (some true))))))))))
 else (some false))
 else (some false))
 else (some false)
def F10 (_n : Nat) : Option (Bool) :=
 Option.bind (F34 FUEL (5) [(1), (9)]) fun y1 =>
 Option.bind (F30 FUEL (2) (9) (1) (5)) fun y2 =>
 Option.bind (F11 FUEL y1.q0 y1.q68 [] y1.q1 y1.q2 y1.q3 y1.q4 y1.q5 y1.q6 y1.q7 y1.q8 y1.q9 y1.q10 y1.q11 y1.q12 y1.q13 y1.q14 y1.q15 y1.q16 y1.q17 y1.q18 y1.q19 y1.q20 [] [] y1.q21 y1.q22 y1.q23 y1.q24 y1.q25 y1.q26 y1.q27 y1.q28 y1.q29 y1.q30 y1.q31 y1.q32 y1.q33 y1.q34 y1.q35 [] y1.q36 y1.q37 y1.q38 y1.q39 y1.q40 y1.q41 y1.q42 y1.q43 y1.q44 y1.q45 y1.q46 y1.q47 y1.q48 y1.q49 [] y1.q50 y1.q51 y1.q52 y1.q53 y1.q54 y1.q55 y1.q56 y1.q57 y1.q58 y1.q59 y1.q60 y1.q61 y1.q62 y1.q63 [] y1.q64 y1.q65 y1.q66 [] y1.q67 y2.q0 y2.q1 y2.q2 y2.q3 y2.q4 y2.q5 y2.q6 y2.q7 y2.q8 [] y2.q9 y2.q10 y2.q11 y2.q12 y2.q13) fun y3 =>
 Option.bind (F30 FUEL (3) (9) (2) (5)) fun y4 =>
 Option.bind (F11 FUEL y3.q0 y3.q1 y3.q2 y3.q3 y3.q4 y3.q5 y3.q6 y3.q7 y3.q8 y3.q9 y3.q10 y3.q11 y3.q12 y3.q13 y3.q14 y3.q15 y3.q16 y3.q17 y3.q18 y3.q19 y3.q20 y3.q21 y3.q22 y3.q87 y3.q23 y3.q24 y3.q25 y3.q26 y3.q27 y3.q28 y3.q29 y3.q30 y3.q31 y3.q32 y3.q33 y3.q34 y3.q35 y3.q36 y3.q37 y3.q38 y3.q88 y3.q39 y3.q40 y3.q41 y3.q42 y3.q43 y3.q44 y3.q45 y3.q46 y3.q47 y3.q48 y3.q49 y3.q50 y3.q51 y3.q52 y3.q89 y3.q53 y3.q54 y3.q55 y3.q56 y3.q57 y3.q58 y3.q59 y3.q60 y3.q61 y3.q62 y3.q63 y3.q64 y3.q65 y3.q66 y3.q90 y3.q67 y3.q68 y3.q69 y3.q70 y3.q71 y4.q0 y4.q1 y4.q2 y4.q3 y4.q4 y4.q5 y4.q6 y4.q7 y4.q8 [] y4.q9 y4.q10 y4.q11 y4.q12 y4.q13) fun y5 =>
 Option.bind (F30 FUEL (3) (9) (2) (5)) fun y6 =>
 Option.bind (F11 FUEL y5.q0 y5.q1 y5.q2 y5.q3 y5.q4 y5.q5 y5.q6 y5.q7 y5.q8 y5.q9 y5.q10 y5.q11 y5.q12 y5.q13 y5.q14 y5.q15 y5.q16 y5.q17 y5.q18 y5.q19 y5.q20 y5.q21 y5.q22 y5.q87 y5.q23 y5.q24 y5.q25 y5.q26 y5.q27 y5.q28 y5.q29 y5.q30 y5.q31 y5.q32 y5.q33 y5.q34 y5.q35 y5.q36 y5.q37 y5.q38 y5.q88 y5.q39 y5.q40 y5.q41 y5.q42 y5.q43 y5.q44 y5.q45 y5.q46 y5.q47 y5.q48 y5.q49 y5.q50 y5.q51 y5.q52 y5.q89 y5.q53 y5.q54 y5.q55 y5.q56 y5.q57 y5.q58 y5.q59 y5.q60 y5.q61 y5.q62 y5.q63 y5.q64 y5.q65 y5.q66 y5.q90 y5.q67 y5.q68 y5.q69 y5.q70 y5.q71 y6.q0 y6.q1 y6.q2 y6.q3 y6.q4 y6.q5 y6.q6 y6.q7 y6.q8 [] y6.q9 y6.q10 y6.q11 y6.q12 y6.q13) fun y7 =>
 Option.bind (F30 FUEL (5) (1) (7) (5)) fun y8 =>
 Option.bind (F11 FUEL y7.q0 y7.q1 y7.q2 y7.q3 y7.q4 y7.q5 y7.q6 y7.q7 y7.q8 y7.q9 y7.q10 y7.q11 y7.q12 y7.q13 y7.q14 y7.q15 y7.q16 y7.q17 y7.q18 y7.q19 y7.q20 y7.q21 y7.q22 y7.q87 y7.q23 y7.q24 y7.q25 y7.q26 y7.q27 y7.q28 y7.q29 y7.q30 y7.q31 y7.q32 y7.q33 y7.q34 y7.q35 y7.q36 y7.q37 y7.q38 y7.q88 y7.q39 y7.q40 y7.q41 y7.q42 y7.q43 y7.q44 y7.q45 y7.q46 y7.q47 y7.q48 y7.q49 y7.q50 y7.q51 y7.q52 y7.q89 y7.q53 y7.q54 y7.q55 y7.q56 y7.q57 y7.q58 y7.q59 y7.q60 y7.q61 y7.q62 y7.q63 y7.q64 y7.q65 y7.q66 y7.q90 y7.q67 y7.q68 y7.q69 y7.q70 y7.q71 y8.q0 y8.q1 y8.q2 y8.q3 y8.q4 y8.q5 y8.q6 y8.q7 y8.q8 [] (ByteArray.mk #[107]) (4) (3) false y8.q13) fun y9 =>
 Option.bind (F30 FUEL (6) (1) (8) (5)) fun y10 =>
 Option.bind (F11 FUEL y9.q0 y9.q1 y9.q2 y9.q3 y9.q4 y9.q5 y9.q6 y9.q7 y9.q8 y9.q9 y9.q10 y9.q11 y9.q12 y9.q13 y9.q14 y9.q15 y9.q16 y9.q17 y9.q18 y9.q19 y9.q20 y9.q21 y9.q22 y9.q87 y9.q23 y9.q24 y9.q25 y9.q26 y9.q27 y9.q28 y9.q29 y9.q30 y9.q31 y9.q32 y9.q33 y9.q34 y9.q35 y9.q36 y9.q37 y9.q38 y9.q88 y9.q39 y9.q40 y9.q41 y9.q42 y9.q43 y9.q44 y9.q45 y9.q46 y9.q47 y9.q48 y9.q49 y9.q50 y9.q51 y9.q52 y9.q89 y9.q53 y9.q54 y9.q55 y9.q56 y9.q57 y9.q58 y9.q59 y9.q60 y9.q61 y9.q62 y9.q63 y9.q64 y9.q65 y9.q66 y9.q90 y9.q67 y9.q68 y9.q69 y9.q70 y9.q71 y10.q0 y10.q1 y10.q2 y10.q3 y10.q4 y10.q5 y10.q6 y10.q7 y10.q8 [] (ByteArray.mk #[107]) y10.q10 y10.q11 y10.q12 y10.q13) fun y11 =>
 Option.bind (F30 FUEL (2) (5) (1) (9)) fun y12 =>
 Option.bind (F11 FUEL y1.q0 y1.q68 [] y1.q1 y1.q2 y1.q3 y1.q4 y1.q5 y1.q6 y1.q7 y1.q8 y1.q9 y1.q10 y1.q11 y1.q12 y1.q13 y1.q14 y1.q15 y1.q16 y1.q17 y1.q18 y1.q19 y1.q20 [] [] y1.q21 y1.q22 y1.q23 y1.q24 y1.q25 y1.q26 y1.q27 y1.q28 y1.q29 y1.q30 y1.q31 y1.q32 y1.q33 y1.q34 y1.q35 [] y1.q36 y1.q37 y1.q38 y1.q39 y1.q40 y1.q41 y1.q42 y1.q43 y1.q44 y1.q45 y1.q46 y1.q47 y1.q48 y1.q49 [] y1.q50 y1.q51 y1.q52 y1.q53 y1.q54 y1.q55 y1.q56 y1.q57 y1.q58 y1.q59 y1.q60 y1.q61 y1.q62 y1.q63 [] y1.q64 y1.q65 y1.q66 [] y1.q67 y12.q0 y12.q1 y12.q2 y12.q3 y12.q4 y12.q5 y12.q6 y12.q7 y12.q8 [] y12.q9 y12.q10 y12.q11 y12.q12 y12.q13) fun y13 =>
 bif (ieq y3.q72 (8)) then
 (bif (ieq y3.q75 (9)) then
 (bif (ieq (ofN (List.length y3.q23)) (1)) then
 (bif (ieq y3.q3 (-1)) then
 (bif (ieq y5.q3 (9)) then
 (Option.bind (F14 FUEL y5.q72 y5.q73 y5.q74 y5.q75 y5.q76 y5.q77 y5.q78 y5.q79 y5.q80 y5.q81 y5.q82 y5.q83 y5.q84 y5.q85 y5.q86 y7.q72 y7.q73 y7.q74 y7.q75 y7.q76 y7.q77 y7.q78 y7.q79 y7.q80 y7.q81 y7.q82 y7.q83 y7.q84 y7.q85 y7.q86) fun y14 =>
 bif y14 then
 (Option.bind (F13 FUEL y5.q0 y5.q1 y5.q2 y5.q3 y5.q4 y5.q5 y5.q6 y5.q7 y5.q8 y5.q9 y5.q10 y5.q11 y5.q12 y5.q13 y5.q14 y5.q15 y5.q16 y5.q17 y5.q18 y5.q19 y5.q20 y5.q21 y5.q22 y5.q87 y5.q23 y5.q24 y5.q25 y5.q26 y5.q27 y5.q28 y5.q29 y5.q30 y5.q31 y5.q32 y5.q33 y5.q34 y5.q35 y5.q36 y5.q37 y5.q38 y5.q88 y5.q39 y5.q40 y5.q41 y5.q42 y5.q43 y5.q44 y5.q45 y5.q46 y5.q47 y5.q48 y5.q49 y5.q50 y5.q51 y5.q52 y5.q89 y5.q53 y5.q54 y5.q55 y5.q56 y5.q57 y5.q58 y5.q59 y5.q60 y5.q61 y5.q62 y5.q63 y5.q64 y5.q65 y5.q66 y5.q90 y5.q67 y5.q68 y5.q69 y5.q70 y5.q71 y7.q0 y7.q1 y7.q2 y7.q3 y7.q4 y7.q5 y7.q6 y7.q7 y7.q8 y7.q9 y7.q10 y7.q11 y7.q12 y7.q13 y7.q14 y7.q15 y7.q16 y7.q17 y7.q18 y7.q19 y7.q20 y7.q21 y7.q22 y7.q87 y7.q23 y7.q24 y7.q25 y7.q26 y7.q27 y7.q28 y7.q29 y7.q30 y7.q31 y7.q32 y7.q33 y7.q34 y7.q35 y7.q36 y7.q37 y7.q38 y7.q88 y7.q39 y7.q40 y7.q41 y7.q42 y7.q43 y7.q44 y7.q45 y7.q46 y7.q47 y7.q48 y7.q49 y7.q50 y7.q51 y7.q52 y7.q89 y7.q53 y7.q54 y7.q55 y7.q56 y7.q57 y7.q58 y7.q59 y7.q60 y7.q61 y7.q62 y7.q63 y7.q64 y7.q65 y7.q66 y7.q90 y7.q67 y7.q68 y7.q69 y7.q70 y7.q71) fun y15 =>
 bif y15 then
 (bif (ieq y9.q86 (0)) then
 (bif (ieq (ofN (List.length y9.q70)) (1)) then
 (bif (ieq y11.q86 (0)) then
 (bif ((steq y11.q82 (ByteArray.mk #[107])) && ((ieq y11.q83 (4)) && ((ieq y11.q84 (3)) && ((beqb y11.q85 false) && true)))) then
 (bif (ieq y13.q72 (0)) then
 (Option.bind (F15 FUEL y9.q0 y9.q1 y9.q2 y9.q3 y9.q4 y9.q5 y9.q6 y9.q7 y9.q8 y9.q9 y9.q10 y9.q11 y9.q12 y9.q13 y9.q14 y9.q15 y9.q16 y9.q17 y9.q18 y9.q19 y9.q20 y9.q21 y9.q22 y9.q87 y9.q23 y9.q24 y9.q25 y9.q26 y9.q27 y9.q28 y9.q29 y9.q30 y9.q31 y9.q32 y9.q33 y9.q34 y9.q35 y9.q36 y9.q37 y9.q38 y9.q88 y9.q39 y9.q40 y9.q41 y9.q42 y9.q43 y9.q44 y9.q45 y9.q46 y9.q47 y9.q48 y9.q49 y9.q50 y9.q51 y9.q52 y9.q89 y9.q53 y9.q54 y9.q55 y9.q56 y9.q57 y9.q58 y9.q59 y9.q60 y9.q61 y9.q62 y9.q63 y9.q64 y9.q65 y9.q66 y9.q90 y9.q67 y9.q68 y9.q69 y9.q70 y9.q71) fun y16 =>
 bif y16 then
 (Option.bind (F17 FUEL y9.q0 y9.q1 y9.q2 y9.q3 y9.q4 y9.q5 y9.q6 y9.q7 y9.q8 y9.q9 y9.q10 y9.q11 y9.q12 y9.q13 y9.q14 y9.q15 y9.q16 y9.q17 y9.q18 y9.q19 y9.q20 y9.q21 y9.q22 y9.q87 y9.q23 y9.q24 y9.q25 y9.q26 y9.q27 y9.q28 y9.q29 y9.q30 y9.q31 y9.q32 y9.q33 y9.q34 y9.q35 y9.q36 y9.q37 y9.q38 y9.q88 y9.q39 y9.q40 y9.q41 y9.q42 y9.q43 y9.q44 y9.q45 y9.q46 y9.q47 y9.q48 y9.q49 y9.q50 y9.q51 y9.q52 y9.q89 y9.q53 y9.q54 y9.q55 y9.q56 y9.q57 y9.q58 y9.q59 y9.q60 y9.q61 y9.q62 y9.q63 y9.q64 y9.q65 y9.q66 y9.q90 y9.q67 y9.q68 y9.q69 y9.q70 y9.q71 y10.q0 y10.q1 y10.q2 y10.q3 y10.q4 y10.q5 y10.q6 y10.q7 y10.q8 [] (ByteArray.mk #[107]) y10.q10 y10.q11 y10.q12 y10.q13) fun y17 =>
 bif y17 then
 (Option.bind (F17 FUEL y9.q0 y9.q1 y9.q2 y9.q3 y9.q4 y9.q5 y9.q6 y9.q7 y9.q8 y9.q9 y9.q10 y9.q11 y9.q12 y9.q13 y9.q14 y9.q15 y9.q16 y9.q17 y9.q18 y9.q19 y9.q20 y9.q21 y9.q22 y9.q87 y9.q23 y9.q24 y9.q25 y9.q26 y9.q27 y9.q28 y9.q29 y9.q30 y9.q31 y9.q32 y9.q33 y9.q34 y9.q35 y9.q36 y9.q37 y9.q38 y9.q88 y9.q39 y9.q40 y9.q41 y9.q42 y9.q43 y9.q44 y9.q45 y9.q46 y9.q47 y9.q48 y9.q49 y9.q50 y9.q51 y9.q52 y9.q89 y9.q53 y9.q54 y9.q55 y9.q56 y9.q57 y9.q58 y9.q59 y9.q60 y9.q61 y9.q62 y9.q63 y9.q64 y9.q65 y9.q66 y9.q90 y9.q67 y9.q68 y9.q69 y9.q70 y9.q71 y3.q72 y3.q73 y3.q74 y3.q75 y3.q76 y3.q77 y3.q78 y3.q79 y3.q80 y3.q81 y3.q82 y3.q83 y3.q84 y3.q85 y3.q86) fun y18 =>
 bif (!y18) then
 (Option.bind (F20 FUEL y9.q0 y9.q1 y9.q2 y9.q3 y9.q4 y9.q5 y9.q6 y9.q7 y9.q8 y9.q9 y9.q10 y9.q11 y9.q12 y9.q13 y9.q14 y9.q15 y9.q16 y9.q17 y9.q18 y9.q19 y9.q20 y9.q21 y9.q22 y9.q87 y9.q23 y9.q24 y9.q25 y9.q26 y9.q27 y9.q28 y9.q29 y9.q30 y9.q31 y9.q32 y9.q33 y9.q34 y9.q35 y9.q36 y9.q37 y9.q38 y9.q88 y9.q39 y9.q40 y9.q41 y9.q42 y9.q43 y9.q44 y9.q45 y9.q46 y9.q47 y9.q48 y9.q49 y9.q50 y9.q51 y9.q52 y9.q89 y9.q53 y9.q54 y9.q55 y9.q56 y9.q57 y9.q58 y9.q59 y9.q60 y9.q61 y9.q62 y9.q63 y9.q64 y9.q65 y9.q66 y9.q90 y9.q67 y9.q68 y9.q69 y9.q70 y9.q71) fun y19 =>
 Option.bind (F19 FUEL y19.q0 y19.q68 y19.q69 y19.q1 y19.q2 y19.q3 y19.q4 y19.q5 y19.q6 y19.q7 y19.q8 y19.q9 y19.q10 y19.q11 y19.q12 y19.q13 y19.q14 y19.q15 y19.q16 y19.q17 y19.q18 y19.q19 y19.q20 y19.q70 y19.q71 y19.q21 y19.q22 y19.q23 y19.q24 y19.q25 y19.q26 y19.q27 y19.q28 y19.q29 y19.q30 y19.q31 y19.q32 y19.q33 y19.q34 y19.q35 y19.q72 y19.q36 y19.q37 y19.q38 y19.q39 y19.q40 y19.q41 y19.q42 y19.q43 y19.q44 y19.q45 y19.q46 y19.q47 y19.q48 y19.q49 y19.q73 y19.q50 y19.q51 y19.q52 y19.q53 y19.q54 y19.q55 y19.q56 y19.q57 y19.q58 y19.q59 y19.q60 y19.q61 y19.q62 y19.q63 y19.q74 y19.q64 y19.q65 y19.q66 y19.q75 y19.q67 y9.q0 y9.q1 y9.q2 y9.q3 y9.q4 y9.q5 y9.q6 y9.q7 y9.q8 y9.q9 y9.q10 y9.q11 y9.q12 y9.q13 y9.q14 y9.q15 y9.q16 y9.q17 y9.q18 y9.q19 y9.q20 y9.q21 y9.q22 y9.q87 y9.q23 y9.q24 y9.q25 y9.q26 y9.q27 y9.q28 y9.q29 y9.q30 y9.q31 y9.q32 y9.q33 y9.q34 y9.q35 y9.q36 y9.q37 y9.q38 y9.q88 y9.q39 y9.q40 y9.q41 y9.q42 y9.q43 y9.q44 y9.q45 y9.q46 y9.q47 y9.q48 y9.q49 y9.q50 y9.q51 y9.q52 y9.q89 y9.q53 y9.q54 y9.q55 y9.q56 y9.q57 y9.q58 y9.q59 y9.q60 y9.q61 y9.q62 y9.q63 y9.q64 y9.q65 y9.q66 y9.q90 y9.q67 y9.q68 y9.q69 y9.q70 y9.q71) fun y20 =>
 bif y20 then
 (Option.bind (F19 FUEL y7.q0 y7.q1 y7.q2 y7.q3 y7.q4 y7.q5 y7.q6 y7.q7 y7.q8 y7.q9 y7.q10 y7.q11 y7.q12 y7.q13 y7.q14 y7.q15 y7.q16 y7.q17 y7.q18 y7.q19 y7.q20 y7.q21 y7.q22 y7.q87 y7.q23 y7.q24 y7.q25 y7.q26 y7.q27 y7.q28 y7.q29 y7.q30 y7.q31 y7.q32 y7.q33 y7.q34 y7.q35 y7.q36 y7.q37 y7.q38 y7.q88 y7.q39 y7.q40 y7.q41 y7.q42 y7.q43 y7.q44 y7.q45 y7.q46 y7.q47 y7.q48 y7.q49 y7.q50 y7.q51 y7.q52 y7.q89 y7.q53 y7.q54 y7.q55 y7.q56 y7.q57 y7.q58 y7.q59 y7.q60 y7.q61 y7.q62 y7.q63 y7.q64 y7.q65 y7.q66 y7.q90 y7.q67 y7.q68 y7.q69 y7.q70 y7.q71 y9.q0 y9.q1 y9.q2 y9.q3 y9.q4 y9.q5 y9.q6 y9.q7 y9.q8 y9.q9 y9.q10 y9.q11 y9.q12 y9.q13 y9.q14 y9.q15 y9.q16 y9.q17 y9.q18 y9.q19 y9.q20 y9.q21 y9.q22 y9.q87 y9.q23 y9.q24 y9.q25 y9.q26 y9.q27 y9.q28 y9.q29 y9.q30 y9.q31 y9.q32 y9.q33 y9.q34 y9.q35 y9.q36 y9.q37 y9.q38 y9.q88 y9.q39 y9.q40 y9.q41 y9.q42 y9.q43 y9.q44 y9.q45 y9.q46 y9.q47 y9.q48 y9.q49 y9.q50 y9.q51 y9.q52 y9.q89 y9.q53 y9.q54 y9.q55 y9.q56 y9.q57 y9.q58 y9.q59 y9.q60 y9.q61 y9.q62 y9.q63 y9.q64 y9.q65 y9.q66 y9.q90 y9.q67 y9.q68 y9.q69 y9.q70 y9.q71) fun y21 =>
 bif (!y21) then
 (Option.bind (F15 FUEL (0) [] [] (0) (0) (0) (0) (0) (0) (0) (0) (0) (0) (0) (0) (0) (0) (0) (0) (0) (0) (0) (0) [] [] (0) (0) (0) (0) (0) (0) (0) false false (0) ByteArray.empty (0) (0) false (0) [] (0) (0) (0) (0) (0) (0) false false (0) ByteArray.empty (0) (0) false (0) [] (0) (0) (0) (0) (0) (0) false false (0) ByteArray.empty (0) (0) false (0) [] (0) (0) ByteArray.empty [] (0)) fun y22 =>
 some (!y22))
 else (some false))
 else (some false))
 else (some false))
 else (some false))
 else (some false))
 else (some false))
 else (some false))
 else (some false))
 else (some false))
 else (some false))
 else (some false))
 else (some false))
 else (some false))
 else (some false))
 else (some false))
 else (some false))
 else (some false)
def F96 (_n : Nat) (a0 : Int) (a1 a2 : List (Int)) (a3 a4 a5 a6 a7 a8 a9 a10 a11 a12 a13 a14 a15 a16 a17 a18 a19 : Int) : Option (wx) :=
 bif (room (0 + List.length a1) 8) then
 (bif (room (0 + List.length a2) 8) then
 (some ⟨a0, a3, a4, a5, a6, a7, a8, a9, a10, a11, a12, a13, a14, a15, a16, a17, a18, a19, ([] ++ a1), ([] ++ a2)⟩)
 else (none))
 else (none)
def F40 (_n : Nat) (a0 a1 a2 a3 a4 : Int) (a5 a6 : Bool) (a7 a8 : Int) (a9 : List (Int)) (a10 : ByteArray) (a11 a12 : Int) (a13 : Bool) (a14 : Int) : Option (uw) :=
 bif (room (0 + List.length a9) 8) then
 (some ⟨a0, a1, a2, a3, a4, a5, a6, a7, a8, a10, a11, a12, a13, a14, ([] ++ a9)⟩)
 else (none)
def jih : Nat → Int → Int → Int → List (TY0) → List (TY0) → Option (Int × Int × (List (TY0)))
 | 0, _, _, _, _, _ => none
 | n + 1, x0, x1, x2, x3, x4 => bif (ilt x0 (ofN (List.length x3))) then
 (bif (inb x0 (List.length x3)) then
 (Option.bind (F40 FUEL (List.getD x3 (Int.toNat x0) TZ0).2.1 (List.getD x3 (Int.toNat x0) TZ0).2.2.1 (List.getD x3 (Int.toNat x0) TZ0).2.2.2.1 (List.getD x3 (Int.toNat x0) TZ0).2.2.2.2.1 (List.getD x3 (Int.toNat x0) TZ0).2.2.2.2.2.1 (List.getD x3 (Int.toNat x0) TZ0).2.2.2.2.2.2.1 (List.getD x3 (Int.toNat x0) TZ0).2.2.2.2.2.2.2.1 (List.getD x3 (Int.toNat x0) TZ0).2.2.2.2.2.2.2.2.1 (List.getD x3 (Int.toNat x0) TZ0).2.2.2.2.2.2.2.2.2.1 (List.getD x3 (Int.toNat x0) TZ0).2.2.2.2.2.2.2.2.2.2.1 (List.getD x3 (Int.toNat x0) TZ0).2.2.2.2.2.2.2.2.2.2.2.1 (List.getD x3 (Int.toNat x0) TZ0).2.2.2.2.2.2.2.2.2.2.2.2.1 (List.getD x3 (Int.toNat x0) TZ0).2.2.2.2.2.2.2.2.2.2.2.2.2.1 (List.getD x3 (Int.toNat x0) TZ0).2.2.2.2.2.2.2.2.2.2.2.2.2.2.1 (List.getD x3 (Int.toNat x0) TZ0).2.2.2.2.2.2.2.2.2.2.2.2.2.2.2.1) fun y1 =>
 bif (room (List.length x4 + List.length [((List.getD x3 (Int.toNat x0) TZ0).1, y1.q0, y1.q1, y1.q2, y1.q3, y1.q4, y1.q5, y1.q6, y1.q7, y1.q8, y1.q14, y1.q9, y1.q10, y1.q11, y1.q12, y1.q13, (List.getD x3 (Int.toNat x0) TZ0).2.2.2.2.2.2.2.2.2.2.2.2.2.2.2.2.1, (List.getD x3 (Int.toNat x0) TZ0).2.2.2.2.2.2.2.2.2.2.2.2.2.2.2.2.2.1, (List.getD x3 (Int.toNat x0) TZ0).2.2.2.2.2.2.2.2.2.2.2.2.2.2.2.2.2.2.1, (List.getD x3 (Int.toNat x0) TZ0).2.2.2.2.2.2.2.2.2.2.2.2.2.2.2.2.2.2.2)]) 176) then
 (jih n (iadd .i64 x0 (1)) x1 x2 x3 (x4 ++ [((List.getD x3 (Int.toNat x0) TZ0).1, y1.q0, y1.q1, y1.q2, y1.q3, y1.q4, y1.q5, y1.q6, y1.q7, y1.q8, y1.q14, y1.q9, y1.q10, y1.q11, y1.q12, y1.q13, (List.getD x3 (Int.toNat x0) TZ0).2.2.2.2.2.2.2.2.2.2.2.2.2.2.2.2.1, (List.getD x3 (Int.toNat x0) TZ0).2.2.2.2.2.2.2.2.2.2.2.2.2.2.2.2.2.1, (List.getD x3 (Int.toNat x0) TZ0).2.2.2.2.2.2.2.2.2.2.2.2.2.2.2.2.2.2.1, (List.getD x3 (Int.toNat x0) TZ0).2.2.2.2.2.2.2.2.2.2.2.2.2.2.2.2.2.2.2)]))
 else (none))
 else (none))
 else (some (x1, x2, x4))
def F97 (n : Nat) (a0 a1 : Int) (a2 : List (TY0)) : Option (Int × Int × (List (TY0))) :=
 jih n (0) a0 a1 a2 []
def jif : Nat → List (TY1) → Int → List (TY1) → Option ((List (TY1)))
 | 0, _, _, _ => none
 | n + 1, x0, x1, x2 => bif (ilt x1 (ofN (List.length x0))) then
 (bif (inb x1 (List.length x0)) then
 (Option.bind (F40 FUEL (List.getD x0 (Int.toNat x1) TZ1).2.2.1 (List.getD x0 (Int.toNat x1) TZ1).2.2.2.1 (List.getD x0 (Int.toNat x1) TZ1).2.2.2.2.1 (List.getD x0 (Int.toNat x1) TZ1).2.2.2.2.2.1 (List.getD x0 (Int.toNat x1) TZ1).2.2.2.2.2.2.1 (List.getD x0 (Int.toNat x1) TZ1).2.2.2.2.2.2.2.1 (List.getD x0 (Int.toNat x1) TZ1).2.2.2.2.2.2.2.2.1 (List.getD x0 (Int.toNat x1) TZ1).2.2.2.2.2.2.2.2.2.1 (List.getD x0 (Int.toNat x1) TZ1).2.2.2.2.2.2.2.2.2.2.1 (List.getD x0 (Int.toNat x1) TZ1).2.2.2.2.2.2.2.2.2.2.2.1 (List.getD x0 (Int.toNat x1) TZ1).2.2.2.2.2.2.2.2.2.2.2.2.1 (List.getD x0 (Int.toNat x1) TZ1).2.2.2.2.2.2.2.2.2.2.2.2.2.1 (List.getD x0 (Int.toNat x1) TZ1).2.2.2.2.2.2.2.2.2.2.2.2.2.2.1 (List.getD x0 (Int.toNat x1) TZ1).2.2.2.2.2.2.2.2.2.2.2.2.2.2.2.1 (List.getD x0 (Int.toNat x1) TZ1).2.2.2.2.2.2.2.2.2.2.2.2.2.2.2.2) fun y1 =>
 bif (room (List.length x2 + List.length [((List.getD x0 (Int.toNat x1) TZ1).1, (List.getD x0 (Int.toNat x1) TZ1).2.1, y1.q0, y1.q1, y1.q2, y1.q3, y1.q4, y1.q5, y1.q6, y1.q7, y1.q8, y1.q14, y1.q9, y1.q10, y1.q11, y1.q12, y1.q13)]) 152) then
 (jif n x0 (iadd .i64 x1 (1)) (x2 ++ [((List.getD x0 (Int.toNat x1) TZ1).1, (List.getD x0 (Int.toNat x1) TZ1).2.1, y1.q0, y1.q1, y1.q2, y1.q3, y1.q4, y1.q5, y1.q6, y1.q7, y1.q8, y1.q14, y1.q9, y1.q10, y1.q11, y1.q12, y1.q13)]))
 else (none))
 else (none))
 else (some x2)
def F98 (n : Nat) (a0 : List (TY1)) : Option ((List (TY1))) :=
 jif n a0 (0) []
def F99 (_n : Nat) (a0 a1 a2 a3 a4 : Int) (a5 a6 : Bool) (a7 : Int) (a8 : ByteArray) (a9 a10 : Int) (a11 : Bool) (a12 : Int) (a13 : List (Int)) (a14 : Int) : Option (uv) :=
 bif (room (0 + List.length a13) 8) then
 (some ⟨a0, a1, a2, a3, a4, a5, a6, a7, a8, a9, a10, a11, a12, a14, ([] ++ a13)⟩)
 else (none)
def F100 (_n : Nat) (a0 : List (ByteArray × Int × Int × Bool)) : Option ((List (ByteArray × Int × Int × Bool))) :=
 bif (room (0 + List.length a0) 40) then
 (some ([] ++ a0))
 else (none)
def F24 (_n : Nat) (a0 : Int) (a1 a2 : List (Int)) (a3 a4 a5 a6 a7 a8 a9 a10 a11 a12 a13 a14 a15 a16 a17 a18 a19 a20 a21 a22 : Int) (a23 : List (TY0)) (a24 : List (TY1)) (a25 a26 a27 a28 a29 a30 a31 : Int) (a32 a33 : Bool) (a34 : Int) (a35 : ByteArray) (a36 a37 : Int) (a38 : Bool) (a39 : Int) (a40 : List (Int)) (a41 a42 a43 a44 a45 a46 : Int) (a47 a48 : Bool) (a49 : Int) (a50 : ByteArray) (a51 a52 : Int) (a53 : Bool) (a54 : Int) (a55 : List (Int)) (a56 a57 a58 a59 a60 a61 : Int) (a62 a63 : Bool) (a64 : Int) (a65 : ByteArray) (a66 a67 : Int) (a68 : Bool) (a69 : Int) (a70 : List (Int)) (a71 a72 : Int) (a73 : ByteArray) (a74 : List (ByteArray × Int × Int × Bool)) (a75 : Int) : Option (Sx1) :=
 Option.bind (F96 FUEL a0 a1 a2 a3 a4 a5 a6 a7 a8 a9 a10 a11 a12 a13 a14 a15 a16 a17 a18 a19) fun y1 =>
 Option.bind (F97 FUEL a21 a22 a23) fun y2 =>
 Option.bind (F98 FUEL a24) fun y3 =>
 Option.bind (F99 FUEL a27 a28 a29 a30 a31 a32 a33 a34 a35 a36 a37 a38 a39 a40 a41) fun y4 =>
 Option.bind (F99 FUEL a42 a43 a44 a45 a46 a47 a48 a49 a50 a51 a52 a53 a54 a55 a56) fun y5 =>
 Option.bind (F99 FUEL a57 a58 a59 a60 a61 a62 a63 a64 a65 a66 a67 a68 a69 a70 a71) fun y6 =>
 Option.bind (F100 FUEL a74) fun y7 =>
 some ⟨y1.q0, y1.q1, y1.q2, y1.q3, y1.q4, y1.q5, y1.q6, y1.q7, y1.q8, y1.q9, y1.q10, y1.q11, y1.q12, y1.q13, y1.q14, y1.q15, y1.q16, y1.q17, a20, y2.1, y2.2.1, a25, a26, y4.q0, y4.q1, y4.q2, y4.q3, y4.q4, y4.q5, y4.q6, y4.q7, y4.q8, y4.q9, y4.q10, y4.q11, y4.q12, y4.q13, y5.q0, y5.q1, y5.q2, y5.q3, y5.q4, y5.q5, y5.q6, y5.q7, y5.q8, y5.q9, y5.q10, y5.q11, y5.q12, y5.q13, y6.q0, y6.q1, y6.q2, y6.q3, y6.q4, y6.q5, y6.q6, y6.q7, y6.q8, y6.q9, y6.q10, y6.q11, y6.q12, y6.q13, a72, a73, a75, y1.q18, y1.q19, y2.2.2, y3, y4.q14, y5.q14, y6.q14, y7⟩
def jiq : Nat → Int → Int → List (Int) → List (Int) → Int → Int → Int → Int → Int → Int → Int → Int → Int → Int → Int → Int → Int → Int → Int → Int → Int → Int → Int → Int → List (TY0) → List (TY1) → Int → Int → Int → Int → Int → Int → Int → Bool → Bool → Int → ByteArray → Int → Int → Bool → Int → List (Int) → Int → Int → Int → Int → Int → Int → Bool → Bool → Int → ByteArray → Int → Int → Bool → Int → List (Int) → Int → Int → Int → Int → Int → Int → Bool → Bool → Int → ByteArray → Int → Int → Bool → Int → List (Int) → Int → Int → ByteArray → List (ByteArray × Int × Int × Bool) → Int → Option (Bool)
 | 0, _, _, _, _, _, _, _, _, _, _, _, _, _, _, _, _, _, _, _, _, _, _, _, _, _, _, _, _, _, _, _, _, _, _, _, _, _, _, _, _, _, _, _, _, _, _, _, _, _, _, _, _, _, _, _, _, _, _, _, _, _, _, _, _, _, _, _, _, _, _, _, _, _, _, _, _, _ => none
 | n + 1, x0, x1, x2, x3, x4, x5, x6, x7, x8, x9, x10, x11, x12, x13, x14, x15, x16, x17, x18, x19, x20, x21, x22, x23, x24, x25, x26, x27, x28, x29, x30, x31, x32, x33, x34, x35, x36, x37, x38, x39, x40, x41, x42, x43, x44, x45, x46, x47, x48, x49, x50, x51, x52, x53, x54, x55, x56, x57, x58, x59, x60, x61, x62, x63, x64, x65, x66, x67, x68, x69, x70, x71, x72, x73, x74, x75, x76 => bif (ilt x0 (ofN (List.length x25))) then
 (bif (inb x0 (List.length x25)) then
 (bif (ine (List.getD x25 (Int.toNat x0) TZ1).2.2.2.2.1 x1) then
 (some false)
 else (jiq n (iadd .i64 x0 (1)) x1 x2 x3 x4 x5 x6 x7 x8 x9 x10 x11 x12 x13 x14 x15 x16 x17 x18 x19 x20 x21 x22 x23 x24 x25 x26 x27 x28 x29 x30 x31 x32 x33 x34 x35 x36 x37 x38 x39 x40 x41 x42 x43 x44 x45 x46 x47 x48 x49 x50 x51 x52 x53 x54 x55 x56 x57 x58 x59 x60 x61 x62 x63 x64 x65 x66 x67 x68 x69 x70 x71 x72 x73 x74 x75 x76))
 else (none))
 else (some true)
def F65 (n : Nat) (a0 : Int) (a1 a2 : List (Int)) (a3 a4 a5 a6 a7 a8 a9 a10 a11 a12 a13 a14 a15 a16 a17 a18 a19 a20 a21 a22 : Int) (a23 : List (TY0)) (a24 : List (TY1)) (a25 a26 a27 a28 a29 a30 a31 : Int) (a32 a33 : Bool) (a34 : Int) (a35 : ByteArray) (a36 a37 : Int) (a38 : Bool) (a39 : Int) (a40 : List (Int)) (a41 a42 a43 a44 a45 a46 : Int) (a47 a48 : Bool) (a49 : Int) (a50 : ByteArray) (a51 a52 : Int) (a53 : Bool) (a54 : Int) (a55 : List (Int)) (a56 a57 a58 a59 a60 a61 : Int) (a62 a63 : Bool) (a64 : Int) (a65 : ByteArray) (a66 a67 : Int) (a68 : Bool) (a69 : Int) (a70 : List (Int)) (a71 a72 : Int) (a73 : ByteArray) (a74 : List (ByteArray × Int × Int × Bool)) (a75 : Int) : Option (Bool) :=
 jiq n (0) a0 a1 a2 a3 a4 a5 a6 a7 a8 a9 a10 a11 a12 a13 a14 a15 a16 a17 a18 a19 a20 a21 a22 a23 a24 a25 a26 a27 a28 a29 a30 a31 a32 a33 a34 a35 a36 a37 a38 a39 a40 a41 a42 a43 a44 a45 a46 a47 a48 a49 a50 a51 a52 a53 a54 a55 a56 a57 a58 a59 a60 a61 a62 a63 a64 a65 a66 a67 a68 a69 a70 a71 a72 a73 a74 a75
def F124 (_n : Nat) (a0 a1 a2 a3 a4 : Int) (a5 a6 : Bool) (a7 a8 : Int) (a9 : List (Int)) (a10 : ByteArray) (a11 a12 : Int) (a13 : Bool) (a14 : Int) : Option (ui) :=
 Option.bind (F21 FUEL a0 a1 a2 a3 a4 a5 a6 a7 a8 a9 a10 a11 a12 a13 a14) fun y1 =>
 bif (!y1) then
 (some ⟨(0), (0), (0), (0), (0), (0), (0), false, false, (0), (0), [], ByteArray.empty, (0), (0), false, (0), (2)⟩)
 else (Option.bind (F22 FUEL a0 a1 a2 a3 a4 a5 a6 a7 a8 a9 a10 a11 a12 a13 a14) fun y2 =>
 bif y2 then
 (some ⟨(0), (0), (0), (0), (0), (0), (0), false, false, (0), (0), [], ByteArray.empty, (0), (0), false, (0), (2)⟩)
 else (Option.bind (F40 FUEL a0 a1 a2 a3 a4 a5 a6 a7 a8 a9 a10 a11 a12 a13 a14) fun y3 =>
 some ⟨a3, a1, y3.q0, y3.q1, y3.q2, y3.q3, y3.q4, y3.q5, y3.q6, y3.q7, y3.q8, y3.q14, y3.q9, y3.q10, y3.q11, y3.q12, y3.q13, (0)⟩))
def jhd : Nat → List (TY1) → Int → Int → Int → Bool → Bool → ByteArray → Bool → Option (qp)
 | 0, _, _, _, _, _, _, _, _ => none
 | n + 1, x0, x1, x2, x3, x4, x5, x6, x7 => bif (ilt x3 (ofN (List.length x0))) then
 (bif (inb x3 (List.length x0)) then
 (bif (ieq (List.getD x0 (Int.toNat x3) TZ1).1 x1) then
 (bif (inb x3 (List.length x0)) then
 (bif (ieq (List.getD x0 (Int.toNat x3) TZ1).2.1 x2) then
 (bif (inb x3 (List.length x0)) then
 (Option.bind (F40 FUEL (List.getD x0 (Int.toNat x3) TZ1).2.2.1 (List.getD x0 (Int.toNat x3) TZ1).2.2.2.1 (List.getD x0 (Int.toNat x3) TZ1).2.2.2.2.1 (List.getD x0 (Int.toNat x3) TZ1).2.2.2.2.2.1 (List.getD x0 (Int.toNat x3) TZ1).2.2.2.2.2.2.1 (List.getD x0 (Int.toNat x3) TZ1).2.2.2.2.2.2.2.1 (List.getD x0 (Int.toNat x3) TZ1).2.2.2.2.2.2.2.2.1 (List.getD x0 (Int.toNat x3) TZ1).2.2.2.2.2.2.2.2.2.1 (List.getD x0 (Int.toNat x3) TZ1).2.2.2.2.2.2.2.2.2.2.1 (List.getD x0 (Int.toNat x3) TZ1).2.2.2.2.2.2.2.2.2.2.2.1 (List.getD x0 (Int.toNat x3) TZ1).2.2.2.2.2.2.2.2.2.2.2.2.1 (List.getD x0 (Int.toNat x3) TZ1).2.2.2.2.2.2.2.2.2.2.2.2.2.1 (List.getD x0 (Int.toNat x3) TZ1).2.2.2.2.2.2.2.2.2.2.2.2.2.2.1 (List.getD x0 (Int.toNat x3) TZ1).2.2.2.2.2.2.2.2.2.2.2.2.2.2.2.1 (List.getD x0 (Int.toNat x3) TZ1).2.2.2.2.2.2.2.2.2.2.2.2.2.2.2.2) fun y1 =>
 some ⟨y1.q0, y1.q1, y1.q2, y1.q3, y1.q4, y1.q5, y1.q6, y1.q7, y1.q8, y1.q9, y1.q10, y1.q11, y1.q12, y1.q13, true, y1.q14⟩)
 else (none))
 else (jhd n x0 x1 x2 (iadd .i64 x3 (1)) x4 x5 x6 x7))
 else (none))
 else (jhd n x0 x1 x2 (iadd .i64 x3 (1)) x4 x5 x6 x7))
 else (none))
 else (some ⟨(0), (0), (0), (0), (0), false, false, (0), (0), ByteArray.empty, (0), (0), false, (0), false, []⟩)
def F39 (n : Nat) (a0 : List (TY1)) (a1 a2 : Int) : Option (qp) :=
 jhd n a0 a1 a2 (0) false false ByteArray.empty false
def jio : Nat → List (TY1) → Int → Option (Bool)
 | 0, _, _ => none
 | n + 1, x0, x1 => bif (ilt x1 (ofN (List.length x0))) then
 (bif (inb x1 (List.length x0)) then
 (Option.bind (F124 FUEL (List.getD x0 (Int.toNat x1) TZ1).2.2.1 (List.getD x0 (Int.toNat x1) TZ1).2.2.2.1 (List.getD x0 (Int.toNat x1) TZ1).2.2.2.2.1 (List.getD x0 (Int.toNat x1) TZ1).2.2.2.2.2.1 (List.getD x0 (Int.toNat x1) TZ1).2.2.2.2.2.2.1 (List.getD x0 (Int.toNat x1) TZ1).2.2.2.2.2.2.2.1 (List.getD x0 (Int.toNat x1) TZ1).2.2.2.2.2.2.2.2.1 (List.getD x0 (Int.toNat x1) TZ1).2.2.2.2.2.2.2.2.2.1 (List.getD x0 (Int.toNat x1) TZ1).2.2.2.2.2.2.2.2.2.2.1 (List.getD x0 (Int.toNat x1) TZ1).2.2.2.2.2.2.2.2.2.2.2.1 (List.getD x0 (Int.toNat x1) TZ1).2.2.2.2.2.2.2.2.2.2.2.2.1 (List.getD x0 (Int.toNat x1) TZ1).2.2.2.2.2.2.2.2.2.2.2.2.2.1 (List.getD x0 (Int.toNat x1) TZ1).2.2.2.2.2.2.2.2.2.2.2.2.2.2.1 (List.getD x0 (Int.toNat x1) TZ1).2.2.2.2.2.2.2.2.2.2.2.2.2.2.2.1 (List.getD x0 (Int.toNat x1) TZ1).2.2.2.2.2.2.2.2.2.2.2.2.2.2.2.2) fun y1 =>
 bif (ine y1.q17 (0)) then
 (some false)
 else (bif (inb x1 (List.length x0)) then
 (bif (ine y1.q0 (List.getD x0 (Int.toNat x1) TZ1).1) then
 (some false)
 else (bif (inb x1 (List.length x0)) then
 (bif (ine y1.q1 (List.getD x0 (Int.toNat x1) TZ1).2.1) then
 (some false)
 else (bif ((inn x1) && (inbs 0 (Int.toNat x1) (List.length x0))) then
 (Option.bind (F39 FUEL (List.drop 0 (List.take (Int.toNat x1) x0)) y1.q0 y1.q1) fun y2 =>
 bif y2.q14 then
 (some false)
 else (jio n x0 (iadd .i64 x1 (1))))
 else (none)))
 else (none)))
 else (none)))
 else (none))
 else (some (ile (ofN (List.length x0)) (40)))
def F68 (n : Nat) (a0 : List (TY1)) : Option (Bool) :=
 jio n a0 (0)
def F69 (_n : Nat) (a0 a1 : Int) : Option (Bool) :=
 bif (ieq a0 (0)) then
 (some (ieq a1 (0)))
 else (bif (ile a0 (3)) then
 (bif (ige a1 (0)) then
 (some (ilt a1 (65536)))
 else (some false))
 else (some false))
def jgz : Nat → List (ByteArray × Int × Int × Bool) → Int → Option (Bool)
 | 0, _, _ => none
 | n + 1, x0, x1 => bif (ilt x1 (ofN (List.length x0))) then
 (bif (inb x1 (List.length x0)) then
 (Option.bind (F29 FUEL (List.getD x0 (Int.toNat x1) (ByteArray.empty, 0, 0, false)).1 (List.getD x0 (Int.toNat x1) (ByteArray.empty, 0, 0, false)).2.1 (List.getD x0 (Int.toNat x1) (ByteArray.empty, 0, 0, false)).2.2.1 (List.getD x0 (Int.toNat x1) (ByteArray.empty, 0, 0, false)).2.2.2) fun y1 =>
 bif (!y1) then
 (some false)
 else (bif (igt x1 (0)) then
 (bif (inb x1 (List.length x0)) then
 (bif (inb (isub .i64 x1 (1)) (List.length x0)) then
 (bif (stle (List.getD x0 (Int.toNat x1) (ByteArray.empty, 0, 0, false)).1 (List.getD x0 (Int.toNat (isub .i64 x1 (1))) (ByteArray.empty, 0, 0, false)).1) then
 (some false)
 else (jgz n x0 (iadd .i64 x1 (1))))
 else (none))
 else (none))
 else (jgz n x0 (iadd .i64 x1 (1)))))
 else (none))
 else (some (ile (ofN (List.length x0)) (24)))
def F70 (n : Nat) (a0 : List (ByteArray × Int × Int × Bool)) : Option (Bool) :=
 jgz n a0 (0)
def F16 (_n : Nat) (a0 : Int) (a1 a2 : List (Int)) (a3 a4 a5 a6 a7 a8 a9 a10 a11 a12 a13 a14 a15 a16 a17 a18 a19 a20 a21 a22 : Int) (a23 : List (TY0)) (a24 : List (TY1)) (a25 a26 a27 a28 a29 a30 a31 : Int) (a32 a33 : Bool) (a34 : Int) (a35 : ByteArray) (a36 a37 : Int) (a38 : Bool) (a39 : Int) (a40 : List (Int)) (a41 a42 a43 a44 a45 a46 : Int) (a47 a48 : Bool) (a49 : Int) (a50 : ByteArray) (a51 a52 : Int) (a53 : Bool) (a54 : Int) (a55 : List (Int)) (a56 a57 a58 a59 a60 a61 : Int) (a62 a63 : Bool) (a64 : Int) (a65 : ByteArray) (a66 a67 : Int) (a68 : Bool) (a69 : Int) (a70 : List (Int)) (a71 a72 : Int) (a73 : ByteArray) (a74 : List (ByteArray × Int × Int × Bool)) (a75 : Int) : Option (Bool) :=
 Option.bind (F65 FUEL a0 a1 a2 a3 a4 a5 a6 a7 a8 a9 a10 a11 a12 a13 a14 a15 a16 a17 a18 a19 a20 a21 a22 a23 a24 a25 a26 a27 a28 a29 a30 a31 a32 a33 a34 a35 a36 a37 a38 a39 a40 a41 a42 a43 a44 a45 a46 a47 a48 a49 a50 a51 a52 a53 a54 a55 a56 a57 a58 a59 a60 a61 a62 a63 a64 a65 a66 a67 a68 a69 a70 a71 a72 a73 a74 a75) fun y1 =>
 bif y1 then
 (Option.bind (F66 FUEL a0 a1 a2 a3 a4 a5 a6 a7 a8 a9 a10 a11 a12 a13 a14 a15 a16 a17 a18 a19) fun y2 =>
 bif y2 then
 (Option.bind (F67 FUEL a21 a22 a23) fun y3 =>
 bif y3 then
 (bif (ieq a21 a0) then
 (Option.bind (F68 FUEL a24) fun y4 =>
 bif y4 then
 (Option.bind (F69 FUEL a25 a26) fun y5 =>
 bif y5 then
 (Option.bind (F70 FUEL a74) fun y6 =>
 bif y6 then
 (bif (ige a20 (0)) then
 (bif (ile a20 (1099511627776)) then
 (bif (ige a75 (0)) then
 (bif (ige a72 (0)) then
 (some (ilt a72 (16)))
 else (some false))
 else (some false))
 else (some false))
 else (some false))
 else (some false))
 else (some false))
 else (some false))
 else (some false))
 else (some false))
 else (some false))
 else (some false)
def F18 (_n : Nat) (a0 : Int) (a1 a2 : List (Int)) (a3 a4 a5 a6 a7 a8 a9 a10 a11 a12 a13 a14 a15 a16 a17 a18 a19 a20 a21 a22 : Int) (a23 : List (TY0)) (a24 : List (TY1)) (a25 a26 a27 a28 a29 a30 a31 : Int) (a32 a33 : Bool) (a34 : Int) (a35 : ByteArray) (a36 a37 : Int) (a38 : Bool) (a39 : Int) (a40 : List (Int)) (a41 a42 a43 a44 a45 a46 : Int) (a47 a48 : Bool) (a49 : Int) (a50 : ByteArray) (a51 a52 : Int) (a53 : Bool) (a54 : Int) (a55 : List (Int)) (a56 a57 a58 a59 a60 a61 : Int) (a62 a63 : Bool) (a64 : Int) (a65 : ByteArray) (a66 a67 : Int) (a68 : Bool) (a69 : Int) (a70 : List (Int)) (a71 a72 : Int) (a73 : ByteArray) (a74 : List (ByteArray × Int × Int × Bool)) (a75 a76 a77 a78 a79 a80 : Int) (a81 a82 : Bool) (a83 a84 : Int) (a85 : List (Int)) (a86 : ByteArray) (a87 a88 : Int) (a89 : Bool) (a90 : Int) : Option (Bool) :=
 Option.bind (F16 FUEL a0 a1 a2 a3 a4 a5 a6 a7 a8 a9 a10 a11 a12 a13 a14 a15 a16 a17 a18 a19 a20 a21 a22 a23 a24 a25 a26 a27 a28 a29 a30 a31 a32 a33 a34 a35 a36 a37 a38 a39 a40 a41 a42 a43 a44 a45 a46 a47 a48 a49 a50 a51 a52 a53 a54 a55 a56 a57 a58 a59 a60 a61 a62 a63 a64 a65 a66 a67 a68 a69 a70 a71 a72 a73 a74 a75) fun y1 =>
 bif y1 then
 (Option.bind (F21 FUEL a76 a77 a78 a79 a80 a81 a82 a83 a84 a85 a86 a87 a88 a89 a90) fun y2 =>
 bif y2 then
 (Option.bind (F22 FUEL a76 a77 a78 a79 a80 a81 a82 a83 a84 a85 a86 a87 a88 a89 a90) fun y3 =>
 bif y3 then
 (some (ieq a79 a0))
 else (some false))
 else (some false))
 else (some false)
def F41 (_n : Nat) (a0 a1 a2 a3 a4 : Int) (a5 a6 : Bool) (a7 a8 : Int) (a9 : List (Int)) (a10 : ByteArray) (a11 a12 : Int) (a13 : Bool) (a14 : Int) : Option (qe) :=
 Option.bind (F22 FUEL a0 a1 a2 a3 a4 a5 a6 a7 a8 a9 a10 a11 a12 a13 a14) fun y1 =>
 bif (!y1) then
 (some ⟨(0), (0), (0), (0), (0), false, false, (0), (0), ByteArray.empty, (0), (0), false, (0)⟩)
 else (some ⟨(iadd .u8 a0 (6)), a1, a3, a2, (0), false, false, (0), (0), ByteArray.empty, (0), (0), false, (0)⟩)
def F104 (_n : Nat) (a0 a1 a2 : Int) : Option (Bool) :=
 Option.bind (F155 FUEL a0) fun y1 =>
 Option.bind (F155 FUEL a2) fun y2 =>
 bif (ieq y1 y2) then
 (Option.bind (F155 FUEL a1) fun y3 =>
 Option.bind (F155 FUEL a0) fun y4 =>
 some (ine y3 y4))
 else (Option.bind (F105 FUEL a0 a1) fun y5 =>
 bif (igt y5 (0)) then
 (Option.bind (F105 FUEL a0 a1) fun y6 =>
 Option.bind (F105 FUEL a0 a2) fun y7 =>
 some (ilt y6 y7))
 else (some false))
def F101 (_n : Nat) (a0 : Int) (a1 a2 : List (Int)) (a3 a4 a5 a6 a7 a8 a9 a10 a11 a12 a13 a14 a15 a16 a17 a18 a19 a20 : Int) : Option (Bool) :=
 Option.bind (F66 FUEL a0 a1 a2 a3 a4 a5 a6 a7 a8 a9 a10 a11 a12 a13 a14 a15 a16 a17 a18 a19) fun y1 =>
 bif y1 then
 (bif (ige a20 (0)) then
 (bif (ilt a20 (65536)) then
 (bif (ine a20 a0) then
 (bif (ieq a3 (-1)) then
 (some true)
 else (Option.bind (F104 FUEL a3 a20 a0) fun y2 =>
 some y2))
 else (some false))
 else (some false))
 else (some false))
 else (some false)
def jhg : Nat → List (Int) → Int → Int → Int → Int → Int → Int → Int → Int → Int → Int → Int → Int → Int → Int → Int → Int → Int → Int → Int → List (Int) → List (Int) → Option (wx)
 | 0, _, _, _, _, _, _, _, _, _, _, _, _, _, _, _, _, _, _, _, _, _, _ => none
 | n + 1, x0, x1, x2, x3, x4, x5, x6, x7, x8, x9, x10, x11, x12, x13, x14, x15, x16, x17, x18, x19, x20, x21 => bif (ilt x1 (ofN (List.length x0))) then
 (bif (inb x1 (List.length x0)) then
 (Option.bind (F101 FUEL x2 x20 x21 x3 x4 x5 x6 x7 x8 x9 x10 x11 x12 x13 x14 x15 x16 x17 x18 x19 (List.getD x0 (Int.toNat x1) 0)) fun y2 =>
 bif y2 then
 (bif (inb x1 (List.length x0)) then
 (jhg n x0 (iadd .i64 x1 (1)) x2 (List.getD x0 (Int.toNat x1) 0) x4 x5 x6 x7 x8 x9 x10 x11 x12 x13 x14 x15 x16 x17 x18 x19 x20 x21)
 else (none))
 else (jhg n x0 (iadd .i64 x1 (1)) x2 x3 x4 x5 x6 x7 x8 x9 x10 x11 x12 x13 x14 x15 x16 x17 x18 x19 x20 x21))
 else (none))
 else (some ⟨x2, x3, x4, x5, x6, x7, x8, x9, x10, x11, x12, x13, x14, x15, x16, x17, x18, x19, x20, x21⟩)
def F25 (n : Nat) (a0 : Int) (a1 a2 : List (Int)) (a3 a4 a5 a6 a7 a8 a9 a10 a11 a12 a13 a14 a15 a16 a17 a18 a19 : Int) (a20 : List (Int)) : Option (wx) :=
 Option.bind (F96 FUEL a0 a1 a2 a3 a4 a5 a6 a7 a8 a9 a10 a11 a12 a13 a14 a15 a16 a17 a18 a19) fun y1 =>
 jhg n a20 (0) y1.q0 y1.q1 y1.q2 y1.q3 y1.q4 y1.q5 y1.q6 y1.q7 y1.q8 y1.q9 y1.q10 y1.q11 y1.q12 y1.q13 y1.q14 y1.q15 y1.q16 y1.q17 y1.q18 y1.q19
def jcn : Nat → List (Int) → Int → Int → Int → Option (Int × Bool)
 | 0, _, _, _, _ => none
 | n + 1, x0, x1, x2, x3 => bif (ilt x3 (ofN (List.length x0))) then
 (bif (inb x3 (List.length x0)) then
 (Option.bind (F105 FUEL x1 (List.getD x0 (Int.toNat x3) 0)) fun y2 =>
 Option.bind (F105 FUEL x1 x2) fun y3 =>
 bif (ilt y2 y3) then
 (bif (inb x3 (List.length x0)) then
 (Option.bind (F155 FUEL (List.getD x0 (Int.toNat x3) 0)) fun y4 =>
 jcn n x0 x1 y4 (iadd .i64 x3 (1)))
 else (none))
 else (jcn n x0 x1 x2 (iadd .i64 x3 (1))))
 else (none))
 else (some (x2, true))
def F180 (n : Nat) (a0 : List (Int)) (a1 : Int) : Option (Int × Bool) :=
 bif (ieq (ofN (List.length a0)) (0)) then
 (some ((0), false))
 else (bif (inb (0) (List.length a0)) then
 (Option.bind (F155 FUEL (List.getD a0 (Int.toNat (0)) 0)) fun y1 =>
 jcn n a0 a1 y1 (0))
 else (none))
def F154 (_n : Nat) (a0 : Int) (a1 a2 : List (Int)) (a3 a4 a5 a6 a7 a8 a9 a10 a11 a12 a13 a14 a15 a16 a17 a18 a19 : Int) : Option (Int) :=
 Option.bind (F66 FUEL a0 a1 a2 a3 a4 a5 a6 a7 a8 a9 a10 a11 a12 a13 a14 a15 a16 a17 a18 a19) fun y1 =>
 bif (!y1) then
 (some (-1))
 else (Option.bind (F180 FUEL a1 (iadd .i64 a0 (1))) fun y2 =>
 some y2.1)
def F102 (_n : Nat) (a0 : Int) (a1 a2 : List (Int)) (a3 a4 a5 a6 a7 a8 a9 a10 a11 a12 a13 a14 a15 a16 a17 a18 a19 : Int) : Option (Int) :=
 Option.bind (F66 FUEL a0 a1 a2 a3 a4 a5 a6 a7 a8 a9 a10 a11 a12 a13 a14 a15 a16 a17 a18 a19) fun y1 =>
 bif y1 then
 (bif (igt (ofN (List.length a2)) (0)) then
 (bif (inb (0) (List.length a2)) then
 (some (List.getD a2 (Int.toNat (0)) 0))
 else (none))
 else (Option.bind (F154 FUEL a0 a1 a2 a3 a4 a5 a6 a7 a8 a9 a10 a11 a12 a13 a14 a15 a16 a17 a18 a19) fun y2 =>
 some y2))
 else (Option.bind (F154 FUEL a0 a1 a2 a3 a4 a5 a6 a7 a8 a9 a10 a11 a12 a13 a14 a15 a16 a17 a18 a19) fun y3 =>
 some y3)
def F103 (_n : Nat) (a0 a1 a2 : Int) : Option (Bool) :=
 Option.bind (F104 FUEL a0 a1 a2) fun y1 =>
 bif y1 then
 (some true)
 else (Option.bind (F155 FUEL a1) fun y2 =>
 Option.bind (F155 FUEL a2) fun y3 =>
 some (ieq y2 y3))
def jdm : Nat → Int → Int → Int → Int → List (Int) → List (Int) → Int → Int → Int → Int → Int → Int → Int → Int → Int → Int → Int → Int → Int → Int → Int → Int → Int → List (Int) → Option (Int × Bool)
 | 0, _, _, _, _, _, _, _, _, _, _, _, _, _, _, _, _, _, _, _, _, _, _, _, _ => none
 | n + 1, x0, x1, x2, x3, x4, x5, x6, x7, x8, x9, x10, x11, x12, x13, x14, x15, x16, x17, x18, x19, x20, x21, x22, x23 => bif (ilt x2 (ofN (List.length x23))) then
 (bif (inb x2 (List.length x23)) then
 (bif (nlt (Int.toNat x2) (List.length x23)) then
 (bif (ige (List.getD x23 (Int.toNat x2) 0) (0)) then
 (bif (inb x2 (List.length x23)) then
 (bif (nlt (Int.toNat x2) (List.length x23)) then
 (Option.bind (F104 FUEL x3 (List.getD x23 (Int.toNat x2) 0) x0) fun y3 =>
 bif y3 then
 (bif (inb x2 (List.length x23)) then
 (bif (nlt (Int.toNat x2) (List.length x23)) then
 (Option.bind (F105 FUEL x3 (List.getD x23 (Int.toNat x2) 0)) fun y4 =>
 Option.bind (F105 FUEL x3 x1) fun y5 =>
 bif (igt y4 y5) then
 (bif (inb x2 (List.length x23)) then
 (bif (nlt (Int.toNat x2) (List.length x23)) then
 (jdm n x0 (List.getD x23 (Int.toNat x2) 0) (iadd .i64 x2 (1)) x3 x4 x5 x6 x7 x8 x9 x10 x11 x12 x13 x14 x15 x16 x17 x18 x19 x20 x21 x22 x23)
 else (none))
 else (none))
 else (jdm n x0 x1 (iadd .i64 x2 (1)) x3 x4 x5 x6 x7 x8 x9 x10 x11 x12 x13 x14 x15 x16 x17 x18 x19 x20 x21 x22 x23))
 else (none))
 else (none))
 else (jdm n x0 x1 (iadd .i64 x2 (1)) x3 x4 x5 x6 x7 x8 x9 x10 x11 x12 x13 x14 x15 x16 x17 x18 x19 x20 x21 x22 x23))
 else (none))
 else (none))
 else (jdm n x0 x1 (iadd .i64 x2 (1)) x3 x4 x5 x6 x7 x8 x9 x10 x11 x12 x13 x14 x15 x16 x17 x18 x19 x20 x21 x22 x23))
 else (none))
 else (none))
 else (some (x1, false))
def F26 (n : Nat) (a0 : Int) (a1 a2 : List (Int)) (a3 a4 a5 a6 a7 a8 a9 a10 a11 a12 a13 a14 a15 a16 a17 a18 a19 a20 : Int) (a21 : Bool) : Option (Int × Bool) :=
 Option.bind (F102 FUEL a0 a1 a2 a3 a4 a5 a6 a7 a8 a9 a10 a11 a12 a13 a14 a15 a16 a17 a18 a19) fun y1 =>
 bif (ilt y1 (0)) then
 (some ((-1), false))
 else (Option.bind (F103 FUEL a0 a20 y1) fun y2 =>
 bif y2 then
 (some (y1, true))
 else (bif a21 then
 (some (y1, false))
 else (bif (room (0 + List.length a2) 8) then
 (bif (room (List.length ([] ++ a2) + List.length [a4, a5, a6, a7, a8, a9, a10, a11, a12, a13, a14, a15, a16, a17, a18, a19]) 8) then
 (jdm n a20 y1 (0) a0 a1 a2 a3 a4 a5 a6 a7 a8 a9 a10 a11 a12 a13 a14 a15 a16 a17 a18 a19 (([] ++ a2) ++ [a4, a5, a6, a7, a8, a9, a10, a11, a12, a13, a14, a15, a16, a17, a18, a19]))
 else (none))
 else (none))))
def F42 (_n : Nat) (a0 : Int) (a1 a2 : List (Int)) (a3 a4 a5 a6 a7 a8 a9 a10 a11 a12 a13 a14 a15 a16 a17 a18 a19 a20 a21 a22 a23 a24 : Int) (a25 a26 : Bool) (a27 a28 : Int) (a29 : List (Int)) (a30 : ByteArray) (a31 a32 : Int) (a33 : Bool) (a34 : Int) : Option (qe) :=
 Option.bind (F66 FUEL a0 a1 a2 a3 a4 a5 a6 a7 a8 a9 a10 a11 a12 a13 a14 a15 a16 a17 a18 a19) fun y1 =>
 bif (!y1) then
 (some ⟨(0), (0), (0), (0), (0), false, false, (0), (0), ByteArray.empty, (0), (0), false, (0)⟩)
 else (Option.bind (F21 FUEL a20 a21 a22 a23 a24 a25 a26 a27 a28 a29 a30 a31 a32 a33 a34) fun y2 =>
 bif (!y2) then
 (some ⟨(0), (0), (0), (0), (0), false, false, (0), (0), ByteArray.empty, (0), (0), false, (0)⟩)
 else (bif (ine a20 (4)) then
 (some ⟨(0), (0), (0), (0), (0), false, false, (0), (0), ByteArray.empty, (0), (0), false, (0)⟩)
 else (bif (ine a23 a0) then
 (some ⟨(0), (0), (0), (0), (0), false, false, (0), (0), ByteArray.empty, (0), (0), false, (0)⟩)
 else (Option.bind (F41 FUEL a20 a21 a22 a23 a24 a25 a26 a27 a28 a29 a30 a31 a32 a33 a34) fun y3 =>
 Option.bind (F26 FUEL a0 a1 a2 a3 a4 a5 a6 a7 a8 a9 a10 a11 a12 a13 a14 a15 a16 a17 a18 a19 a24 a25) fun y4 =>
 some ⟨y3.q0, y3.q1, y3.q2, y3.q3, y3.q4, y3.q5, y4.2, y4.1, y3.q8, y3.q9, y3.q10, y3.q11, y3.q12, y3.q13⟩))))
def F106 (_n : Nat) (_a0 : ByteArray) (a1 a2 : Int) (a3 : Bool) (_a4 : ByteArray) (a5 a6 : Int) (a7 : Bool) : Option (Int) :=
 bif (igt a2 a6) then
 (some (1))
 else (bif (ilt a2 a6) then
 (some (-1))
 else (bif (igt a1 a5) then
 (some (1))
 else (bif (ilt a1 a5) then
 (some (-1))
 else (bif a3 then
 (bif (!a7) then
 (some (1))
 else (bif a7 then
 (bif (!a3) then
 (some (-1))
 else (some (0)))
 else (some (0))))
 else (bif a7 then
 (bif (!a3) then
 (some (-1))
 else (some (0)))
 else (some (0)))))))
def F31 (_n : Nat) (a0 : ByteArray) (a1 a2 : Int) (a3 : Bool) (a4 : ByteArray) (a5 a6 : Int) (a7 : Bool) : Option (Bool) :=
 Option.bind (F106 FUEL a0 a1 a2 a3 a4 a5 a6 a7) fun y1 =>
 some (igt y1 (0))
def jhf : Nat → Int → List (ByteArray × Int × Int × Bool) → ByteArray → Int → Int → Bool → Option (Int × (List (ByteArray × Int × Int × Bool)))
 | 0, _, _, _, _, _, _ => none
 | n + 1, x0, x1, x2, x3, x4, x5 => bif (ilt x0 (ofN (List.length x1))) then
 (bif (inb x0 (List.length x1)) then
 (bif (nlt (Int.toNat x0) (List.length x1)) then
 (bif (stlt (List.getD x1 (Int.toNat x0) (ByteArray.empty, 0, 0, false)).1 x2) then
 (jhf n (iadd .i64 x0 (1)) x1 x2 x3 x4 x5)
 else (bif (ilt x0 (ofN (List.length x1))) then
 (bif (inb x0 (List.length x1)) then
 (bif (nlt (Int.toNat x0) (List.length x1)) then
 (bif (steq (List.getD x1 (Int.toNat x0) (ByteArray.empty, 0, 0, false)).1 x2) then
 (bif (inb x0 (List.length x1)) then
 (bif (nlt (Int.toNat x0) (List.length x1)) then
 (Option.bind (F31 FUEL x2 x3 x4 x5 (List.getD x1 (Int.toNat x0) (ByteArray.empty, 0, 0, false)).1 (List.getD x1 (Int.toNat x0) (ByteArray.empty, 0, 0, false)).2.1 (List.getD x1 (Int.toNat x0) (ByteArray.empty, 0, 0, false)).2.2.1 (List.getD x1 (Int.toNat x0) (ByteArray.empty, 0, 0, false)).2.2.2) fun y4 =>
 bif y4 then
 (bif (inb x0 (List.length x1)) then
 (bif (nlt (Int.toNat x0) (List.length x1)) then
 (some ((0), (List.set x1 (Int.toNat x0) (x2, x3, x4, x5))))
 else (none))
 else (none))
 else (some ((0), x1)))
 else (none))
 else (none))
 else (bif (ige (ofN (List.length x1)) (24)) then
 (some ((200), x1))
 else (bif ((inn x0) && (inbs 0 (Int.toNat x0) (List.length x1))) then
 (bif (room (0 + List.length (List.take ((Int.toNat x0) - 0) (List.drop 0 x1))) 40) then
 (bif (room (List.length ([] ++ (List.take ((Int.toNat x0) - 0) (List.drop 0 x1))) + List.length [(x2, x3, x4, x5)]) 40) then
 (bif (((inn x0) && true) && (inbs (Int.toNat x0) (List.length x1) (List.length x1))) then
 (bif (room (List.length (([] ++ (List.take ((Int.toNat x0) - 0) (List.drop 0 x1))) ++ [(x2, x3, x4, x5)]) + List.length (List.take ((List.length x1) - (Int.toNat x0)) (List.drop (Int.toNat x0) x1))) 40) then
 (some ((0), ((([] ++ (List.take ((Int.toNat x0) - 0) (List.drop 0 x1))) ++ [(x2, x3, x4, x5)]) ++ (List.take ((List.length x1) - (Int.toNat x0)) (List.drop (Int.toNat x0) x1)))))
 else (none))
 else (none))
 else (none))
 else (none))
 else (none))))
 else (none))
 else (none))
 else (bif (ige (ofN (List.length x1)) (24)) then
 (some ((200), x1))
 else (bif ((inn x0) && (inbs 0 (Int.toNat x0) (List.length x1))) then
 (bif (room (0 + List.length (List.take ((Int.toNat x0) - 0) (List.drop 0 x1))) 40) then
 (bif (room (List.length ([] ++ (List.take ((Int.toNat x0) - 0) (List.drop 0 x1))) + List.length [(x2, x3, x4, x5)]) 40) then
 (bif (((inn x0) && true) && (inbs (Int.toNat x0) (List.length x1) (List.length x1))) then
 (bif (room (List.length (([] ++ (List.take ((Int.toNat x0) - 0) (List.drop 0 x1))) ++ [(x2, x3, x4, x5)]) + List.length (List.take ((List.length x1) - (Int.toNat x0)) (List.drop (Int.toNat x0) x1))) 40) then
 (some ((0), ((([] ++ (List.take ((Int.toNat x0) - 0) (List.drop 0 x1))) ++ [(x2, x3, x4, x5)]) ++ (List.take ((List.length x1) - (Int.toNat x0)) (List.drop (Int.toNat x0) x1)))))
 else (none))
 else (none))
 else (none))
 else (none))
 else (none)))))
 else (none))
 else (none))
 else (bif (ilt x0 (ofN (List.length x1))) then
 (bif (inb x0 (List.length x1)) then
 (bif (nlt (Int.toNat x0) (List.length x1)) then
 (bif (steq (List.getD x1 (Int.toNat x0) (ByteArray.empty, 0, 0, false)).1 x2) then
 (bif (inb x0 (List.length x1)) then
 (bif (nlt (Int.toNat x0) (List.length x1)) then
 (Option.bind (F31 FUEL x2 x3 x4 x5 (List.getD x1 (Int.toNat x0) (ByteArray.empty, 0, 0, false)).1 (List.getD x1 (Int.toNat x0) (ByteArray.empty, 0, 0, false)).2.1 (List.getD x1 (Int.toNat x0) (ByteArray.empty, 0, 0, false)).2.2.1 (List.getD x1 (Int.toNat x0) (ByteArray.empty, 0, 0, false)).2.2.2) fun y5 =>
 bif y5 then
 (bif (inb x0 (List.length x1)) then
 (bif (nlt (Int.toNat x0) (List.length x1)) then
 (some ((0), (List.set x1 (Int.toNat x0) (x2, x3, x4, x5))))
 else (none))
 else (none))
 else (some ((0), x1)))
 else (none))
 else (none))
 else (bif (ige (ofN (List.length x1)) (24)) then
 (some ((200), x1))
 else (bif ((inn x0) && (inbs 0 (Int.toNat x0) (List.length x1))) then
 (bif (room (0 + List.length (List.take ((Int.toNat x0) - 0) (List.drop 0 x1))) 40) then
 (bif (room (List.length ([] ++ (List.take ((Int.toNat x0) - 0) (List.drop 0 x1))) + List.length [(x2, x3, x4, x5)]) 40) then
 (bif (((inn x0) && true) && (inbs (Int.toNat x0) (List.length x1) (List.length x1))) then
 (bif (room (List.length (([] ++ (List.take ((Int.toNat x0) - 0) (List.drop 0 x1))) ++ [(x2, x3, x4, x5)]) + List.length (List.take ((List.length x1) - (Int.toNat x0)) (List.drop (Int.toNat x0) x1))) 40) then
 (some ((0), ((([] ++ (List.take ((Int.toNat x0) - 0) (List.drop 0 x1))) ++ [(x2, x3, x4, x5)]) ++ (List.take ((List.length x1) - (Int.toNat x0)) (List.drop (Int.toNat x0) x1)))))
 else (none))
 else (none))
 else (none))
 else (none))
 else (none))))
 else (none))
 else (none))
 else (bif (ige (ofN (List.length x1)) (24)) then
 (some ((200), x1))
 else (bif ((inn x0) && (inbs 0 (Int.toNat x0) (List.length x1))) then
 (bif (room (0 + List.length (List.take ((Int.toNat x0) - 0) (List.drop 0 x1))) 40) then
 (bif (room (List.length ([] ++ (List.take ((Int.toNat x0) - 0) (List.drop 0 x1))) + List.length [(x2, x3, x4, x5)]) 40) then
 (bif (((inn x0) && true) && (inbs (Int.toNat x0) (List.length x1) (List.length x1))) then
 (bif (room (List.length (([] ++ (List.take ((Int.toNat x0) - 0) (List.drop 0 x1))) ++ [(x2, x3, x4, x5)]) + List.length (List.take ((List.length x1) - (Int.toNat x0)) (List.drop (Int.toNat x0) x1))) 40) then
 (some ((0), ((([] ++ (List.take ((Int.toNat x0) - 0) (List.drop 0 x1))) ++ [(x2, x3, x4, x5)]) ++ (List.take ((List.length x1) - (Int.toNat x0)) (List.drop (Int.toNat x0) x1)))))
 else (none))
 else (none))
 else (none))
 else (none))
 else (none))))
def F27 (n : Nat) (a0 : List (ByteArray × Int × Int × Bool)) (a1 : ByteArray) (a2 a3 : Int) (a4 : Bool) : Option (Int × (List (ByteArray × Int × Int × Bool))) :=
 Option.bind (F100 FUEL a0) fun y1 =>
 Option.bind (F70 FUEL y1) fun y2 =>
 bif (!y2) then
 (some ((2), y1))
 else (Option.bind (F29 FUEL a1 a2 a3 a4) fun y3 =>
 bif (!y3) then
 (some ((2), y1))
 else (jhf n (0) y1 a1 a2 a3 a4))
def jiy : Nat → List (ByteArray × Int × Int × Bool) → ByteArray → Int → ByteArray → Bool → Option (jdh)
 | 0, _, _, _, _, _ => none
 | n + 1, x0, x1, x2, x3, x4 => bif (ilt x2 (ofN (List.length x0))) then
 (Option.bind (F70 FUEL x0) fun y1 =>
 bif y1 then
 (bif (inb x2 (List.length x0)) then
 (bif (steq (List.getD x0 (Int.toNat x2) (ByteArray.empty, 0, 0, false)).1 x1) then
 (bif (inb x2 (List.length x0)) then
 (some ⟨(List.getD x0 (Int.toNat x2) (ByteArray.empty, 0, 0, false)).1, (List.getD x0 (Int.toNat x2) (ByteArray.empty, 0, 0, false)).2.1, (List.getD x0 (Int.toNat x2) (ByteArray.empty, 0, 0, false)).2.2.1, (List.getD x0 (Int.toNat x2) (ByteArray.empty, 0, 0, false)).2.2.2, (0)⟩)
 else (none))
 else (jiy n x0 x1 (iadd .i64 x2 (1)) x3 x4))
 else (none))
 else (some ⟨ByteArray.empty, (0), (0), false, (201)⟩))
 else (some ⟨ByteArray.empty, (0), (0), false, (201)⟩)
def F28 (n : Nat) (a0 : List (ByteArray × Int × Int × Bool)) (a1 : ByteArray) : Option (jdh) :=
 jiy n a0 a1 (0) ByteArray.empty false
mutual
def jbw : Nat → List (TY2) → Nat → Nat → Int → List (TY1) → Option ((List (TY1)))
 | 0, _, _, _, _, _ => none
 | n + 1, x0, x1, x2, x3, x4 => bif (ilt x3 (ofN (List.length x0))) then
 (bif (inb x3 (List.length x0)) then
 (Option.bind (F124 FUEL (List.getD x0 (Int.toNat x3) TZ2).1 (List.getD x0 (Int.toNat x3) TZ2).2.1 (List.getD x0 (Int.toNat x3) TZ2).2.2.1 (List.getD x0 (Int.toNat x3) TZ2).2.2.2.1 (List.getD x0 (Int.toNat x3) TZ2).2.2.2.2.1 (List.getD x0 (Int.toNat x3) TZ2).2.2.2.2.2.1 (List.getD x0 (Int.toNat x3) TZ2).2.2.2.2.2.2.1 (List.getD x0 (Int.toNat x3) TZ2).2.2.2.2.2.2.2.1 (List.getD x0 (Int.toNat x3) TZ2).2.2.2.2.2.2.2.2.1 (List.getD x0 (Int.toNat x3) TZ2).2.2.2.2.2.2.2.2.2.1 (List.getD x0 (Int.toNat x3) TZ2).2.2.2.2.2.2.2.2.2.2.1 (List.getD x0 (Int.toNat x3) TZ2).2.2.2.2.2.2.2.2.2.2.2.1 (List.getD x0 (Int.toNat x3) TZ2).2.2.2.2.2.2.2.2.2.2.2.2.1 (List.getD x0 (Int.toNat x3) TZ2).2.2.2.2.2.2.2.2.2.2.2.2.2.1 (List.getD x0 (Int.toNat x3) TZ2).2.2.2.2.2.2.2.2.2.2.2.2.2.2) fun y2 =>
 Option.bind (F39 FUEL (List.take x2 (List.drop x1 x4)) y2.q0 y2.q1) fun y3 =>
 bif (ine y2.q17 (0)) then
 (jbw n x0 x1 x2 (iadd .i64 x3 (1)) x4)
 else (bif y3.q14 then
 (jbw n x0 x1 x2 (iadd .i64 x3 (1)) x4)
 else (bif (full x1 x2 (List.length x4) && room (x2 + List.length [(y2.q0, y2.q1, y2.q2, y2.q3, y2.q4, y2.q5, y2.q6, y2.q7, y2.q8, y2.q9, y2.q10, y2.q11, y2.q12, y2.q13, y2.q14, y2.q15, y2.q16)]) 152) then
 (jdl n x0 0 (List.length (List.drop x1 x4 ++ [(y2.q0, y2.q1, y2.q2, y2.q3, y2.q4, y2.q5, y2.q6, y2.q7, y2.q8, y2.q9, y2.q10, y2.q11, y2.q12, y2.q13, y2.q14, y2.q15, y2.q16)])) x3 (List.drop x1 x4 ++ [(y2.q0, y2.q1, y2.q2, y2.q3, y2.q4, y2.q5, y2.q6, y2.q7, y2.q8, y2.q9, y2.q10, y2.q11, y2.q12, y2.q13, y2.q14, y2.q15, y2.q16)]))
 else (none))))
 else (none))
 else (some (List.take x2 (List.drop x1 x4)))
def jdl : Nat → List (TY2) → Nat → Nat → Int → List (TY1) → Option ((List (TY1)))
 | 0, _, _, _, _, _ => none
 | n + 1, x0, x1, x2, x3, x4 => bif (igt (ofN x2) (40)) then
 (bif (((inn (1)) && true) && (inbs (Int.toNat (1)) x2 x2)) then
 (jdl n x0 (x1 + (Int.toNat (1))) (x2 - (Int.toNat (1))) x3 x4)
 else (none))
 else (jbw n x0 x1 x2 (iadd .i64 x3 (1)) x4)
end
def F43 (n : Nat) (a0 : List (TY1)) (a1 : List (TY2)) : Option ((List (TY1))) :=
 Option.bind (F98 FUEL a0) fun y1 =>
 jbw n a1 0 (List.length y1) (0) y1
structure Sx3 where
 (q0 q1 q2 q3 q4 q5 q6 q7 q8 q9 q10 q11 q12 q13 q14 q15 q16 q17 q18 q19 q20 : Int)
 q21 : List (TY1)
 (q22 q23 q24 q25 q26 q27 q28 : Int)
 (q29 q30 : Bool)
 q31 : Int
 q32 : ByteArray
 (q33 q34 : Int)
 q35 : Bool
 (q36 q37 q38 q39 q40 q41 q42 : Int)
 (q43 q44 : Bool)
 q45 : Int
 q46 : ByteArray
 (q47 q48 : Int)
 q49 : Bool
 (q50 q51 q52 q53 q54 q55 q56 : Int)
 (q57 q58 : Bool)
 q59 : Int
 q60 : ByteArray
 (q61 q62 : Int)
 q63 : Bool
 (q64 q65 q66 : Int)
 q67 : ByteArray
 (q68 q69 q70 q71 q72 q73 : Int)
 (q74 q75 : Bool)
 (q76 q77 : Int)
 q78 : List (Int)
 q79 : ByteArray
 (q80 q81 : Int)
 q82 : Bool
 q83 : Int
 (q84 q85 : List (Int))
 q86 : List (TY0)
 (q87 q88 q89 : List (Int))
 q90 : List (ByteArray × Int × Int × Bool)
def F12 (_n : Nat) (a0 : Int) (a1 a2 : List (Int)) (a3 a4 a5 a6 a7 a8 a9 a10 a11 a12 a13 a14 a15 a16 a17 a18 a19 a20 a21 a22 : Int) (a23 : List (TY0)) (a24 : List (TY1)) (a25 a26 a27 a28 a29 a30 a31 : Int) (a32 a33 : Bool) (a34 : Int) (a35 : ByteArray) (a36 a37 : Int) (a38 : Bool) (a39 : Int) (a40 : List (Int)) (a41 a42 a43 a44 a45 a46 : Int) (a47 a48 : Bool) (a49 : Int) (a50 : ByteArray) (a51 a52 : Int) (a53 : Bool) (a54 : Int) (a55 : List (Int)) (a56 a57 a58 a59 a60 a61 : Int) (a62 a63 : Bool) (a64 : Int) (a65 : ByteArray) (a66 a67 : Int) (a68 : Bool) (a69 : Int) (a70 : List (Int)) (a71 a72 : Int) (a73 : ByteArray) (a74 : List (ByteArray × Int × Int × Bool)) (a75 a76 a77 a78 a79 a80 : Int) (a81 a82 : Bool) (a83 a84 : Int) (a85 : List (Int)) (a86 : ByteArray) (a87 a88 : Int) (a89 : Bool) (a90 : Int) : Option (Sx3) :=
 Option.bind (F24 FUEL a0 a1 a2 a3 a4 a5 a6 a7 a8 a9 a10 a11 a12 a13 a14 a15 a16 a17 a18 a19 a20 a21 a22 a23 a24 a25 a26 a27 a28 a29 a30 a31 a32 a33 a34 a35 a36 a37 a38 a39 a40 a41 a42 a43 a44 a45 a46 a47 a48 a49 a50 a51 a52 a53 a54 a55 a56 a57 a58 a59 a60 a61 a62 a63 a64 a65 a66 a67 a68 a69 a70 a71 a72 a73 a74 a75) fun y1 =>
 Option.bind (F18 FUEL y1.q0 y1.q68 y1.q69 y1.q1 y1.q2 y1.q3 y1.q4 y1.q5 y1.q6 y1.q7 y1.q8 y1.q9 y1.q10 y1.q11 y1.q12 y1.q13 y1.q14 y1.q15 y1.q16 y1.q17 y1.q18 y1.q19 y1.q20 y1.q70 y1.q71 y1.q21 y1.q22 y1.q23 y1.q24 y1.q25 y1.q26 y1.q27 y1.q28 y1.q29 y1.q30 y1.q31 y1.q32 y1.q33 y1.q34 y1.q35 y1.q72 y1.q36 y1.q37 y1.q38 y1.q39 y1.q40 y1.q41 y1.q42 y1.q43 y1.q44 y1.q45 y1.q46 y1.q47 y1.q48 y1.q49 y1.q73 y1.q50 y1.q51 y1.q52 y1.q53 y1.q54 y1.q55 y1.q56 y1.q57 y1.q58 y1.q59 y1.q60 y1.q61 y1.q62 y1.q63 y1.q74 y1.q64 y1.q65 y1.q66 y1.q75 y1.q67 a76 a77 a78 a79 a80 a81 a82 a83 a84 a85 a86 a87 a88 a89 a90) fun y2 =>
 bif (!y2) then
 (some ⟨y1.q0, y1.q1, y1.q2, y1.q3, y1.q4, y1.q5, y1.q6, y1.q7, y1.q8, y1.q9, y1.q10, y1.q11, y1.q12, y1.q13, y1.q14, y1.q15, y1.q16, y1.q17, y1.q18, y1.q19, y1.q20, y1.q71, y1.q21, y1.q22, y1.q23, y1.q24, y1.q25, y1.q26, y1.q27, y1.q28, y1.q29, y1.q30, y1.q31, y1.q32, y1.q33, y1.q34, y1.q35, y1.q36, y1.q37, y1.q38, y1.q39, y1.q40, y1.q41, y1.q42, y1.q43, y1.q44, y1.q45, y1.q46, y1.q47, y1.q48, y1.q49, y1.q50, y1.q51, y1.q52, y1.q53, y1.q54, y1.q55, y1.q56, y1.q57, y1.q58, y1.q59, y1.q60, y1.q61, y1.q62, y1.q63, y1.q64, y1.q65, y1.q66, y1.q67, (0), (0), (0), (0), (0), false, false, (0), (0), [], ByteArray.empty, (0), (0), false, (0), y1.q68, y1.q69, y1.q70, y1.q72, y1.q73, y1.q74, y1.q75⟩)
 else (Option.bind (F39 FUEL y1.q71 a78 a77) fun y3 =>
 bif y3.q14 then
 (Option.bind (F40 FUEL y3.q0 y3.q1 y3.q2 y3.q3 y3.q4 y3.q5 y3.q6 y3.q7 y3.q8 y3.q15 y3.q9 y3.q10 y3.q11 y3.q12 y3.q13) fun y4 =>
 some ⟨y1.q0, y1.q1, y1.q2, y1.q3, y1.q4, y1.q5, y1.q6, y1.q7, y1.q8, y1.q9, y1.q10, y1.q11, y1.q12, y1.q13, y1.q14, y1.q15, y1.q16, y1.q17, y1.q18, y1.q19, y1.q20, y1.q71, y1.q21, y1.q22, y1.q23, y1.q24, y1.q25, y1.q26, y1.q27, y1.q28, y1.q29, y1.q30, y1.q31, y1.q32, y1.q33, y1.q34, y1.q35, y1.q36, y1.q37, y1.q38, y1.q39, y1.q40, y1.q41, y1.q42, y1.q43, y1.q44, y1.q45, y1.q46, y1.q47, y1.q48, y1.q49, y1.q50, y1.q51, y1.q52, y1.q53, y1.q54, y1.q55, y1.q56, y1.q57, y1.q58, y1.q59, y1.q60, y1.q61, y1.q62, y1.q63, y1.q64, y1.q65, y1.q66, y1.q67, y4.q0, y4.q1, y4.q2, y4.q3, y4.q4, y4.q5, y4.q6, y4.q7, y4.q8, y4.q14, y4.q9, y4.q10, y4.q11, y4.q12, y4.q13, y1.q68, y1.q69, y1.q70, y1.q72, y1.q73, y1.q74, y1.q75⟩)
 else (Option.bind (F41 FUEL a76 a77 a78 a79 a80 a81 a82 a83 a84 a85 a86 a87 a88 a89 a90) fun y5 =>
 bif (ieq a76 (1)) then
 (bif (room (0 + List.length y1.q69) 8) then
 (Option.bind (F43 FUEL y1.q71 ([(y5.q0, y5.q1, y5.q2, y5.q3, y5.q4, y5.q5, y5.q6, y5.q7, y1.q1, ([] ++ y1.q69), y5.q9, y5.q10, y5.q11, y5.q12, y5.q13)] : List (Int × Int × Int × Int × Int × Bool × Bool × Int × Int × (List (Int)) × ByteArray × Int × Int × Bool × Int))) fun y6 =>
 Option.bind (F40 FUEL y5.q0 y5.q1 y5.q2 y5.q3 y5.q4 y5.q5 y5.q6 y5.q7 y1.q1 ([] ++ y1.q69) y5.q9 y5.q10 y5.q11 y5.q12 y5.q13) fun y7 =>
 some ⟨y1.q0, y1.q1, y1.q2, y1.q3, y1.q4, y1.q5, y1.q6, y1.q7, y1.q8, y1.q9, y1.q10, y1.q11, y1.q12, y1.q13, y1.q14, y1.q15, y1.q16, y1.q17, y1.q18, y1.q19, y1.q20, y6, y1.q21, y1.q22, y1.q23, y1.q24, y1.q25, y1.q26, y1.q27, y1.q28, y1.q29, y1.q30, y1.q31, y1.q32, y1.q33, y1.q34, y1.q35, y1.q36, y1.q37, y1.q38, y1.q39, y1.q40, y1.q41, y1.q42, y1.q43, y1.q44, y1.q45, y1.q46, y1.q47, y1.q48, y1.q49, y1.q50, y1.q51, y1.q52, y1.q53, y1.q54, y1.q55, y1.q56, y1.q57, y1.q58, y1.q59, y1.q60, y1.q61, y1.q62, y1.q63, y1.q64, y1.q65, y1.q66, y1.q67, y7.q0, y7.q1, y7.q2, y7.q3, y7.q4, y7.q5, y7.q6, y7.q7, y7.q8, y7.q14, y7.q9, y7.q10, y7.q11, y7.q12, y7.q13, y1.q68, y1.q69, y1.q70, y1.q72, y1.q73, y1.q74, y1.q75⟩)
 else (none))
 else (bif (ieq a76 (3)) then
 (Option.bind (F25 FUEL y1.q0 y1.q68 y1.q69 y1.q1 y1.q2 y1.q3 y1.q4 y1.q5 y1.q6 y1.q7 y1.q8 y1.q9 y1.q10 y1.q11 y1.q12 y1.q13 y1.q14 y1.q15 y1.q16 y1.q17 [a78]) fun y8 =>
 Option.bind (F43 FUEL y1.q71 ([(y5.q0, y5.q1, y5.q2, y5.q3, y5.q4, y5.q5, y5.q6, y5.q7, y5.q8, [], y5.q9, y5.q10, y5.q11, y5.q12, y5.q13)] : List (Int × Int × Int × Int × Int × Bool × Bool × Int × Int × (List (Int)) × ByteArray × Int × Int × Bool × Int))) fun y9 =>
 Option.bind (F40 FUEL y5.q0 y5.q1 y5.q2 y5.q3 y5.q4 y5.q5 y5.q6 y5.q7 y5.q8 [] y5.q9 y5.q10 y5.q11 y5.q12 y5.q13) fun y10 =>
 some ⟨y8.q0, y8.q1, y8.q2, y8.q3, y8.q4, y8.q5, y8.q6, y8.q7, y8.q8, y8.q9, y8.q10, y8.q11, y8.q12, y8.q13, y8.q14, y8.q15, y8.q16, y8.q17, y1.q18, y1.q19, y1.q20, y9, y1.q21, y1.q22, y1.q23, y1.q24, y1.q25, y1.q26, y1.q27, y1.q28, y1.q29, y1.q30, y1.q31, y1.q32, y1.q33, y1.q34, y1.q35, y1.q36, y1.q37, y1.q38, y1.q39, y1.q40, y1.q41, y1.q42, y1.q43, y1.q44, y1.q45, y1.q46, y1.q47, y1.q48, y1.q49, y1.q50, y1.q51, y1.q52, y1.q53, y1.q54, y1.q55, y1.q56, y1.q57, y1.q58, y1.q59, y1.q60, y1.q61, y1.q62, y1.q63, y1.q64, y1.q65, y1.q66, y1.q67, y10.q0, y10.q1, y10.q2, y10.q3, y10.q4, y10.q5, y10.q6, y10.q7, y10.q8, y10.q14, y10.q9, y10.q10, y10.q11, y10.q12, y10.q13, y8.q18, y8.q19, y1.q70, y1.q72, y1.q73, y1.q74, y1.q75⟩)
 else (bif (ieq a76 (4)) then
 (Option.bind (F42 FUEL y1.q0 y1.q68 y1.q69 y1.q1 y1.q2 y1.q3 y1.q4 y1.q5 y1.q6 y1.q7 y1.q8 y1.q9 y1.q10 y1.q11 y1.q12 y1.q13 y1.q14 y1.q15 y1.q16 y1.q17 a76 a77 a78 a79 a80 a81 a82 a83 a84 a85 a86 a87 a88 a89 a90) fun y11 =>
 Option.bind (F43 FUEL y1.q71 ([(y11.q0, y11.q1, y11.q2, y11.q3, y11.q4, y11.q5, y11.q6, y11.q7, y11.q8, [], y11.q9, y11.q10, y11.q11, y11.q12, y11.q13)] : List (Int × Int × Int × Int × Int × Bool × Bool × Int × Int × (List (Int)) × ByteArray × Int × Int × Bool × Int))) fun y12 =>
 Option.bind (F40 FUEL y11.q0 y11.q1 y11.q2 y11.q3 y11.q4 y11.q5 y11.q6 y11.q7 y11.q8 [] y11.q9 y11.q10 y11.q11 y11.q12 y11.q13) fun y13 =>
 some ⟨y1.q0, y1.q1, y1.q2, y1.q3, y1.q4, y1.q5, y1.q6, y1.q7, y1.q8, y1.q9, y1.q10, y1.q11, y1.q12, y1.q13, y1.q14, y1.q15, y1.q16, y1.q17, y1.q18, y1.q19, y1.q20, y12, y1.q21, y1.q22, y1.q23, y1.q24, y1.q25, y1.q26, y1.q27, y1.q28, y1.q29, y1.q30, y1.q31, y1.q32, y1.q33, y1.q34, y1.q35, y1.q36, y1.q37, y1.q38, y1.q39, y1.q40, y1.q41, y1.q42, y1.q43, y1.q44, y1.q45, y1.q46, y1.q47, y1.q48, y1.q49, y1.q50, y1.q51, y1.q52, y1.q53, y1.q54, y1.q55, y1.q56, y1.q57, y1.q58, y1.q59, y1.q60, y1.q61, y1.q62, y1.q63, y1.q64, y1.q65, y1.q66, y1.q67, y13.q0, y13.q1, y13.q2, y13.q3, y13.q4, y13.q5, y13.q6, y13.q7, y13.q8, y13.q14, y13.q9, y13.q10, y13.q11, y13.q12, y13.q13, y1.q68, y1.q69, y1.q70, y1.q72, y1.q73, y1.q74, y1.q75⟩)
 else (bif (ieq a76 (5)) then
 (Option.bind (F27 FUEL y1.q75 a86 a87 a88 a89) fun y14 =>
 Option.bind (F43 FUEL y1.q71 ([(y5.q0, y5.q1, y5.q2, y5.q3, y5.q4, y5.q5, y5.q6, y5.q7, y5.q8, [], y5.q9, y5.q10, y5.q11, y5.q12, y14.1)] : List (Int × Int × Int × Int × Int × Bool × Bool × Int × Int × (List (Int)) × ByteArray × Int × Int × Bool × Int))) fun y15 =>
 Option.bind (F40 FUEL y5.q0 y5.q1 y5.q2 y5.q3 y5.q4 y5.q5 y5.q6 y5.q7 y5.q8 [] y5.q9 y5.q10 y5.q11 y5.q12 y14.1) fun y16 =>
 some ⟨y1.q0, y1.q1, y1.q2, y1.q3, y1.q4, y1.q5, y1.q6, y1.q7, y1.q8, y1.q9, y1.q10, y1.q11, y1.q12, y1.q13, y1.q14, y1.q15, y1.q16, y1.q17, y1.q18, y1.q19, y1.q20, y15, y1.q21, y1.q22, y1.q23, y1.q24, y1.q25, y1.q26, y1.q27, y1.q28, y1.q29, y1.q30, y1.q31, y1.q32, y1.q33, y1.q34, y1.q35, y1.q36, y1.q37, y1.q38, y1.q39, y1.q40, y1.q41, y1.q42, y1.q43, y1.q44, y1.q45, y1.q46, y1.q47, y1.q48, y1.q49, y1.q50, y1.q51, y1.q52, y1.q53, y1.q54, y1.q55, y1.q56, y1.q57, y1.q58, y1.q59, y1.q60, y1.q61, y1.q62, y1.q63, y1.q64, y1.q65, y1.q66, y1.q67, y16.q0, y16.q1, y16.q2, y16.q3, y16.q4, y16.q5, y16.q6, y16.q7, y16.q8, y16.q14, y16.q9, y16.q10, y16.q11, y16.q12, y16.q13, y1.q68, y1.q69, y1.q70, y1.q72, y1.q73, y1.q74, y14.2⟩)
 else (bif (ieq a76 (6)) then
 (Option.bind (F28 FUEL y1.q75 a86) fun y17 =>
 Option.bind (F43 FUEL y1.q71 ([(y5.q0, y5.q1, y5.q2, y5.q3, y5.q4, y5.q5, y5.q6, y5.q7, y5.q8, [], y17.q0, y17.q1, y17.q2, y17.q3, y17.q4)] : List (Int × Int × Int × Int × Int × Bool × Bool × Int × Int × (List (Int)) × ByteArray × Int × Int × Bool × Int))) fun y18 =>
 Option.bind (F40 FUEL y5.q0 y5.q1 y5.q2 y5.q3 y5.q4 y5.q5 y5.q6 y5.q7 y5.q8 [] y17.q0 y17.q1 y17.q2 y17.q3 y17.q4) fun y19 =>
 some ⟨y1.q0, y1.q1, y1.q2, y1.q3, y1.q4, y1.q5, y1.q6, y1.q7, y1.q8, y1.q9, y1.q10, y1.q11, y1.q12, y1.q13, y1.q14, y1.q15, y1.q16, y1.q17, y1.q18, y1.q19, y1.q20, y18, y1.q21, y1.q22, y1.q23, y1.q24, y1.q25, y1.q26, y1.q27, y1.q28, y1.q29, y1.q30, y1.q31, y1.q32, y1.q33, y1.q34, y1.q35, y1.q36, y1.q37, y1.q38, y1.q39, y1.q40, y1.q41, y1.q42, y1.q43, y1.q44, y1.q45, y1.q46, y1.q47, y1.q48, y1.q49, y1.q50, y1.q51, y1.q52, y1.q53, y1.q54, y1.q55, y1.q56, y1.q57, y1.q58, y1.q59, y1.q60, y1.q61, y1.q62, y1.q63, y1.q64, y1.q65, y1.q66, y1.q67, y19.q0, y19.q1, y19.q2, y19.q3, y19.q4, y19.q5, y19.q6, y19.q7, y19.q8, y19.q14, y19.q9, y19.q10, y19.q11, y19.q12, y19.q13, y1.q68, y1.q69, y1.q70, y1.q72, y1.q73, y1.q74, y1.q75⟩)
 else (Option.bind (F43 FUEL y1.q71 ([(y5.q0, y5.q1, y5.q2, y5.q3, y5.q4, y5.q5, y5.q6, y5.q7, y5.q8, [], y5.q9, y5.q10, y5.q11, y5.q12, y5.q13)] : List (Int × Int × Int × Int × Int × Bool × Bool × Int × Int × (List (Int)) × ByteArray × Int × Int × Bool × Int))) fun y20 =>
 Option.bind (F40 FUEL y5.q0 y5.q1 y5.q2 y5.q3 y5.q4 y5.q5 y5.q6 y5.q7 y5.q8 [] y5.q9 y5.q10 y5.q11 y5.q12 y5.q13) fun y21 =>
 some ⟨y1.q0, y1.q1, y1.q2, y1.q3, y1.q4, y1.q5, y1.q6, y1.q7, y1.q8, y1.q9, y1.q10, y1.q11, y1.q12, y1.q13, y1.q14, y1.q15, y1.q16, y1.q17, y1.q18, y1.q19, y1.q20, y20, y1.q21, y1.q22, y1.q23, y1.q24, y1.q25, y1.q26, y1.q27, y1.q28, y1.q29, y1.q30, y1.q31, y1.q32, y1.q33, y1.q34, y1.q35, y1.q36, y1.q37, y1.q38, y1.q39, y1.q40, y1.q41, y1.q42, y1.q43, y1.q44, y1.q45, y1.q46, y1.q47, y1.q48, y1.q49, y1.q50, y1.q51, y1.q52, y1.q53, y1.q54, y1.q55, y1.q56, y1.q57, y1.q58, y1.q59, y1.q60, y1.q61, y1.q62, y1.q63, y1.q64, y1.q65, y1.q66, y1.q67, y21.q0, y21.q1, y21.q2, y21.q3, y21.q4, y21.q5, y21.q6, y21.q7, y21.q8, y21.q14, y21.q9, y21.q10, y21.q11, y21.q12, y21.q13, y1.q68, y1.q69, y1.q70, y1.q72, y1.q73, y1.q74, y1.q75⟩)))))))
def F3 (_n : Nat) (a0 : Int) (a1 a2 : List (Int)) (a3 a4 a5 a6 a7 a8 a9 a10 a11 a12 a13 a14 a15 a16 a17 a18 a19 a20 a21 a22 : Int) (a23 : List (TY0)) (a24 : List (TY1)) (a25 a26 a27 a28 a29 a30 a31 : Int) (a32 a33 : Bool) (a34 : Int) (a35 : ByteArray) (a36 a37 : Int) (a38 : Bool) (a39 : Int) (a40 : List (Int)) (a41 a42 a43 a44 a45 a46 : Int) (a47 a48 : Bool) (a49 : Int) (a50 : ByteArray) (a51 a52 : Int) (a53 : Bool) (a54 : Int) (a55 : List (Int)) (a56 a57 a58 a59 a60 a61 : Int) (a62 a63 : Bool) (a64 : Int) (a65 : ByteArray) (a66 a67 : Int) (a68 : Bool) (a69 : Int) (a70 : List (Int)) (a71 a72 : Int) (a73 : ByteArray) (a74 : List (ByteArray × Int × Int × Bool)) (a75 a76 : Int) (a77 a78 : List (Int)) (a79 a80 a81 a82 a83 a84 a85 a86 a87 a88 a89 a90 a91 a92 a93 a94 a95 a96 a97 a98 : Int) (a99 : List (TY0)) (a100 : List (TY1)) (a101 a102 a103 a104 a105 a106 a107 : Int) (a108 a109 : Bool) (a110 : Int) (a111 : ByteArray) (a112 a113 : Int) (a114 : Bool) (a115 : Int) (a116 : List (Int)) (a117 a118 a119 a120 a121 a122 : Int) (a123 a124 : Bool) (a125 : Int) (a126 : ByteArray) (a127 a128 : Int) (a129 : Bool) (a130 : Int) (a131 : List (Int)) (a132 a133 a134 a135 a136 a137 : Int) (a138 a139 : Bool) (a140 : Int) (a141 : ByteArray) (a142 a143 : Int) (a144 : Bool) (a145 : Int) (a146 : List (Int)) (a147 a148 : Int) (a149 : ByteArray) (a150 : List (ByteArray × Int × Int × Bool)) (a151 a152 a153 a154 a155 a156 : Int) (a157 a158 : Bool) (a159 a160 : Int) (a161 : List (Int)) (a162 : ByteArray) (a163 a164 : Int) (a165 : Bool) (a166 : Int) : Option (Bool) :=
 Option.bind (F8 FUEL a0 a1 a2 a3 a4 a5 a6 a7 a8 a9 a10 a11 a12 a13 a14 a15 a16 a17 a18 a19 a20 a21 a22 a23 a24 a25 a26 a27 a28 a29 a30 a31 a32 a33 a34 a35 a36 a37 a38 a39 a40 a41 a42 a43 a44 a45 a46 a47 a48 a49 a50 a51 a52 a53 a54 a55 a56 a57 a58 a59 a60 a61 a62 a63 a64 a65 a66 a67 a68 a69 a70 a71 a72 a73 a74 a75) fun y1 =>
 bif y1 then
 (Option.bind (F10 FUEL) fun y2 =>
 some y2)
 else (Option.bind (F8 FUEL a76 a77 a78 a79 a80 a81 a82 a83 a84 a85 a86 a87 a88 a89 a90 a91 a92 a93 a94 a95 a96 a97 a98 a99 a100 a101 a102 a103 a104 a105 a106 a107 a108 a109 a110 a111 a112 a113 a114 a115 a116 a117 a118 a119 a120 a121 a122 a123 a124 a125 a126 a127 a128 a129 a130 a131 a132 a133 a134 a135 a136 a137 a138 a139 a140 a141 a142 a143 a144 a145 a146 a147 a148 a149 a150 a151) fun y3 =>
 bif y3 then
 (Option.bind (F10 FUEL) fun y4 =>
 some y4)
 else (Option.bind (F9 FUEL a152 a153 a154 a155 a156 a157 a158 a159 a160 a161 a162 a163 a164 a165 a166) fun y5 =>
 bif y5 then
 (Option.bind (F10 FUEL) fun y6 =>
 some y6)
 else (Option.bind (F11 FUEL a0 a1 a2 a3 a4 a5 a6 a7 a8 a9 a10 a11 a12 a13 a14 a15 a16 a17 a18 a19 a20 a21 a22 a23 a24 a25 a26 a27 a28 a29 a30 a31 a32 a33 a34 a35 a36 a37 a38 a39 a40 a41 a42 a43 a44 a45 a46 a47 a48 a49 a50 a51 a52 a53 a54 a55 a56 a57 a58 a59 a60 a61 a62 a63 a64 a65 a66 a67 a68 a69 a70 a71 a72 a73 a74 a75 a152 a153 a154 a155 a156 a157 a158 a159 a160 a161 a162 a163 a164 a165 a166) fun y7 =>
 Option.bind (F12 FUEL a0 a1 a2 a3 a4 a5 a6 a7 a8 a9 a10 a11 a12 a13 a14 a15 a16 a17 a18 a19 a20 a21 a22 a23 a24 a25 a26 a27 a28 a29 a30 a31 a32 a33 a34 a35 a36 a37 a38 a39 a40 a41 a42 a43 a44 a45 a46 a47 a48 a49 a50 a51 a52 a53 a54 a55 a56 a57 a58 a59 a60 a61 a62 a63 a64 a65 a66 a67 a68 a69 a70 a71 a72 a73 a74 a75 a152 a153 a154 a155 a156 a157 a158 a159 a160 a161 a162 a163 a164 a165 a166) fun y8 =>
 Option.bind (F13 FUEL y7.q0 y7.q1 y7.q2 y7.q3 y7.q4 y7.q5 y7.q6 y7.q7 y7.q8 y7.q9 y7.q10 y7.q11 y7.q12 y7.q13 y7.q14 y7.q15 y7.q16 y7.q17 y7.q18 y7.q19 y7.q20 y7.q21 y7.q22 y7.q87 y7.q23 y7.q24 y7.q25 y7.q26 y7.q27 y7.q28 y7.q29 y7.q30 y7.q31 y7.q32 y7.q33 y7.q34 y7.q35 y7.q36 y7.q37 y7.q38 y7.q88 y7.q39 y7.q40 y7.q41 y7.q42 y7.q43 y7.q44 y7.q45 y7.q46 y7.q47 y7.q48 y7.q49 y7.q50 y7.q51 y7.q52 y7.q89 y7.q53 y7.q54 y7.q55 y7.q56 y7.q57 y7.q58 y7.q59 y7.q60 y7.q61 y7.q62 y7.q63 y7.q64 y7.q65 y7.q66 y7.q90 y7.q67 y7.q68 y7.q69 y7.q70 y7.q71 y8.q0 y8.q84 y8.q85 y8.q1 y8.q2 y8.q3 y8.q4 y8.q5 y8.q6 y8.q7 y8.q8 y8.q9 y8.q10 y8.q11 y8.q12 y8.q13 y8.q14 y8.q15 y8.q16 y8.q17 y8.q18 y8.q19 y8.q20 y8.q86 y8.q21 y8.q22 y8.q23 y8.q24 y8.q25 y8.q26 y8.q27 y8.q28 y8.q29 y8.q30 y8.q31 y8.q32 y8.q33 y8.q34 y8.q35 y8.q36 y8.q87 y8.q37 y8.q38 y8.q39 y8.q40 y8.q41 y8.q42 y8.q43 y8.q44 y8.q45 y8.q46 y8.q47 y8.q48 y8.q49 y8.q50 y8.q88 y8.q51 y8.q52 y8.q53 y8.q54 y8.q55 y8.q56 y8.q57 y8.q58 y8.q59 y8.q60 y8.q61 y8.q62 y8.q63 y8.q64 y8.q89 y8.q65 y8.q66 y8.q67 y8.q90 y8.q68) fun y9 =>
 bif y9 then
 (Option.bind (F14 FUEL y7.q72 y7.q73 y7.q74 y7.q75 y7.q76 y7.q77 y7.q78 y7.q79 y7.q80 y7.q81 y7.q82 y7.q83 y7.q84 y7.q85 y7.q86 y8.q69 y8.q70 y8.q71 y8.q72 y8.q73 y8.q74 y8.q75 y8.q76 y8.q77 y8.q78 y8.q79 y8.q80 y8.q81 y8.q82 y8.q83) fun y10 =>
 bif y10 then
 (Option.bind (F15 FUEL a0 a1 a2 a3 a4 a5 a6 a7 a8 a9 a10 a11 a12 a13 a14 a15 a16 a17 a18 a19 a20 a21 a22 a23 a24 a25 a26 a27 a28 a29 a30 a31 a32 a33 a34 a35 a36 a37 a38 a39 a40 a41 a42 a43 a44 a45 a46 a47 a48 a49 a50 a51 a52 a53 a54 a55 a56 a57 a58 a59 a60 a61 a62 a63 a64 a65 a66 a67 a68 a69 a70 a71 a72 a73 a74 a75) fun y11 =>
 Option.bind (F16 FUEL a0 a1 a2 a3 a4 a5 a6 a7 a8 a9 a10 a11 a12 a13 a14 a15 a16 a17 a18 a19 a20 a21 a22 a23 a24 a25 a26 a27 a28 a29 a30 a31 a32 a33 a34 a35 a36 a37 a38 a39 a40 a41 a42 a43 a44 a45 a46 a47 a48 a49 a50 a51 a52 a53 a54 a55 a56 a57 a58 a59 a60 a61 a62 a63 a64 a65 a66 a67 a68 a69 a70 a71 a72 a73 a74 a75) fun y12 =>
 bif (beqb y11 y12) then
 (Option.bind (F17 FUEL a0 a1 a2 a3 a4 a5 a6 a7 a8 a9 a10 a11 a12 a13 a14 a15 a16 a17 a18 a19 a20 a21 a22 a23 a24 a25 a26 a27 a28 a29 a30 a31 a32 a33 a34 a35 a36 a37 a38 a39 a40 a41 a42 a43 a44 a45 a46 a47 a48 a49 a50 a51 a52 a53 a54 a55 a56 a57 a58 a59 a60 a61 a62 a63 a64 a65 a66 a67 a68 a69 a70 a71 a72 a73 a74 a75 a152 a153 a154 a155 a156 a157 a158 a159 a160 a161 a162 a163 a164 a165 a166) fun y13 =>
 Option.bind (F18 FUEL a0 a1 a2 a3 a4 a5 a6 a7 a8 a9 a10 a11 a12 a13 a14 a15 a16 a17 a18 a19 a20 a21 a22 a23 a24 a25 a26 a27 a28 a29 a30 a31 a32 a33 a34 a35 a36 a37 a38 a39 a40 a41 a42 a43 a44 a45 a46 a47 a48 a49 a50 a51 a52 a53 a54 a55 a56 a57 a58 a59 a60 a61 a62 a63 a64 a65 a66 a67 a68 a69 a70 a71 a72 a73 a74 a75 a152 a153 a154 a155 a156 a157 a158 a159 a160 a161 a162 a163 a164 a165 a166) fun y14 =>
 bif (beqb y13 y14) then
 (Option.bind (F19 FUEL a0 a1 a2 a3 a4 a5 a6 a7 a8 a9 a10 a11 a12 a13 a14 a15 a16 a17 a18 a19 a20 a21 a22 a23 a24 a25 a26 a27 a28 a29 a30 a31 a32 a33 a34 a35 a36 a37 a38 a39 a40 a41 a42 a43 a44 a45 a46 a47 a48 a49 a50 a51 a52 a53 a54 a55 a56 a57 a58 a59 a60 a61 a62 a63 a64 a65 a66 a67 a68 a69 a70 a71 a72 a73 a74 a75 a76 a77 a78 a79 a80 a81 a82 a83 a84 a85 a86 a87 a88 a89 a90 a91 a92 a93 a94 a95 a96 a97 a98 a99 a100 a101 a102 a103 a104 a105 a106 a107 a108 a109 a110 a111 a112 a113 a114 a115 a116 a117 a118 a119 a120 a121 a122 a123 a124 a125 a126 a127 a128 a129 a130 a131 a132 a133 a134 a135 a136 a137 a138 a139 a140 a141 a142 a143 a144 a145 a146 a147 a148 a149 a150 a151) fun y15 =>
 Option.bind (F13 FUEL a0 a1 a2 a3 a4 a5 a6 a7 a8 a9 a10 a11 a12 a13 a14 a15 a16 a17 a18 a19 a20 a21 a22 a23 a24 a25 a26 a27 a28 a29 a30 a31 a32 a33 a34 a35 a36 a37 a38 a39 a40 a41 a42 a43 a44 a45 a46 a47 a48 a49 a50 a51 a52 a53 a54 a55 a56 a57 a58 a59 a60 a61 a62 a63 a64 a65 a66 a67 a68 a69 a70 a71 a72 a73 a74 a75 a76 a77 a78 a79 a80 a81 a82 a83 a84 a85 a86 a87 a88 a89 a90 a91 a92 a93 a94 a95 a96 a97 a98 a99 a100 a101 a102 a103 a104 a105 a106 a107 a108 a109 a110 a111 a112 a113 a114 a115 a116 a117 a118 a119 a120 a121 a122 a123 a124 a125 a126 a127 a128 a129 a130 a131 a132 a133 a134 a135 a136 a137 a138 a139 a140 a141 a142 a143 a144 a145 a146 a147 a148 a149 a150 a151) fun y16 =>
 bif (beqb y15 y16) then
 (Option.bind (F20 FUEL a0 a1 a2 a3 a4 a5 a6 a7 a8 a9 a10 a11 a12 a13 a14 a15 a16 a17 a18 a19 a20 a21 a22 a23 a24 a25 a26 a27 a28 a29 a30 a31 a32 a33 a34 a35 a36 a37 a38 a39 a40 a41 a42 a43 a44 a45 a46 a47 a48 a49 a50 a51 a52 a53 a54 a55 a56 a57 a58 a59 a60 a61 a62 a63 a64 a65 a66 a67 a68 a69 a70 a71 a72 a73 a74 a75) fun y17 =>
 Option.bind (F13 FUEL y17.q0 y17.q68 y17.q69 y17.q1 y17.q2 y17.q3 y17.q4 y17.q5 y17.q6 y17.q7 y17.q8 y17.q9 y17.q10 y17.q11 y17.q12 y17.q13 y17.q14 y17.q15 y17.q16 y17.q17 y17.q18 y17.q19 y17.q20 y17.q70 y17.q71 y17.q21 y17.q22 y17.q23 y17.q24 y17.q25 y17.q26 y17.q27 y17.q28 y17.q29 y17.q30 y17.q31 y17.q32 y17.q33 y17.q34 y17.q35 y17.q72 y17.q36 y17.q37 y17.q38 y17.q39 y17.q40 y17.q41 y17.q42 y17.q43 y17.q44 y17.q45 y17.q46 y17.q47 y17.q48 y17.q49 y17.q73 y17.q50 y17.q51 y17.q52 y17.q53 y17.q54 y17.q55 y17.q56 y17.q57 y17.q58 y17.q59 y17.q60 y17.q61 y17.q62 y17.q63 y17.q74 y17.q64 y17.q65 y17.q66 y17.q75 y17.q67 a0 a1 a2 a3 a4 a5 a6 a7 a8 a9 a10 a11 a12 a13 a14 a15 a16 a17 a18 a19 a20 a21 a22 a23 a24 a25 a26 a27 a28 a29 a30 a31 a32 a33 a34 a35 a36 a37 a38 a39 a40 a41 a42 a43 a44 a45 a46 a47 a48 a49 a50 a51 a52 a53 a54 a55 a56 a57 a58 a59 a60 a61 a62 a63 a64 a65 a66 a67 a68 a69 a70 a71 a72 a73 a74 a75) fun y18 =>
 bif y18 then
 (Option.bind (F10 FUEL) fun y19 =>
 some y19)
 else (some false))
 else (some false))
 else (some false))
 else (some false))
 else (some false))
 else (some false))))
def F23 (_n : Nat) (a0 : List (TY1)) (a1 a2 a3 a4 a5 : Int) (a6 a7 : Bool) (a8 a9 : Int) (a10 : List (Int)) (a11 : ByteArray) (a12 a13 : Int) (a14 : Bool) (a15 : Int) : Option (Bool) :=
 Option.bind (F39 FUEL a0 a3 a2) fun y1 =>
 Option.bind (F21 FUEL a1 a2 a3 a4 a5 a6 a7 a8 a9 a10 a11 a12 a13 a14 a15) fun y2 =>
 bif y2 then
 (Option.bind (F22 FUEL a1 a2 a3 a4 a5 a6 a7 a8 a9 a10 a11 a12 a13 a14 a15) fun y3 =>
 bif y3 then
 (some (!y1.q14))
 else (some false))
 else (some false)
def F7_c0 : Nat → Int → List (TY2) → Int → ByteArray → Int → Int → Bool → Int → Int → Int → Int → Int → Bool → Bool → Int → Int → ByteArray → Int → Int → Bool → Int → Int → List (Int) → List (Int) → Int → Int → Int → Int → Int → Int → Int → Int → Int → Int → Int → Int → Int → Int → Int → Int → Int → Int → Int → Int → List (TY0) → List (TY1) → Int → Int → Int → Int → Int → Int → Int → Bool → Bool → Int → ByteArray → Int → Int → Bool → Int → List (Int) → Int → Int → Int → Int → Int → Int → Bool → Bool → Int → ByteArray → Int → Int → Bool → Int → List (Int) → Int → Int → Int → Int → Int → Int → Bool → Bool → Int → ByteArray → Int → Int → Bool → Int → List (Int) → Int → Int → ByteArray → List (ByteArray × Int × Int × Bool) → Int → Option (Bool)
 | 0, _, _, _, _, _, _, _, _, _, _, _, _, _, _, _, _, _, _, _, _, _, _, _, _, _, _, _, _, _, _, _, _, _, _, _, _, _, _, _, _, _, _, _, _, _, _, _, _, _, _, _, _, _, _, _, _, _, _, _, _, _, _, _, _, _, _, _, _, _, _, _, _, _, _, _, _, _, _, _, _, _, _, _, _, _, _, _, _, _, _, _, _, _, _, _, _, _ => none
 | n + 1, x0, x1, x2, x3, x4, x5, x6, x7, x8, x9, x10, x11, x12, x13, x14, x15, x16, x17, x18, x19, x20, x21, x22, x23, x24, x25, x26, x27, x28, x29, x30, x31, x32, x33, x34, x35, x36, x37, x38, x39, x40, x41, x42, x43, x44, x45, x46, x47, x48, x49, x50, x51, x52, x53, x54, x55, x56, x57, x58, x59, x60, x61, x62, x63, x64, x65, x66, x67, x68, x69, x70, x71, x72, x73, x74, x75, x76, x77, x78, x79, x80, x81, x82, x83, x84, x85, x86, x87, x88, x89, x90, x91, x92, x93, x94, x95, x96 => bif (ilt x2 (ofN (List.length x1))) then
 (bif (inb x2 (List.length x1)) then
 (Option.bind (F9 FUEL (List.getD x1 (Int.toNat x2) TZ2).1 (List.getD x1 (Int.toNat x2) TZ2).2.1 (List.getD x1 (Int.toNat x2) TZ2).2.2.1 (List.getD x1 (Int.toNat x2) TZ2).2.2.2.1 (List.getD x1 (Int.toNat x2) TZ2).2.2.2.2.1 (List.getD x1 (Int.toNat x2) TZ2).2.2.2.2.2.1 (List.getD x1 (Int.toNat x2) TZ2).2.2.2.2.2.2.1 (List.getD x1 (Int.toNat x2) TZ2).2.2.2.2.2.2.2.1 (List.getD x1 (Int.toNat x2) TZ2).2.2.2.2.2.2.2.2.1 (List.getD x1 (Int.toNat x2) TZ2).2.2.2.2.2.2.2.2.2.1 (List.getD x1 (Int.toNat x2) TZ2).2.2.2.2.2.2.2.2.2.2.1 (List.getD x1 (Int.toNat x2) TZ2).2.2.2.2.2.2.2.2.2.2.2.1 (List.getD x1 (Int.toNat x2) TZ2).2.2.2.2.2.2.2.2.2.2.2.2.1 (List.getD x1 (Int.toNat x2) TZ2).2.2.2.2.2.2.2.2.2.2.2.2.2.1 (List.getD x1 (Int.toNat x2) TZ2).2.2.2.2.2.2.2.2.2.2.2.2.2.2) fun y19 =>
 bif y19 then
 (Option.bind (F10 FUEL) fun y20 =>
 some y20)
 else (bif (inb x2 (List.length x1)) then
 (bif (ieq (List.getD x1 (Int.toNat x2) TZ2).2.2.1 x0) then
 (Option.bind (F10 FUEL) fun y21 =>
 some y21)
 else (bif (inb x2 (List.length x1)) then
 (Option.bind (F11 FUEL x21 x22 x23 x24 x25 x26 x27 x28 x29 x30 x31 x32 x33 x34 x35 x36 x37 x38 x39 x40 x41 x42 x43 x44 x45 x46 x47 x48 x49 x50 x51 x52 x53 x54 x55 x56 x57 x58 x59 x60 x61 x62 x63 x64 x65 x66 x67 x68 x69 x70 x71 x72 x73 x74 x75 x76 x77 x78 x79 x80 x81 x82 x83 x84 x85 x86 x87 x88 x89 x90 x91 x92 x93 x94 x95 x96 (List.getD x1 (Int.toNat x2) TZ2).1 (List.getD x1 (Int.toNat x2) TZ2).2.1 (List.getD x1 (Int.toNat x2) TZ2).2.2.1 (List.getD x1 (Int.toNat x2) TZ2).2.2.2.1 (List.getD x1 (Int.toNat x2) TZ2).2.2.2.2.1 (List.getD x1 (Int.toNat x2) TZ2).2.2.2.2.2.1 (List.getD x1 (Int.toNat x2) TZ2).2.2.2.2.2.2.1 (List.getD x1 (Int.toNat x2) TZ2).2.2.2.2.2.2.2.1 (List.getD x1 (Int.toNat x2) TZ2).2.2.2.2.2.2.2.2.1 (List.getD x1 (Int.toNat x2) TZ2).2.2.2.2.2.2.2.2.2.1 (List.getD x1 (Int.toNat x2) TZ2).2.2.2.2.2.2.2.2.2.2.1 (List.getD x1 (Int.toNat x2) TZ2).2.2.2.2.2.2.2.2.2.2.2.1 (List.getD x1 (Int.toNat x2) TZ2).2.2.2.2.2.2.2.2.2.2.2.2.1 (List.getD x1 (Int.toNat x2) TZ2).2.2.2.2.2.2.2.2.2.2.2.2.2.1 (List.getD x1 (Int.toNat x2) TZ2).2.2.2.2.2.2.2.2.2.2.2.2.2.2) fun y22 =>
 F7_c0 n x0 x1 (iadd .i64 x2 (1)) x3 x4 x5 x6 x7 x8 x9 x10 x11 x12 x13 x14 x15 x16 x17 x18 x19 x20 y22.q0 y22.q1 y22.q2 y22.q3 y22.q4 y22.q5 y22.q6 y22.q7 y22.q8 y22.q9 y22.q10 y22.q11 y22.q12 y22.q13 y22.q14 y22.q15 y22.q16 y22.q17 y22.q18 y22.q19 y22.q20 y22.q21 y22.q22 y22.q87 y22.q23 y22.q24 y22.q25 y22.q26 y22.q27 y22.q28 y22.q29 y22.q30 y22.q31 y22.q32 y22.q33 y22.q34 y22.q35 y22.q36 y22.q37 y22.q38 y22.q88 y22.q39 y22.q40 y22.q41 y22.q42 y22.q43 y22.q44 y22.q45 y22.q46 y22.q47 y22.q48 y22.q49 y22.q50 y22.q51 y22.q52 y22.q89 y22.q53 y22.q54 y22.q55 y22.q56 y22.q57 y22.q58 y22.q59 y22.q60 y22.q61 y22.q62 y22.q63 y22.q64 y22.q65 y22.q66 y22.q90 y22.q67 y22.q68 y22.q69 y22.q70 y22.q71)
 else (none)))
 else (none)))
 else (none))
 else (Option.bind (F11 FUEL x21 x22 x23 x24 x25 x26 x27 x28 x29 x30 x31 x32 x33 x34 x35 x36 x37 x38 x39 x40 x41 x42 x43 x44 x45 x46 x47 x48 x49 x50 x51 x52 x53 x54 x55 x56 x57 x58 x59 x60 x61 x62 x63 x64 x65 x66 x67 x68 x69 x70 x71 x72 x73 x74 x75 x76 x77 x78 x79 x80 x81 x82 x83 x84 x85 x86 x87 x88 x89 x90 x91 x92 x93 x94 x95 x96 x7 x8 x9 x10 x11 x12 x13 x14 x15 [] x16 x17 x18 x19 x20) fun y23 =>
 bif (ieq y23.q86 (0)) then
 (bif (steq y23.q82 x3) then
 (Option.bind (F31 FUEL x3 x4 x5 x6 y23.q82 y23.q83 y23.q84 y23.q85) fun y24 =>
 bif (!y24) then
 (Option.bind (F10 FUEL) fun y25 =>
 some y25)
 else (some false))
 else (some false))
 else (some false))
end Go.Proofs.YthjhcmkgadfpmaaGreat
