/-
  The layer Ev: typed pure values, named boxes, operations.
-/
import Derived.Test.YtcbhmedknbiffaaVsX
namespace Go.Proofs.Ytcbhmedknbiffaa
open Go Go.RowKit
inductive CT where
  | int (k : IntKind)
  | bool
  | str
  | sl (cs : List CT)
  deriving Inhabited
mutual
def Den : CT → Type
  | .int _ => Int
  | .bool => Bool
  | .str => ByteArray
  | .sl cs => List (DenL cs)
def DenL : List CT → Type
  | [] => Unit
  | [c] => Den c
  | c :: d :: cs => Den c × DenL (d :: cs)
end
mutual
def dfl : (c : CT) → Den c
  | .int _ => (0 : Int)
  | .bool => false
  | .str => ByteArray.empty
  | .sl _ => []
def dflL : (cs : List CT) → DenL cs
  | [] => ()
  | [c] => dfl c
  | c :: d :: cs => (dfl c, dflL (d :: cs))
end
def kdec : (a b : IntKind) → Decidable (a = b) := fun _a _b => inferInstance
mutual
def CT.dec : (a b : CT) → Decidable (a = b)
  | .int k, .int k' => match kdec k k' with
    | isTrue h => isTrue (by rw [h])
    | isFalse h => isFalse (fun e => h (by injection e))
  | .bool, .bool => isTrue rfl
  | .str, .str => isTrue rfl
  | .sl xs, .sl ys => match CT.decL xs ys with
    | isTrue h => isTrue (by rw [h])
    | isFalse h => isFalse (fun e => h (by injection e))
  | .int _, .bool => isFalse (fun e => by cases e)
  | .int _, .str => isFalse (fun e => by cases e)
  | .int _, .sl _ => isFalse (fun e => by cases e)
  | .bool, .int _ => isFalse (fun e => by cases e)
  | .bool, .str => isFalse (fun e => by cases e)
  | .bool, .sl _ => isFalse (fun e => by cases e)
  | .str, .int _ => isFalse (fun e => by cases e)
  | .str, .bool => isFalse (fun e => by cases e)
  | .str, .sl _ => isFalse (fun e => by cases e)
  | .sl _, .int _ => isFalse (fun e => by cases e)
  | .sl _, .bool => isFalse (fun e => by cases e)
  | .sl _, .str => isFalse (fun e => by cases e)
def CT.decL : (xs ys : List CT) → Decidable (xs = ys)
  | [], [] => isTrue rfl
  | [], _ :: _ => isFalse (fun e => by cases e)
  | _ :: _, [] => isFalse (fun e => by cases e)
  | a :: xs, b :: ys => match CT.dec a b, CT.decL xs ys with
    | isTrue h, isTrue h' => isTrue (by rw [h, h'])
    | isFalse h, _ => isFalse (fun e => h (by injection e))
    | _, isFalse h => isFalse (fun e => h (by injection e))
end
def castL {xs : List CT} (ys : List CT) (l : List (DenL xs)) : Option (List (DenL ys)) :=
  match CT.decL xs ys with
  | isTrue h => some (h ▸ l)
  | isFalse _ => none
inductive XV where
  | any
  | skip
  | nil
  | i (k : IntKind) (n : Int)
  | b (t : Bool)
  | s (x : ByteArray)
  | agg (xs : List XV)
  | tup (xs : List XV)
  | sl (fr : Bool) (cs : List CT) (l : List (DenL cs))
  | row (k : Nat)
  | rsub (k i n : Nat)
  | ref (k off : Nat)
  | aref (k off n i : Nat)
  | rp (k i off : Nat)
  | asl (k off sz n : Nat)
  | ep (xs : List XV)
  | aep (xs : List XV) (i w off : Nat)
  | clos (f : Nat) (caps : List XV)
  | yield (d : Nat)
  | opq (j : Nat)
  | mp (k : Nat)
  | ui (k : IntKind)
  | nr (n : Int)
  | np (n i : Int)
  deriving Inhabited
inductive XBox where
  | gone
  | cells (xs : List XV)
  | row (fr : Bool) (cs : List CT) (l : List (DenL cs))
  | mp (kd : IntKind) (es : List (Int × XV))
  | pv (cs : List CT) (ns : List Int)
  deriving Inhabited
structure XM where
  bx : List (Nat × XBox)
  nx : Nat
  ys : Option Code
structure Fr where
  n : Nat
  env : List (Nat × XV)
def lkX : List (Nat × XV) → Nat → XV
  | [], _ => .any
  | (k, v) :: r, j => bif Nat.beq k j then v else lkX r j
def lkB : List (Nat × XBox) → Nat → XBox
  | [], _ => .gone
  | (k, v) :: r, j => bif Nat.beq k j then v else lkB r j
def updB : List (Nat × XBox) → Nat → XBox → List (Nat × XBox)
  | [], k, b => [(k, b)]
  | (k', v) :: r, k, b => bif Nat.beq k' k then (k', b) :: r else (k', v) :: updB r k b
def XM.upd (m : XM) (k : Nat) (b : XBox) : XM := ⟨updB m.bx k b, m.nx, m.ys⟩
def XM.new (m : XM) (b : XBox) : XM := ⟨updB m.bx m.nx b, m.nx + 1, m.ys⟩
def cX1 : Value → XV
  | .int k n => .i k n
  | .bool t => .b t
  | .string x => .s x
  | .slice none 0 0 => .nil
  | _ => .any
def cX : Value → XV
  | .agg cs => .agg (cs.toList.map cX1)
  | .tuple cs => .tup (cs.toList.map cX1)
  | x => cX1 x
def globX : List (Nat × List Value) → Nat → XV
  | [], _ => .any
  | (g, cs) :: r, k => bif Nat.beq g k then .ep (cs.map cX1) else globX r k
def xev (T : Tab) (env : List (Nat × XV)) : Operand → XV
  | .tmp t => lkX env t
  | .const x => cX x
  | .func f => .clos f []
  | .global g => globX T.glob g
def iadd (k : IntKind) (a b : Int) : Int := k.wrap (a + b)
def isub (k : IntKind) (a b : Int) : Int := k.wrap (a - b)
def imul (k : IntKind) (a b : Int) : Int := k.wrap (a * b)
def iquo (k : IntKind) (a b : Int) : Int := k.wrap (a.tdiv b)
def irem (a b : Int) : Int := a.tmod b
def ineg (k : IntKind) (a : Int) : Int := k.wrap (0 - a)
def ishl (k : IntKind) (a b : Int) : Int := k.wrap (a * 2 ^ (min b.toNat k.bits))
def ishr (k : IntKind) (a b : Int) : Int := a.fdiv (2 ^ (min b.toNat k.bits))
def ieq (a b : Int) : Bool := a == b
def ine (a b : Int) : Bool := a != b
def ilt (a b : Int) : Bool := decide (a < b)
def ile (a b : Int) : Bool := decide (a ≤ b)
def igt (a b : Int) : Bool := decide (a > b)
def ige (a b : Int) : Bool := decide (a ≥ b)
def inz (a : Int) : Bool := decide (a ≠ 0)
def inn (a : Int) : Bool := decide (0 ≤ a)
def steq (x y : ByteArray) : Bool := x.toList == y.toList
def stne (x y : ByteArray) : Bool := !(x.toList == y.toList)
def stlt (x y : ByteArray) : Bool := Op.bytesLess x.toList y.toList
def stle (x y : ByteArray) : Bool := Op.bytesLess x.toList y.toList || x.toList == y.toList
def stgt (x y : ByteArray) : Bool := !(Op.bytesLess x.toList y.toList || x.toList == y.toList)
def stge (x y : ByteArray) : Bool := !(Op.bytesLess x.toList y.toList)
def beqb (a b : Bool) : Bool := a == b
def bneb (a b : Bool) : Bool := !(a == b)
def inb (i : Int) (n : Nat) : Bool := decide (0 ≤ i) && decide (i < n)
def inbs (l h n : Nat) : Bool := decide (l ≤ h) && decide (h ≤ n)
def room (n bytes : Nat) : Bool := decide (n * bytes ≤ 140737488355328) && decide (n ≤ 9223372036854775807)
def full (i n len : Nat) : Bool := decide (i + n = len)
def nlt (i n : Nat) : Bool := decide (i < n)
def stlen (x : ByteArray) : Int := x.size
def stat (x : ByteArray) (i : Int) : Int := (x.data.toList.getD i.toNat 0).toNat
def ofN (n : Nat) : Int := (n : Int)
def minI (a b : Int) : Int := if b < a then b else a
def maxI (a b : Int) : Int := if b > a then b else a
def XV.one : XV → Bool
  | .any => false
  | .skip => false
  | .agg _ => false
  | .tup _ => false
  | _ => true
def cellsX : XV → Option (List XV)
  | .agg xs => bif xs.all XV.one then some xs else none
  | x => bif x.one then some [x] else none
def ofCellsX (i : TI) (xs : List XV) : Option XV :=
  bif Nat.beq i.sz 0 then none else
  bif i.kind.isAgg then (bif Nat.ble i.sz xs.length then some (.agg (xs.take i.sz)) else none)
  else match xs with
    | [] => none
    | x :: _ => some x
mutual
def encX (fr : Bool) : (c : CT) → Den c → XV
  | .int k, n => .i k n
  | .bool, t => .b t
  | .str, x => .s x
  | .sl cs, l => .sl fr cs l
def encXL (fr : Bool) : (cs : List CT) → DenL cs → List XV
  | [], _ => []
  | [c], x => [encX fr c x]
  | c :: d :: cs, x => encX fr c x.1 :: encXL fr (d :: cs) x.2
end
def decX (m : List (Nat × XBox)) : (c : CT) → XV → Option (Den c × Bool × List (Nat × XBox))
  | .int k, .i k' n => match kdec k' k with
    | isTrue _ => some ((n : Int), true, m)
    | isFalse _ => none
  | .bool, .b t => some (t, true, m)
  | .str, .s x => some (x, true, m)
  | .sl _, .nil => some ([], true, m)
  | .sl cs, .sl fr _cs' l => match castL cs l with
    | some l' => some (l', fr, m)
    | none => none
  | .sl cs, .row k => match lkB m k with
    | .row fr _cs' l => match castL cs l with
      | some l' => some (l', fr, updB m k .gone)
      | none => none
    | _ => none
  | .sl cs, .rsub k i n => match lkB m k with
    | .row fr _cs' l => match castL cs l with
      | some l' => some ((l'.drop i).take n, fr, updB m k .gone)
      | none => none
    | _ => none
  | _, _ => none
def decXL : (cs : List CT) → List (Nat × XBox) → List XV → Option (DenL cs × Bool × List (Nat × XBox))
  | [], m, xs => match xs with
    | [] => some ((), true, m)
    | _ => none
  | [c], m, xs => match xs with
    | [x] => decX m c x
    | _ => none
  | c :: d :: cs, m, xs => match xs with
    | [] => none
    | x :: xs => match decX m c x with
      | some (a, fr, m') => match decXL (d :: cs) m' xs with
        | some (r, fr', m'') => some ((a, r), fr && fr', m'')
        | none => none
      | none => none
def ctFs (f : Nat → Option (List CT)) : List (Nat × Nat) → Option (List CT)
  | [] => some []
  | (_, t) :: r => match f t, ctFs f r with
    | some a, some b => some (a ++ b)
    | _, _ => none
def ctOf (T : Tab) : Nat → Nat → Option (List CT)
  | 0, _ => none
  | d + 1, t => match (T.at t).kind with
    | .int k => some [.int k]
    | .bool => some [.bool]
    | .str => some [.str]
    | .slice e => match ctOf T d e with
      | some cs => some [.sl cs]
      | none => none
    | .struct fs => ctFs (ctOf T d) fs
    | .arr n e => match ctOf T d e with
      | some cs => some (List.replicate n cs).flatten
      | none => none
    | _ => none
def ctElem (T : Tab) (e : Nat) : Option (List CT) :=
  match ctOf T 8 e with
  | some cs => bif Nat.beq cs.length (T.at e).sz then (match cs with | [] => none | _ => some cs) else none
  | none => none
def intsX (k : IntKind) : List XV → Option (List Int)
  | [] => some []
  | .i k' n :: r => match kdec k' k, intsX k r with
    | isTrue _, some l => some (n :: l)
    | _, _ => none
  | _ => none
def boolsX : List XV → Option (List Bool)
  | [] => some []
  | .b t :: r => match boolsX r with
    | some l => some (t :: l)
    | none => none
  | _ => none
def slsX (fr : Bool) (cs : List CT) : List XV → Option (List (List (DenL cs)))
  | [] => some []
  | .sl fr' _ l :: r => match castL cs l, slsX fr cs r with
    | some l, some ls => match fr, fr' with
      | true, true => some (l :: ls)
      | false, false => some (l :: ls)
      | _, _ => none
    | _, _ => none
  | _ => none
def selX (xs : List XV) (i : Nat) : Option XV :=
  match xs with
  | .i k n :: r => match intsX k (.i k n :: r) with
    | some l => some (.i k (l.getD i 0))
    | none => none
  | .b t :: r => match boolsX (.b t :: r) with
    | some l => some (.b (l.getD i false))
    | none => none
  | .sl fr cs l :: r => match slsX fr cs (.sl fr cs l :: r) with
    | some ls => some (.sl fr cs (ls.getD i []))
    | none => none
  | _ => none
def strideX (w off : Nat) : Nat → List XV → List XV
  | 0, _ => []
  | d + 1, xs => match xs.drop off with
    | [] => []
    | x :: _ => x :: strideX w off d (xs.drop w)
def colsX (xs : List XV) (i w : Nat) : Nat → Nat → Option (Bool × List XV)
  | 0, _ => some (true, [])
  | s + 1, off => match selX (strideX w off (xs.length + 1) xs) i, colsX xs i w s (off + 1) with
    | some v, some (b, r) => some (nlt i (strideX w off (xs.length + 1) xs).length && b, v :: r)
    | _, _ => none
def spliceX (xs : List XV) (off : Nat) (ys : List XV) : List XV := xs.take off ++ ys ++ xs.drop (off + ys.length)
def flatCT : CT → Bool
  | .sl _ => false
  | _ => true
def elemsX (m : List (Nat × XBox)) (cs : List CT) : XV → Option (Bool × Bool × List (DenL cs))
  | .nil => some (true, true, [])
  | .sl fr _ l => match castL cs l with
    | some l => some (true, fr || cs.all flatCT, l)
    | none => none
  | .row k => match lkB m k with
    | .row fr _ l => match castL cs l with
      | some l => some (true, fr || cs.all flatCT, l)
      | none => none
    | _ => none
  | .rsub k i n => match lkB m k with
    | .row fr _ l => match castL cs l with
      | some l => some (true, fr || cs.all flatCT, (l.drop i).take n)
      | none => none
    | _ => none
  | _ => none
def srcX (m : List (Nat × XBox)) : (cs : List CT) → XV → Option (Bool × Bool × List (DenL cs))
  | [.int k], .asl j off sz n => match lkB m j with
    | .cells xs => bif Nat.beq sz 1 && Nat.ble (off + n) xs.length then (match intsX k ((xs.drop off).take n) with
      | some l => some (true, true, l)
      | none => none) else none
    | _ => none
  | cs, y => elemsX m cs y
def intBinX (op : BinOp) (k : IntKind) (a b : Int) : Option (Bool × XV) :=
  match op with
  | .add => some (true, .i k (iadd k a b))
  | .sub => some (true, .i k (isub k a b))
  | .mul => some (true, .i k (imul k a b))
  | .quo => some (inz b, .i k (iquo k a b))
  | .rem => some (inz b, .i k (irem a b))
  | .eql => some (true, .b (ieq a b))
  | .neq => some (true, .b (ine a b))
  | .lss => some (true, .b (ilt a b))
  | .leq => some (true, .b (ile a b))
  | .gtr => some (true, .b (igt a b))
  | .geq => some (true, .b (ige a b))
  | .and => some (true, .i k (bits .and k a b))
  | .or => some (true, .i k (bits .or k a b))
  | .xor => some (true, .i k (bits .xor k a b))
  | .andNot => some (true, .i k (bits .andNot k a b))
  | _ => none
def strBinX (op : BinOp) (x y : ByteArray) : Option XV :=
  match op with
  | .eql => some (.b (steq x y))
  | .neq => some (.b (stne x y))
  | .lss => some (.b (stlt x y))
  | .leq => some (.b (stle x y))
  | .gtr => some (.b (stgt x y))
  | .geq => some (.b (stge x y))
  | _ => none
def ceqX (l : Nat) : XV → XV → Option Bool
  | .i k a, .i k' b => bif Nat.beq l 0 then (match kdec k k' with | isTrue _ => some (ieq a b) | isFalse _ => none) else none
  | .b a, .b b => bif Nat.beq l 1 then some (beqb a b) else none
  | .s a, .s b => bif Nat.beq l 2 then some (steq a b) else none
  | _, _ => none
def ceqsX : List Nat → List XV → List XV → Option Bool
  | [], [], [] => some true
  | l :: ls, x :: xs, y :: ys => match ceqX l x y, ceqsX ls xs ys with
    | some a, some b => some (a && b)
    | _, _ => none
  | _, _, _ => none
def binX (T : Tab) (op : BinOp) (t : Nat) (x y : XV) : Option (Bool × XV) :=
  match x, y with
  | .i k a, .i k' b =>
    match op with
    | .shl => some (inn b, .i k (ishl k a b))
    | .shr => some (inn b, .i k (ishr k a b))
    | op => match kdec k k' with
      | isTrue _ => intBinX op k a b
      | isFalse _ => none
  | .s a, .s b => match strBinX op a b with
    | some v => some (true, v)
    | none => none
  | .b a, .b b => match (T.at t).kind, op with
    | .bool, .eql => some (true, .b (beqb a b))
    | .bool, .neq => some (true, .b (bneb a b))
    | _, _ => none
  | .ui k, .i k' _ => match op, kdec k k' with
    | .add, isTrue _ => some (true, .ui k)
    | _, _ => none
  | .agg xs, .agg ys => match flatK T 20 t with
    | none => none
    | some ks => match op, ceqsX ks xs ys with
      | .eql, some b => bif (T.at t).kind.isAgg then some (true, .b b) else none
      | .neq, some b => bif (T.at t).kind.isAgg then some (true, .b !b) else none
      | _, _ => none
  | _, _ => none
def unX (op : UnOp) (x : XV) : Option XV :=
  match op, x with
  | .not, .b t => some (.b !t)
  | .neg, .i k n => some (.i k (ineg k n))
  | _, _ => none
def pickX (t : Bool) (x y : XV) : XV :=
  match x, y with
  | .b a, .b b => .b (bif t then a else b)
  | x, y => bif t then x else y
def fillX (place : Nat → Option (Nat × Nat)) (cells : List XV) : List (Nat × XV) → Option (List XV)
  | [] => some cells
  | (i, x) :: r => match place i, cellsX x with
    | some (off, sz), some ys => bif Nat.beq ys.length sz && Nat.ble (off + sz) cells.length then fillX place (spliceX cells off ys) r else none
    | _, _ => none
def evsX (ρ : Operand → XV) (ps : List (Nat × Operand)) : List (Nat × XV) := ps.map fun x => (x.1, ρ x.2)
def rowsX (cs : List CT) (sz : Nat) : Nat → List (Nat × XBox) → List XV → Option (List (DenL cs) × Bool × List (Nat × XBox))
  | 0, m, _ => some ([], true, m)
  | n + 1, m, xs => match decXL cs m (xs.take sz) with
    | some (a, fr, m') => match rowsX cs sz n m' (xs.drop sz) with
      | some (r, fr', m'') => some (a :: r, fr && fr', m'')
      | none => none
    | none => none
def pv1 : List CT → List XV → Option (List Int)
  | [], xs => match xs with
    | [] => some []
    | _ => none
  | c :: cs, xs => match xs with
    | [] => none
    | x :: xs => match pv1 cs xs with
      | none => none
      | some l => match c, x with
        | .int k, .i k' _ => (match kdec k' k with
          | isTrue _ => some l
          | isFalse _ => none)
        | .int k, .ui k' => (match kdec k' k with
          | isTrue _ => some l
          | isFalse _ => none)
        | .bool, .b _ => some l
        | .str, .s _ => some l
        | .sl cs', .nr n => (match CT.decL cs' [.int .i64] with
          | isTrue _ => some (n :: l)
          | isFalse _ => none)
        | _, _ => none
def intK (k : IntKind) : XV → Bool
  | .i k' _ => (match kdec k' k with
    | isTrue _ => true
    | isFalse _ => false)
  | .ui k' => (match kdec k' k with
    | isTrue _ => true
    | isFalse _ => false)
  | _ => false
def boundX (ρ : Operand → XV) (d : Nat) : Option Operand → Option (Bool × Nat)
  | none => some (true, d)
  | some o => match ρ o with
    | .i _ i => some (inn i, i.toNat)
    | _ => none
def sliceX (T : Tab) (ρ : Operand → XV) (m : List (Nat × XBox)) (t : Nat) (x : XV) (lo hi : Option Operand) : Option (Bool × XV) :=
  match (T.at t).kind with
  | .slice e => match ctElem T e with
    | some cs => match x with
      | .row k => match lkB m k with
        | .row _ cs' l => match boundX ρ 0 lo, boundX ρ l.length hi with
          | some (p, a), some (q, h) => match CT.decL cs' cs with
            | isTrue _ => some (p && q && inbs a h l.length, .rsub k a (h - a))
            | isFalse _ => none
          | _, _ => none
        | _ => none
      | .rsub k i n => match lkB m k with
        | .row _ cs' _ => match boundX ρ 0 lo, boundX ρ n hi with
          | some (p, a), some (q, h) => match CT.decL cs' cs with
            | isTrue _ => some (p && q && inbs a h n, .rsub k (i + a) (h - a))
            | isFalse _ => none
          | _, _ => none
        | _ => none
      | .sl fr _cs' l => match castL cs l with
        | some l => match boundX ρ 0 lo, boundX ρ l.length hi with
          | some (p, a), some (q, h) => some (p && q && inbs a h l.length, .sl fr cs ((l.take h).drop a))
          | _, _ => none
        | none => none
      | .nil => match boundX ρ 0 lo, boundX ρ 0 hi with
        | some (p, a), some (q, h) => some (p && q && inbs a h 0, .sl true cs [])
        | _, _ => none
      | _ => none
    | none => none
  | .arr n e => match x with
    | .ref k off => match boundX ρ 0 lo, boundX ρ n hi with
      | some (p, a), some (q, h) => bif Nat.ble n 9223372036854775807 then some (p && q && inbs a h n, .asl k (off + a * (T.at e).sz) (T.at e).sz (h - a)) else none
      | _, _ => none
    | _ => none
  | .str => match x with
    | .s b => match boundX ρ 0 lo, boundX ρ b.size hi with
      | some (p, l), some (q, h) => some (p && q && inbs l h b.size, .s (b.extract l h))
      | _, _ => none
    | _ => none
  | _ => none
def appendP (m : XM) (cs : List CT) (by8 : Nat) (x y : XV) : Option (Bool × XV × XM) :=
  match y with
  | .row j => match lkB m.bx j with
    | .pv cs2 ns2 => (match CT.decL cs2 cs with
      | isTrue _ => (match x with
        | .nil => some (room ns2.length by8, .row m.nx, m.new (.pv cs ns2))
        | .row k => (match lkB m.bx k with
          | .pv cs1 ns1 => (match CT.decL cs1 cs with
            | isTrue _ => some (room (ns1.length + ns2.length) by8, .row m.nx, (m.upd k .gone).new (.pv cs (ns1 ++ ns2)))
            | isFalse _ => none)
          | _ => none)
        | _ => none)
      | isFalse _ => none)
    | _ => none
  | _ => none
def appendX (T : Tab) (m : XM) (e : Nat) (x y : XV) : Option (Bool × XV × XM) :=
  match ctElem T e with
  | none => none
  | some cs => match srcX m.bx cs y with
    | none => appendP m cs (T.at e).bytes x y
    | some (sy, fy, ly) => match x with
      | .nil => some (sy && room ly.length (T.at e).bytes, .row m.nx, m.new (.row fy cs ly))
      | .row k => match lkB m.bx k with
        | .row fx _ l => match castL cs l with
          | some l => some (sy && room (l.length + ly.length) (T.at e).bytes, .row m.nx, (m.upd k .gone).new (.row (fx && fy) cs (l ++ ly)))
          | none => none
        | _ => none
      | .rsub k i n => match lkB m.bx k with
        | .row fx _ l => match castL cs l with
          | some l => some (sy && (full i n l.length && room (n + ly.length) (T.at e).bytes), .row m.nx, (m.upd k .gone).new (.row (fx && fy) cs (l.drop i ++ ly)))
          | none => none
        | _ => none
      | _ => none
def indexAddrX (T : Tab) (m : List (Nat × XBox)) (t : Nat) (x : XV) (i : Int) : Option (Bool × XV) :=
  match (T.at t).kind with
  | .arr n e => match x with
    | .ref k off => bif Nat.beq (T.at e).sz 1 then some (inb i n, .aref k off n i.toNat) else some (inb i n, .ref k (off + i.toNat * (T.at e).sz))
    | .ep cs => some (inb i n, .aep cs i.toNat (T.at e).sz 0)
    | _ => none
  | .slice e => match ctElem T e with
    | none => (match x with
      | .asl k off sz n => bif Nat.beq sz (T.at e).sz then some (inb i n, .ref k (off + i.toNat * sz)) else none
      | _ => none)
    | some cs => match x with
      | .nr n => match CT.decL [.int .i64] cs with
        | isTrue _ => some (inb i n.toNat, .np n i)
        | isFalse _ => none
      | .row k => match lkB m k with
        | .row _ cs' l => match CT.decL cs' cs with
          | isTrue _ => some (inb i l.length, .rp k i.toNat 0)
          | isFalse _ => none
        | .pv cs' ns => match CT.decL cs' cs with
          | isTrue _ => some (inb i ns.length, .rp k i.toNat 0)
          | isFalse _ => none
        | _ => none
      | .rsub k j n => match lkB m k with
        | .row _ cs' _l => match CT.decL cs' cs with
          | isTrue _ => some (inb i n, .rp k (j + i.toNat) 0)
          | isFalse _ => none
        | _ => none
      | .sl fr _cs' l => match castL cs l with
        | some l => some (inb i l.length, .ep (encXL fr cs (l.getD i.toNat (dflL cs))))
        | none => none
      | .nil => some (false, .any)
      | _ => none
  | _ => none
def loadX (T : Tab) (m : List (Nat × XBox)) (t : Nat) (a : XV) : Option (Bool × XV) :=
  match a with
  | .ref k off => match lkB m k with
    | .cells xs => match ofCellsX (T.at t) (xs.drop off) with
      | some v => some (true, v)
      | none => none
    | _ => none
  | .aref k off n i => match lkB m k with
    | .cells xs => bif Nat.beq (T.at t).sz 1 && !(T.at t).kind.isAgg && Nat.ble (off + n) xs.length then (match selX ((xs.drop off).take n) i with
      | some v => some (nlt i n, v)
      | none => none) else none
    | _ => none
  | .rp k i off => match lkB m k with
    | .row fr cs l => match ofCellsX (T.at t) ((encXL fr cs (l.getD i (dflL cs))).drop off) with
      | some v => some (nlt i l.length, v)
      | none => none
    | .pv cs ns => bif Nat.beq (T.at t).sz 0 || (T.at t).kind.isAgg then none else (match cs[off]? with
      | some (.int kd) => some (nlt i ns.length, .ui kd)
      | some (.sl _) => some (nlt i ns.length, .nr (ns.getD i 0))
      | _ => none)
    | _ => none
  | .np _ _ => bif Nat.beq (T.at t).sz 0 || (T.at t).kind.isAgg then none else some (true, .ui .i64)
  | .ep xs => match ofCellsX (T.at t) xs with
    | some v => some (true, v)
    | none => none
  | .aep xs i w off => bif Nat.beq (T.at t).sz 1 && !(T.at t).kind.isAgg then (match selX (strideX w off (xs.length + 1) xs) i with
    | some v => some (nlt i (strideX w off (xs.length + 1) xs).length, v)
    | none => none) else (match colsX xs i w (T.at t).sz off with
    | some (b, vs) => match ofCellsX (T.at t) vs with
      | some v => some (b, v)
      | none => none
    | none => none)
  | _ => none
def setInts (k : IntKind) (l : List Int) (i : Nat) (n : Int) : List XV := (List.range l.length).map fun j => .i k ((l.set i n).getD j 0)
def storeX (T : Tab) (m : XM) (t : Nat) (a x : XV) : Option (Bool × XM) :=
  match cellsX x with
  | none => none
  | some ys => bif Nat.beq ys.length (T.at t).sz && !Nat.beq (T.at t).sz 0 then (match a with
    | .ref k off => match lkB m.bx k with
      | .cells xs => bif Nat.ble (off + ys.length) xs.length then some (true, m.upd k (.cells (spliceX xs off ys))) else none
      | _ => none
    | .aref k off n i => match lkB m.bx k, ys with
      | .cells xs, [.i kd v] => bif Nat.ble (off + n) xs.length then (match intsX kd ((xs.drop off).take n) with
        | some l => some (nlt i n, m.upd k (.cells (spliceX xs off (setInts kd l i v))))
        | none => none) else none
      | _, _ => none
    | .rp k i off => match lkB m.bx k with
      | .row fr cs l => bif Nat.ble (off + ys.length) cs.length then (match decXL cs m.bx (spliceX (encXL fr cs (l.getD i (dflL cs))) off ys) with
        | some (v, fr', bx) => (match lkB bx k with
          | .row _ _ _ => some (nlt i l.length, (XM.mk bx m.nx m.ys).upd k (.row (fr && fr') cs (l.set i v)))
          | _ => none)
        | none => none) else none
      | .pv cs ns => (match cs[off]?, ys with
        | some (.int kd), [y] => bif intK kd y then some (nlt i ns.length, m.upd k (.pv cs ns)) else none
        | _, _ => none)
      | _ => none
    | .np _ _ => (match ys with
      | [y] => bif intK .i64 y then some (true, m) else none
      | _ => none)
    | _ => none) else none
def lenX (T : Tab) (m : List (Nat × XBox)) (t : Nat) (x : XV) : Option Int :=
  match (T.at t).kind with
  | .slice _ => match x with
    | .nil => some 0
    | .sl _ _ l => some (ofN l.length)
    | .nr n => some n
    | .row k => match lkB m k with
      | .row _ _ l => some (ofN l.length)
      | .pv _ ns => some (ofN ns.length)
      | _ => none
    | .rsub k _ n => match lkB m k with
      | .row _ _ _ => some (ofN n)
      | _ => none
    | .asl _ _ _ n => some (ofN n)
    | _ => none
  | .str => match x with
    | .s b => some (stlen b)
    | _ => none
  | .arr n _ => some (ofN n)
  | _ => none
def hasE : List (Int × XV) → Int → Bool
  | [], _ => false
  | (k, _) :: r, n => ieq n k || hasE r n
def isApp : Op → Bool
  | .call c => match c.callee with
    | .builtin .append => true
    | _ => false
  | _ => false
def px (m : XM) : Option (Bool × XV) → Option (Bool × XV × XM)
  | some (b, v) => some (b, v, m)
  | none => none
def py (m : XM) : Option XV → Option (Bool × XV × XM)
  | some v => some (true, v, m)
  | none => none
def xop (T : Tab) (ρ : Operand → XV) (m : XM) : Op → Option (Bool × XV × XM)
  | .move x => some (true, ρ x, m)
  | .assign x => some (true, ρ x, m)
  | .pick c a b => match ρ c with
    | .b t => some (true, pickX t (ρ a) (ρ b), m)
    | _ => none
  | .box _ x => match cellsX (ρ x) with
    | some xs => some (true, .ref m.nx 0, m.new (.cells xs))
    | none => none
  | .alloc e => bif Nat.beq (T.at e).sz 0 then none else some (true, .ref m.nx 0, m.new (.cells ((T.at e).zero.map cX1)))
  | .build t ps => bif (T.at t).kind.isAgg then (match fillX (placeOf T t) ((T.at t).zero.map cX1) (evsX ρ ps.toList) with
    | some xs => some (true, .agg xs, m)
    | none => none) else none
  | .buildSlice t len ps => match (T.at t).kind with
    | .slice e => match ctElem T e with
      | none => bif (T.at e).kind.isFunc && Nat.ble (len * (T.at e).sz) 16777216 then (match fillX (placeOf T t) ((List.replicate len (T.at e).zero).flatten.map cX1) (evsX ρ ps.toList) with
        | some xs => some (true, .asl m.nx 0 (T.at e).sz len, m.new (.cells xs))
        | none => none) else none
      | some cs => bif Nat.ble (len * (T.at e).sz) 16777216 then (match fillX (placeOf T t) ((List.replicate len (T.at e).zero).flatten.map cX1) (evsX ρ ps.toList) with
        | none => none
        | some xs => bif Nat.beq xs.length (len * (T.at e).sz) then (match rowsX cs (T.at e).sz len m.bx xs with
          | some (l, fr, bx) => some (true, .row m.nx, (XM.mk bx m.nx m.ys).new (.row fr cs l))
          | none => (match len, pv1 cs xs with
            | 1, some [n] => some (true, .row m.nx, m.new (.pv cs [n]))
            | _, _ => none)) else none) else none
    | _ => none
  | .makeMap t r => match r, (T.at t).kind with
    | none, .map kt _ => (match (T.at kt).kind with
      | .int kd => some (true, .mp m.nx, m.new (.mp kd []))
      | _ => none)
    | _, _ => none
  | .insert t a k x => match ρ a, ρ k, (T.at t).kind with
    | .mp b, .i kd n, .map kt _ => (match (T.at kt).kind, lkB m.bx b with
      | .int kd1, .mp kd2 es => (match kdec kd1 kd, kdec kd2 kd with
        | isTrue _, isTrue _ => bif hasE es n then none else some (true, .any, m.upd b (.mp kd (es ++ [(n, ρ x)])))
        | _, _ => none)
      | _, _ => none)
    | _, _, _ => none
  | .load t a => px m (loadX T m.bx t (ρ a))
  | .store t a x => match storeX T m t (ρ a) (ρ x) with
    | some (b, m') => some (b, .any, m')
    | none => none
  | .nilCheck x => match ρ x with
    | .ref k off => some (true, .ref k off, m)
    | .rp k i off => some (true, .rp k i off, m)
    | .ep xs => some (true, .ep xs, m)
    | .clos f cs => some (true, .clos f cs, m)
    | _ => none
  | .binOp op t x y _ => px m (binX T op t (ρ x) (ρ y))
  | .unOp op _ x => py m (unX op (ρ x))
  | .convert src dst x => match (T.at src).kind, (T.at dst).kind, ρ x with
    | .int _, .int k, .i _ a => some (true, .i k (k.wrap a), m)
    | _, _, _ => none
  | .makeFunc fn first cap => match fn with
    | .func f => bif first.isEmpty then some (true, .clos f (cap.toList.map ρ), m) else none
    | _ => none
  | .makeSlice t l c => match (T.at t).kind, ρ l, ρ c with
    | .slice e, .i .i64 a, .i .i64 b => match ctElem T e with
      | none => none
      | some cs => match decXL cs m.bx ((T.at e).zero.map cX1) with
        | some (z, fr, bx) => some (inn a && ile a b && decide (b * (T.at e).bytes ≤ 281474976710656) && decide (b ≤ 9223372036854775807), .row m.nx, (XM.mk bx m.nx m.ys).new (.row fr cs (List.replicate a.toNat z)))
        | none => none
    | _, _, _ => none
  | .slice t x lo hi mx => match mx with
    | some _ => none
    | none => px m (sliceX T ρ m.bx t (ρ x) lo hi)
  | .fieldAddr t x f => match (T.at t).kind with
    | .struct fs => match fs[f]?, ρ x with
      | some (o, _), .ref k off => some (true, .ref k (off + o), m)
      | some (o, _), .rp k i off => some (true, .rp k i (off + o), m)
      | some (o, _), .ep cs => some (true, .ep (cs.drop o), m)
      | some (o, _), .aep cs i w off => some (true, .aep cs i w (off + o), m)
      | _, _ => none
    | _ => none
  | .field t x f => match (T.at t).kind, ρ x with
    | .struct fs, .agg xs => match fs[f]? with
      | some (o, ft) => py m (ofCellsX (T.at ft) (xs.drop o))
      | none => none
    | _, _ => none
  | .indexAddr t x ix => match ρ ix with
    | .i _ i => px m (indexAddrX T m.bx t (ρ x) i)
    | _ => none
  | .index t x ix => match ρ ix, (T.at t).kind, ρ x with
    | .i _ i, .arr n e, .agg xs => bif Nat.beq (T.at e).sz 1 && !(T.at e).kind.isAgg && Nat.ble n xs.length then (match selX (xs.take n) i.toNat with
      | some v => some (inb i n, v, m)
      | none => none) else none
    | .i _ i, .str, .s b => some (inb i b.size, .i .u8 (stat b i), m)
    | _, _, _ => none
  | .extract x i => match ρ x with
    | .tup vs => py m (vs[i]?)
    | _ => none
  | .call c => match c.callee with
    | .builtin .len => match c.argTypes.toList, c.args.toList with
      | [t], [x] => match lenX T m.bx t (ρ x) with
        | some n => some (true, .i .i64 n, m)
        | none => none
      | _, _ => none
    | .builtin .append => match c.argTypes.toList, c.args.toList with
      | [t, t'], [x, y] => bif Nat.beq t t' then (match (T.at t).kind with
          | .slice e => appendX T m e (ρ x) (ρ y)
          | _ => none) else none
      | _, _ => none
    | .builtin .clear => match c.argTypes.toList, c.args.toList with
      | [t], [x] => (match (T.at t).kind, ρ x with
        | .slice e, .rsub k i n => (match lkB m.bx k with
          | .row fr cs l => bif Nat.beq cs.length (T.at e).sz then (match decXL cs m.bx ((T.at e).zero.map cX1) with
            | some (z, frz, bx) => (match lkB bx k with
              | .row _ _ _ => some (nlt 0 n, .any, (XM.mk bx m.nx m.ys).upd k (.row (fr && frz) cs (l.take i ++ List.replicate n z ++ l.drop (i + n))))
              | _ => none)
            | none => none) else none
          | _ => none)
        | _, _ => none)
      | _, _ => none
    | .builtin .min => match c.args.toList with
      | [x, y] => match ρ x, ρ y with
        | .i .i64 a, .i .i64 b => some (true, .i .i64 (minI a b), m)
        | _, _ => none
      | _ => none
    | .builtin .max => match c.args.toList with
      | [x, y] => match ρ x, ρ y with
        | .i .i64 a, .i .i64 b => some (true, .i .i64 (maxI a b), m)
        | _, _ => none
      | _ => none
    | _ => none
  | _ => none
end Go.Proofs.Ytcbhmedknbiffaa
