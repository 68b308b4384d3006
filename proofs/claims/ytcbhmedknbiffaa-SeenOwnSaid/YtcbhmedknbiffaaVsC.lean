/-
  The pure semantics of the layer VS: states, operands, operations, code.
-/
import Derived.Test.YtcbhmedknbiffaaVsB
namespace Go.Proofs.Ytcbhmedknbiffaa
open Go Go.RowKit
structure St where
  n : Nat
  env : List (Nat × PV)
  m : Mem
def lk : List (Nat × PV) → Nat → PV
  | [], _ => .any
  | (k, v) :: r, j => bif k == j then v else lk r j
def St.put (s : St) (d : Option Nat) (v : PV) (m : Mem) : St :=
  match d with
  | none => ⟨s.n, s.env, m⟩
  | some d => ⟨s.n, (d, v) :: s.env, m⟩
def dstOK (n : Nat) : Option Nat → Bool
  | none => true
  | some d => decide (d < n)
def keepEnv (env : List (Nat × PV)) : List Nat → List (Nat × PV)
  | [] => []
  | k :: ks => (k, lk env k) :: keepEnv env ks
def cv : Value → PV
  | .agg cs => .agg (cs.toList.map .v)
  | .tuple cs => .tup (cs.toList.map .v)
  | x => .v x
def globOf : List (Nat × List Value) → Nat → PV
  | [], _ => .any
  | (g, cs) :: r, k => bif g == k then .ep false (cs.map .v) else globOf r k
def peval (T : Tab) (env : List (Nat × PV)) : Operand → PV
  | .tmp t => lk env t
  | .const x => cv x
  | .func f => .clos f []
  | .global g => globOf T.glob g
def Tab.at (T : Tab) (t : Nat) : TI := T.ty.getD t default
def TK.isAgg : TK → Bool
  | .arr _ _ => true
  | .struct _ => true
  | _ => false
def TK.isFunc : TK → Bool
  | .func => true
  | _ => false
def lookE {α : Type} : List (Int × α) → Int → Option α
  | [], _ => none
  | (k, x) :: r, n => if n = k then some x else lookE r n
def PV.one : PV → Bool
  | .any => false
  | .agg _ => false
  | .tup _ => false
  | .v x => x.oneCell'
  | _ => true
def cellsOf : PV → Option (List PV)
  | .agg xs => if xs.all PV.one then some xs else none
  | x => if x.one then some [x] else none
def ofCells (i : TI) (xs : List PV) : Option PV :=
  if i.sz = 0 then none else
  if i.kind.isAgg then (if i.sz ≤ xs.length then some (.agg (xs.take i.sz)) else none)
  else match xs with
    | [] => none
    | x :: _ => some x
def cellsAt (bx : Nat → Box) : PV → Option (List PV)
  | .ref k off => match bx k with
    | .cells xs => some (xs.drop off)
    | _ => none
  | .rp k sz i off => match bx k with
    | .row sz' es => if sz' = sz then (es[i]?).map (·.drop off) else none
    | _ => none
  | .ep _ cs => some cs
  | _ => none
def splice (xs : List PV) (off : Nat) (ys : List PV) : List PV := xs.take off ++ ys ++ xs.drop (off + ys.length)
def storeTo (bx : Nat → Box) (a : PV) (ys : List PV) : Option (Nat × Box) :=
  match a with
  | .ref k off => match bx k with
    | .cells xs => if off + ys.length ≤ xs.length then some (k, .cells (splice xs off ys)) else none
    | _ => none
  | .rp k sz i off => match bx k with
    | .row sz' es => match es[i]? with
      | some e => if sz' = sz ∧ off + ys.length ≤ e.length then some (k, .row sz (es.set i (splice e off ys))) else none
      | none => none
    | _ => none
  | _ => none
def elems (bx : Nat → Box) : PV → Option (List (List PV))
  | .sl _ es => some es
  | .v (.slice none 0 0) => some []
  | .row k sz i n => match bx k with
    | .row sz' es => if sz' = sz ∧ i + n ≤ es.length then some ((es.drop i).take n) else none
    | _ => none
  | _ => none
def slen : PV → Option Nat
  | .sl _ es => some es.length
  | .v (.slice none 0 0) => some 0
  | .row _ _ _ n => some n
  | .asl _ _ _ n => some n
  | _ => none
def intBin (op : BinOp) (k : IntKind) (a b : Int) : Option (Prop × PV) :=
  match op with
  | .add => some (True, .v (.int k (k.wrap (a + b))))
  | .sub => some (True, .v (.int k (k.wrap (a - b))))
  | .mul => some (True, .v (.int k (k.wrap (a * b))))
  | .quo => some (b ≠ 0, .v (.int k (k.wrap (a.tdiv b))))
  | .rem => some (b ≠ 0, .v (.int k (a.tmod b)))
  | .eql => some (True, .v (.bool (a == b)))
  | .neq => some (True, .v (.bool (a != b)))
  | .lss => some (True, .v (.bool (a < b)))
  | .leq => some (True, .v (.bool (a ≤ b)))
  | .gtr => some (True, .v (.bool (a > b)))
  | .geq => some (True, .v (.bool (a ≥ b)))
  | .and => some (True, .v (.int k (bits .and k a b)))
  | .or => some (True, .v (.int k (bits .or k a b)))
  | .xor => some (True, .v (.int k (bits .xor k a b)))
  | .andNot => some (True, .v (.int k (bits .andNot k a b)))
  | _ => none
def strBin (op : BinOp) (x y : ByteArray) : Option PV :=
  match op with
  | .eql => some (.v (.bool (x.toList == y.toList)))
  | .neq => some (.v (.bool (!(x.toList == y.toList))))
  | .lss => some (.v (.bool (Op.bytesLess x.toList y.toList)))
  | .leq => some (.v (.bool (Op.bytesLess x.toList y.toList || x.toList == y.toList)))
  | .gtr => some (.v (.bool (!(Op.bytesLess x.toList y.toList || x.toList == y.toList))))
  | .geq => some (.v (.bool (!(Op.bytesLess x.toList y.toList))))
  | _ => none
def ceq (l : Nat) : PV → PV → Option Bool
  | .v (.int k a), .v (.int k' b) => if l = 0 ∧ k = k' then some (a == b) else none
  | .v (.bool a), .v (.bool b) => if l = 1 then some (a == b) else none
  | .v (.string a), .v (.string b) => if l = 2 then some (a.toList == b.toList) else none
  | _, _ => none
def ceqs : List Nat → List PV → List PV → Option Bool
  | [], [], [] => some true
  | l :: ls, x :: xs, y :: ys => match ceq l x y, ceqs ls xs ys with
    | some a, some b => some (a && b)
    | _, _ => none
  | _, _, _ => none
def binV (op : BinOp) (x y : PV) : Option (Prop × PV) :=
  match x, y with
  | .v (.int k a), .v (.int k' b) =>
    match op with
    | .shl => some (0 ≤ b, .v (.int k (k.wrap (a * 2 ^ (min b.toNat k.bits)))))
    | .shr => some (0 ≤ b, .v (.int k (a.fdiv (2 ^ (min b.toNat k.bits)))))
    | op => if k = k' then intBin op k a b else none
  | .v (.string a), .v (.string b) => (strBin op a b).map fun v => (True, v)
  | .v (.bool a), .v (.bool b) => match op with
    | .eql => some (True, .v (.bool (a == b)))
    | .neq => some (True, .v (.bool (!(a == b))))
    | _ => none
  | _, _ => none
def flatFs (T : Tab) (f : Nat → Option (List Nat)) : Nat → List (Nat × Nat) → Option (Nat × List Nat)
  | off, [] => some (off, [])
  | off, (o, t) :: r => match f t, flatFs T f (off + (T.at t).sz) r with
    | some l, some (e, ls) => if o = off then some (e, l ++ ls) else none
    | _, _ => none
def flatK (T : Tab) : Nat → Nat → Option (List Nat)
  | 0, _ => none
  | d + 1, t => match (T.at t).kind with
    | .int _ => if (T.at t).sz = 1 then some [0] else none
    | .bool => if (T.at t).sz = 1 then some [1] else none
    | .str => if (T.at t).sz = 1 then some [2] else none
    | .arr n e => match flatK T d e with
      | some l => if n * (T.at e).sz = (T.at t).sz ∧ (T.at t).sz ≠ 0 then some (List.replicate n l).flatten else none
      | none => none
    | .struct fs => match flatFs T (flatK T d) 0 fs with
      | some (e, l) => if e = (T.at t).sz ∧ (T.at t).sz ≠ 0 then some l else none
      | none => none
    | _ => none
def aggEq (T : Tab) (op : BinOp) (t : Nat) (xs ys : List PV) : Option (Prop × PV) :=
  match flatK T 20 t with
  | none => none
  | some ks => match op, ceqs ks xs ys with
    | .eql, some b => some ((T.at t).kind.isAgg = true, .v (.bool b))
    | .neq, some b => some ((T.at t).kind.isAgg = true, .v (.bool !b))
    | _, _ => none
def unV (op : UnOp) (x : PV) : Option PV :=
  match op, x with
  | .not, .v (.bool b) => some (.v (.bool !b))
  | .neg, .v (.int k n) => some (.v (.int k (k.wrap (0 - n))))
  | _, _ => none
def fillV (place : Nat → Option (Nat × Nat)) (cells : List PV) : List (Nat × PV) → Option (List PV)
  | [] => some cells
  | (i, x) :: r => match place i, cellsOf x with
    | some (off, sz), some ys => if ys.length = sz ∧ off + sz ≤ cells.length then fillV place (splice cells off ys) r else none
    | _, _ => none
def placeOf (T : Tab) (t : Nat) (i : Nat) : Option (Nat × Nat) :=
  match (T.at t).kind with
  | .struct fs => (fs[i]?).map fun f => (f.1, (T.at f.2).sz)
  | .arr _ e => some (i * (T.at e).sz, (T.at e).sz)
  | .slice e => some (i * (T.at e).sz, (T.at e).sz)
  | _ => none
def chunk (sz : Nat) : Nat → List PV → List (List PV)
  | 0, _ => []
  | n + 1, xs => xs.take sz :: chunk sz n (xs.drop sz)
def evs (ρ : Operand → PV) (ps : List (Nat × Operand)) : List (Nat × PV) := ps.map fun x => (x.1, ρ x.2)
def boundV (ρ : Operand → PV) (dflt : Nat) : Option Operand → Option (Prop × Nat)
  | none => some (True, dflt)
  | some o => match ρ o with
    | .v (.int _ i) => some (0 ≤ i, i.toNat)
    | _ => none
def frOf : PV → Bool
  | .sl fr _ => fr
  | _ => false
def srcOf (T : Tab) (e : Nat) (bx : Nat → Box) : PV → Option (List (List PV))
  | .asl k off sz n => match bx k with
    | .cells xs => if sz = (T.at e).sz ∧ off + n * sz ≤ xs.length then some (chunk sz n (xs.drop off)) else none
    | _ => none
  | y => elems bx y
def sliceV (T : Tab) (ρ : Operand → PV) (bx : Nat → Box) (t : Nat) (x : PV) (lo hi : Option Operand) : Option (Prop × PV) :=
  match (T.at t).kind with
  | .slice e => match x with
    | .row k sz i n => match boundV ρ 0 lo, boundV ρ n hi with
      | some (p, l), some (q, h) => if sz = (T.at e).sz then some (p ∧ q ∧ l ≤ h ∧ h ≤ n, .row k sz (i + l) (h - l)) else none
      | _, _ => none
    | .v (.slice none 0 0) => match boundV ρ 0 lo, boundV ρ 0 hi with
      | some (p, l), some (q, h) => some (p ∧ q ∧ l ≤ h ∧ h ≤ 0, .v (.slice none 0 0))
      | _, _ => none
    | x => match elems bx x with
      | some es => match boundV ρ 0 lo, boundV ρ es.length hi with
        | some (p, l), some (q, h) => some (p ∧ q ∧ l ≤ h ∧ h ≤ es.length ∧ (∀ z ∈ es, z.length = (T.at e).sz), .sl (frOf x) ((es.take h).drop l))
        | _, _ => none
      | none => none
  | .arr n e => match x with
    | .ref k off => match boundV ρ 0 lo, boundV ρ n hi with
      | some (p, l), some (q, h) => some (p ∧ q ∧ l ≤ h ∧ h ≤ n ∧ n ≤ 9223372036854775807, .asl k (off + l * (T.at e).sz) (T.at e).sz (h - l))
      | _, _ => none
    | _ => none
  | .str => match x with
    | .v (.string b) => match boundV ρ 0 lo, boundV ρ b.size hi with
      | some (p, l), some (q, h) => some (p ∧ q ∧ l ≤ h ∧ h ≤ b.size, .v (.string (b.extract l h)))
      | _, _ => none
    | _ => none
  | _ => none
def appendV (T : Tab) (bx : Nat → Box) (nm : Nat) (e : Nat) (x y : PV) : Option (Prop × PV × List (Nat × Box)) :=
  match srcOf T e bx y with
  | none => none
  | some ys => match x with
    | .v (.slice none 0 0) => some (ys.length * (T.at e).bytes ≤ 140737488355328 ∧ ys.length ≤ 9223372036854775807 ∧ (∀ z ∈ ys, z.length = (T.at e).sz ∧ z.all PV.one = true),
        .row nm (T.at e).sz 0 ys.length, [(nm, .row (T.at e).sz ys)])
    | .row k sz i n => match bx k with
      | .row sz' es => if sz' = sz ∧ sz = (T.at e).sz then
          some (i + n = es.length ∧ (n + ys.length) * (T.at e).bytes ≤ 140737488355328 ∧ n + ys.length ≤ 9223372036854775807 ∧ (∀ z ∈ ys, z.length = (T.at e).sz ∧ z.all PV.one = true),
            .row nm sz 0 (n + ys.length), [(k, .dead), (nm, .row sz (es.drop i ++ ys))])
        else none
      | _ => none
    | _ => none
def indexAddrV (T : Tab) (t : Nat) (x : PV) (i : Int) : Option (Prop × PV) :=
  match (T.at t).kind with
  | .arr n e => match x with
    | .ref k off => some (0 ≤ i ∧ i < n, .ref k (off + i.toNat * (T.at e).sz))
    | .rp k sz j off => some (0 ≤ i ∧ i < n, .rp k sz j (off + i.toNat * (T.at e).sz))
    | .ep fr cs => some (0 ≤ i ∧ i < n, .ep fr (cs.drop (i.toNat * (T.at e).sz)))
    | _ => none
  | .slice e => match x with
    | .row k sz j n => if sz = (T.at e).sz then some (0 ≤ i ∧ i < n, .rp k sz (j + i.toNat) 0) else none
    | .sl fr es => match es[i.toNat]? with
      | some c => some (0 ≤ i ∧ c.length = (T.at e).sz, .ep fr c)
      | none => none
    | .asl k off sz n => if sz = (T.at e).sz then some (0 ≤ i ∧ i < n, .ref k (off + i.toNat * sz)) else none
    | _ => none
  | _ => none
def lookV (es : List (Int × PV)) (n : Int) (ok : Bool) : PV :=
  match lookE es n with
  | some p => if ok then .tup [p, .v (.bool true)] else p
  | none => if ok then .tup [.any, .v (.bool false)] else .any
def pure1 (x : Option (Prop × PV)) : Option (Prop × PV × List (Nat × Box)) := x.map fun r => (r.1, r.2, [])
def pure2 (x : Option PV) : Option (Prop × PV × List (Nat × Box)) := x.map fun r => (True, r, [])
def popv (T : Tab) (ρ : Operand → PV) (bx : Nat → Box) (nm : Nat) : Op → Option (Prop × PV × List (Nat × Box))
  | .move x => some (True, ρ x, [])
  | .assign x => some (True, ρ x, [])
  | .pick c a b => match ρ c with
    | .v (.bool t) => some (True, bif t then ρ a else ρ b, [])
    | _ => none
  | .box _ x => match cellsOf (ρ x) with
    | some xs => some (True, .ref nm 0, [(nm, .cells xs)])
    | none => none
  | .alloc e => if (T.at e).sz = 0 then none else some (True, .ref nm 0, [(nm, .cells ((T.at e).zero.map .v))])
  | .build t ps => if (T.at t).kind.isAgg = false then none else pure2 ((fillV (placeOf T t) ((T.at t).zero.map .v) (evs ρ ps.toList)).map .agg)
  | .buildSlice t len ps => match (T.at t).kind with
    | .slice e => if 16777216 < len * (T.at e).sz then none else (fillV (placeOf T t) ((List.replicate len (T.at e).zero).flatten.map .v) (evs ρ ps.toList)).map fun xs =>
        if (T.at e).kind.isFunc then (True, .asl nm 0 (T.at e).sz len, [(nm, .cells xs)]) else (True, .row nm (T.at e).sz 0 len, [(nm, .row (T.at e).sz (chunk (T.at e).sz len xs))])
    | _ => none
  | .makeMap t r => match r with
    | some _ => none
    | none => match (T.at t).kind with
      | .map kt _ => match (T.at kt).kind with
        | .int kd => some (True, .mp nm, [(nm, .mp kd [])])
        | _ => none
      | _ => none
  | .insert t a k x => match ρ a, ρ k, (T.at t).kind with
    | .mp b, .v (.int kd n), .map kt _ => match (T.at kt).kind, bx b with
      | .int kd1, .mp kd2 es => if kd1 = kd ∧ kd2 = kd ∧ lookE es n = none then some (True, .any, [(b, .mp kd (es ++ [(n, ρ x)]))]) else none
      | _, _ => none
    | _, _, _ => none
  | .lookup t a k ok => match ρ a, ρ k, (T.at t).kind with
    | .mp b, .v (.int kd n), .map kt e => match (T.at kt).kind, bx b with
      | .int kd1, .mp kd2 es => if kd1 = kd ∧ kd2 = kd ∧ (T.at e).sz ≠ 0 then some (True, lookV es n ok, []) else none
      | _, _ => none
    | _, _, _ => none
  | .load t a => match cellsAt bx (ρ a) with
    | some xs => pure2 (ofCells (T.at t) xs)
    | none => none
  | .store t a x => match cellsOf (ρ x) with
    | some ys => if ys.length = (T.at t).sz ∧ (T.at t).sz ≠ 0 then (storeTo bx (ρ a) ys).map fun r => (True, .any, [r]) else none
    | none => none
  | .nilCheck x => match ρ x with
    | .ref k off => some (True, .ref k off, [])
    | .rp k sz i off => some (True, .rp k sz i off, [])
    | .ep fr cs => some (True, .ep fr cs, [])
    | .clos f cs => some (True, .clos f cs, [])
    | _ => none
  | .binOp op t x y _ => match ρ x, ρ y with
    | .agg xs, .agg ys => pure1 (aggEq T op t xs ys)
    | .v (.bool a), .v (.bool b) => match (T.at t).kind with
      | .bool => pure1 (binV op (.v (.bool a)) (.v (.bool b)))
      | _ => none
    | a, b => pure1 (binV op a b)
  | .unOp op _ x => pure2 (unV op (ρ x))
  | .convert src dst x => match (T.at src).kind, (T.at dst).kind, ρ x with
    | .int _, .int k, .v (.int _ a) => some (True, .v (.int k (k.wrap a)), [])
    | _, _, _ => none
  | .makeFunc fn first cap => match fn with
    | .func f => if first.isEmpty then some (True, .clos f (cap.toList.map ρ), []) else none
    | _ => none
  | .makeSlice t l c => match (T.at t).kind, ρ l, ρ c with
    | .slice e, .v (.int .i64 a), .v (.int .i64 b) =>
      some (0 ≤ a ∧ a ≤ b ∧ b * (T.at e).bytes ≤ 281474976710656 ∧ b ≤ 9223372036854775807, .row nm (T.at e).sz 0 a.toNat,
        [(nm, .row (T.at e).sz (List.replicate a.toNat ((T.at e).zero.map .v)))])
    | _, _, _ => none
  | .slice t x lo hi mx => match mx with
    | some _ => none
    | none => pure1 (sliceV T ρ bx t (ρ x) lo hi)
  | .fieldAddr t x f => match (T.at t).kind with
    | .struct fs => match fs[f]?, ρ x with
      | some (o, _), .ref k off => some (True, .ref k (off + o), [])
      | some (o, _), .rp k sz i off => some (True, .rp k sz i (off + o), [])
      | some (o, _), .ep fr cs => some (True, .ep fr (cs.drop o), [])
      | _, _ => none
    | _ => none
  | .field t x f => match (T.at t).kind, ρ x with
    | .struct fs, .agg xs => match fs[f]? with
      | some (o, ft) => pure2 (ofCells (T.at ft) (xs.drop o))
      | none => none
    | _, _ => none
  | .indexAddr t x ix => match ρ ix with
    | .v (.int _ i) => pure1 (indexAddrV T t (ρ x) i)
    | _ => none
  | .index t x ix => match ρ ix, (T.at t).kind, ρ x with
    | .v (.int _ i), .arr n e, .agg xs => (ofCells (T.at e) (xs.drop (i.toNat * (T.at e).sz))).map fun v => (0 ≤ i ∧ i < n, v, [])
    | .v (.int _ i), .str, .v (.string b) => some (0 ≤ i ∧ i < b.size, .v (.int .u8 ((b.data.toList.getD i.toNat 0).toNat)), [])
    | _, _, _ => none
  | .extract x i => match ρ x with
    | .tup vs => pure2 (vs[i]?)
    | _ => none
  | .call c => match c.callee with
    | .builtin .len => match c.argTypes.toList, c.args.toList with
      | [t], [x] => match (T.at t).kind, ρ x with
        | .slice _, x => match slen x with
          | some n => some (True, .v (.int .i64 (n : Int)), [])
          | none => none
        | .str, .v (.string b) => some (True, .v (.int .i64 b.size), [])
        | .arr n _, _ => some (True, .v (.int .i64 n), [])
        | _, _ => none
      | _, _ => none
    | .builtin .append => match c.argTypes.toList, c.args.toList with
      | [t, t'], [x, y] => if t = t' then match (T.at t).kind with
          | .slice e => appendV T bx nm e (ρ x) (ρ y)
          | _ => none
        else none
      | _, _ => none
    | .builtin .clear => match c.argTypes.toList, c.args.toList with
      | [t], [x] => match (T.at t).kind, ρ x with
        | .slice e, .row k sz i n => match bx k with
          | .row sz' es => if sz' = sz ∧ sz = (T.at e).sz ∧ i + n ≤ es.length then some (True, .any, [(k, .row sz (es.take i ++ List.replicate n ((T.at e).zero.map .v) ++ es.drop (i + n)))]) else none
          | _ => none
        | _, _ => none
      | _, _ => none
    | .builtin .min => match c.args.toList with
      | [x, y] => match ρ x, ρ y with
        | .v (.int .i64 a), .v (.int .i64 b) => some (True, .v (.int .i64 (if b < a then b else a)), [])
        | _, _ => none
      | _ => none
    | .builtin .max => match c.args.toList with
      | [x, y] => match ρ x, ρ y with
        | .v (.int .i64 a), .v (.int .i64 b) => some (True, .v (.int .i64 (if b > a then b else a)), [])
        | _, _ => none
      | _ => none
    | _ => none
  | _ => none
def setB (bx : Nat → Box) (k : Nat) (b : Box) : Nat → Box := fun j => bif j == k then b else bx j
def setBs (bx : Nat → Box) : List (Nat × Box) → Nat → Box
  | [] => bx
  | (k, b) :: r => setBs (setB bx k b) r
end Go.Proofs.Ytcbhmedknbiffaa
