/-
  The layer Ev: shapes of states; the evaluator.
-/
import Derived.Test.YtcbhmedknbiffaaEvH
namespace Go.Proofs.Ytcbhmedknbiffaa
open Go Go.RowKit
inductive Leaf where
  | i (n : Int)
  | b (t : Bool)
  | s (x : ByteArray)
  | l (cs : List CT) (x : List (DenL cs))
  | n (k : Nat)
inductive VP where
  | any
  | skip
  | nil
  | i (k : IntKind)
  | b
  | s
  | sl (fr : Bool) (cs : List CT)
  | row (j : Nat)
  | rsub (j : Nat)
  | ref (j off : Nat)
  | ep (ps : List VP)
  | agg (ps : List VP)
  | tup (ps : List VP)
  | clos (f : Nat) (ps : List VP)
  | yield (d : Nat)
  | opq (j : Nat)
  | ci (k : IntKind) (n : Int)
  | asl (j off sz n : Nat)
inductive BP where
  | gone
  | cells (ps : List VP)
  | row (fr : Bool) (cs : List CT)
  | pv (cs : List CT)
structure Shape where
  fr : List (Nat × List (Nat × VP))
  bx : List BP
mutual
def encV : VP → List Leaf → Option (XV × List Leaf)
  | .any, ls => some (.any, ls)
  | .skip, ls => some (.skip, ls)
  | .nil, ls => some (.nil, ls)
  | .i k, ls => match ls with
    | .i n :: ls => some (.i k n, ls)
    | _ => none
  | .b, ls => match ls with
    | .b t :: ls => some (.b t, ls)
    | _ => none
  | .s, ls => match ls with
    | .s x :: ls => some (.s x, ls)
    | _ => none
  | .sl fr cs, ls => match ls with
    | .l _cs' x :: ls => match castL cs x with
      | some x => some (.sl fr cs x, ls)
      | none => none
    | _ => none
  | .row j, ls => some (.row j, ls)
  | .rsub j, ls => match ls with
    | .n a :: .n b :: ls => some (.rsub j a b, ls)
    | _ => none
  | .ref j off, ls => some (.ref j off, ls)
  | .ci k n, ls => some (.i k n, ls)
  | .asl j off sz n, ls => some (.asl j off sz n, ls)
  | .ep ps, ls => match encVs ps ls with
    | some (xs, ls) => some (.ep xs, ls)
    | none => none
  | .agg ps, ls => match encVs ps ls with
    | some (xs, ls) => some (.agg xs, ls)
    | none => none
  | .tup ps, ls => match encVs ps ls with
    | some (xs, ls) => some (.tup xs, ls)
    | none => none
  | .clos f ps, ls => match encVs ps ls with
    | some (xs, ls) => some (.clos f xs, ls)
    | none => none
  | .yield d, ls => some (.yield d, ls)
  | .opq j, ls => some (.opq j, ls)
def encVs : List VP → List Leaf → Option (List XV × List Leaf)
  | [], ls => some ([], ls)
  | p :: ps, ls => match encV p ls with
    | some (x, ls) => match encVs ps ls with
      | some (xs, ls) => some (x :: xs, ls)
      | none => none
    | none => none
end
def encE : List (Nat × VP) → List Leaf → Option (List (Nat × XV) × List Leaf)
  | [], ls => some ([], ls)
  | (k, p) :: ps, ls => match encV p ls with
    | some (x, ls) => match encE ps ls with
      | some (xs, ls) => some ((k, x) :: xs, ls)
      | none => none
    | none => none
def encF : List (Nat × List (Nat × VP)) → List Leaf → Option (List Fr × List Leaf)
  | [], ls => some ([], ls)
  | (n, ps) :: fs, ls => match encE ps ls with
    | some (e, ls) => match encF fs ls with
      | some (r, ls) => some (⟨n, e⟩ :: r, ls)
      | none => none
    | none => none
def encB : Nat → List BP → List Leaf → Option (List (Nat × XBox) × List Leaf)
  | _, [], ls => some ([], ls)
  | j, .gone :: bs, ls => encB (j + 1) bs ls
  | j, .cells ps :: bs, ls => match encVs ps ls with
    | some (xs, ls) => match encB (j + 1) bs ls with
      | some (r, ls) => some ((j, .cells xs) :: r, ls)
      | none => none
    | none => none
  | j, .row fr cs :: bs, ls => match ls with
    | .l _cs' x :: ls => match castL cs x with
      | some x => match encB (j + 1) bs ls with
        | some (r, ls) => some ((j, .row fr cs x) :: r, ls)
        | none => none
      | none => none
    | _ => none
  | j, .pv cs :: bs, ls => match ls with
    | .l _cs' x :: ls => match castL [.int .i64] x with
      | some x => match encB (j + 1) bs ls with
        | some (r, ls) => some ((j, .pv cs x) :: r, ls)
        | none => none
      | none => none
    | _ => none
structure NM where
  nm : List (Nat × Option Nat)
  hd : List Nat
def lkN : List (Nat × Option Nat) → Nat → Option (Option Nat)
  | [], _ => none
  | (k, v) :: r, j => bif Nat.beq k j then some v else lkN r j
def NM.bind (σ : NM) (j : Nat) (k : Option Nat) : Option NM :=
  match lkN σ.nm j with
  | none => some ⟨(j, k) :: σ.nm, σ.hd⟩
  | some none => match k with
    | none => some σ
    | some _ => none
  | some (some k') => match k with
    | none => none
    | some k => bif Nat.beq k k' then some σ else none
def hideX (bx : List (Nat × XBox)) (fr : Bool) (cs : List CT) : XV → Option (List (DenL cs) × Option Nat)
  | .nil => some ([], none)
  | .sl fr' _ l => bif fr && !fr' then none else match castL cs l with
    | some l => some (l, none)
    | none => none
  | .row k => match lkB bx k with
    | .row fr' _ l => bif fr && !fr' then none else match castL cs l with
      | some l => some (l, some k)
      | none => none
    | _ => none
  | .rsub k i n => match lkB bx k with
    | .row fr' _ l => bif fr && !fr' then none else match castL cs l with
      | some l => some ((l.drop i).take n, some k)
      | none => none
    | _ => none
  | _ => none
mutual
def decV (bx : List (Nat × XBox)) : VP → XV → NM → Option (List Leaf × NM)
  | .any, _, σ => some ([], σ)
  | .skip, x, σ => match x with
    | .skip => some ([], σ)
    | _ => none
  | .nil, x, σ => match x with
    | .nil => some ([], σ)
    | _ => none
  | .i k, x, σ => match x with
    | .i k' n => match kdec k' k with
      | isTrue _ => some ([.i n], σ)
      | isFalse _ => none
    | _ => none
  | .b, x, σ => match x with
    | .b t => some ([.b t], σ)
    | _ => none
  | .s, x, σ => match x with
    | .s y => some ([.s y], σ)
    | _ => none
  | .sl fr cs, x, σ => match hideX bx fr cs x with
    | some (l, none) => some ([.l cs l], σ)
    | some (l, some k) => some ([.l cs l], ⟨σ.nm, k :: σ.hd⟩)
    | none => none
  | .row j, x, σ => match x with
    | .row k => match σ.bind j (some k) with
      | some σ => some ([], σ)
      | none => none
    | .nil => match σ.bind j none with
      | some σ => some ([], σ)
      | none => none
    | _ => none
  | .rsub j, x, σ => match x with
    | .rsub k a b => match σ.bind j (some k) with
      | some σ => some ([.n a, .n b], σ)
      | none => none
    | .row k => match lkB bx k with
      | .row _ _ l => match σ.bind j (some k) with
        | some σ => some ([.n 0, .n l.length], σ)
        | none => none
      | _ => none
    | _ => none
  | .ref j off, x, σ => match x with
    | .ref k off' => bif Nat.beq off off' then (match σ.bind j (some k) with
      | some σ => some ([], σ)
      | none => none) else none
    | _ => none
  | .ci k n, x, σ => match x with
    | .i k' n' => match kdec k' k with
      | isTrue _ => bif ieq n' n then some ([], σ) else none
      | isFalse _ => none
    | _ => none
  | .asl j off sz n, x, σ => match x with
    | .asl k off' sz' n' => bif Nat.beq off off' && (Nat.beq sz sz' && Nat.beq n n') then (match σ.bind j (some k) with
      | some σ => some ([], σ)
      | none => none) else none
    | _ => none
  | .ep ps, x, σ => match x with
    | .ep xs => decVs bx ps xs σ
    | _ => none
  | .agg ps, x, σ => match x with
    | .agg xs => decVs bx ps xs σ
    | _ => none
  | .tup ps, x, σ => match x with
    | .tup xs => decVs bx ps xs σ
    | _ => none
  | .clos f ps, x, σ => match x with
    | .clos f' xs => bif Nat.beq f f' then decVs bx ps xs σ else none
    | _ => none
  | .yield d, x, σ => match x with
    | .yield d' => bif Nat.beq d d' then some ([], σ) else none
    | _ => none
  | .opq j, x, σ => match x with
    | .opq j' => bif Nat.beq j j' then some ([], σ) else none
    | _ => none
def decVs (bx : List (Nat × XBox)) : List VP → List XV → NM → Option (List Leaf × NM)
  | [], xs, σ => match xs with
    | [] => some ([], σ)
    | _ => none
  | p :: ps, xs, σ => match xs with
    | [] => none
    | x :: xs => match decV bx p x σ with
      | some (l1, σ) => match decVs bx ps xs σ with
        | some (l2, σ) => some (l1 ++ l2, σ)
        | none => none
      | none => none
end
def decE (bx : List (Nat × XBox)) (env : List (Nat × XV)) : List (Nat × VP) → NM → Option (List Leaf × NM)
  | [], σ => some ([], σ)
  | (k, p) :: ps, σ => match decV bx p (lkX env k) σ with
    | some (l1, σ) => match decE bx env ps σ with
      | some (l2, σ) => some (l1 ++ l2, σ)
      | none => none
    | none => none
def decF (bx : List (Nat × XBox)) : List (Nat × List (Nat × VP)) → List Fr → NM → Option (List Leaf × NM)
  | [], fs, σ => match fs with
    | [] => some ([], σ)
    | _ => none
  | (n, ps) :: qs, fs, σ => match fs with
    | [] => none
    | f :: fs => bif Nat.beq n f.n then (match decE bx f.env ps σ with
      | some (l1, σ) => match decF bx qs fs σ with
        | some (l2, σ) => some (l1 ++ l2, σ)
        | none => none
      | none => none) else none
def decB (bx : List (Nat × XBox)) : Nat → List BP → NM → Option (List Leaf × NM)
  | _, [], σ => some ([], σ)
  | j, b :: bs, σ => match b with
    | .gone => decB bx (j + 1) bs σ
    | .cells ps => match lkN σ.nm j with
      | some (some k) => match lkB bx k with
        | .cells xs => match decVs bx ps xs σ with
          | some (l1, σ) => match decB bx (j + 1) bs σ with
            | some (l2, σ) => some (l1 ++ l2, σ)
            | none => none
          | none => none
        | _ => none
      | _ => none
    | .row fr cs => match lkN σ.nm j with
      | some (some k) => match lkB bx k with
        | .row fr' _ l => bif fr && !fr' then none else (match castL cs l with
          | some l => match decB bx (j + 1) bs σ with
            | some (l2, σ) => some (.l cs l :: l2, σ)
            | none => none
          | none => none)
        | _ => none
      | some none => match decB bx (j + 1) bs σ with
        | some (l2, σ) => some (.l cs [] :: l2, σ)
        | none => none
      | none => none
    | .pv cs => match lkN σ.nm j with
      | some (some k) => match lkB bx k with
        | .pv cs' ns => match CT.decL cs' cs with
          | isTrue _ => match decB bx (j + 1) bs σ with
            | some (l2, σ) => some (.l [.int .i64] ns :: l2, σ)
            | none => none
          | isFalse _ => none
        | _ => none
      | some none => match decB bx (j + 1) bs σ with
        | some (l2, σ) => some (.l [.int .i64] [] :: l2, σ)
        | none => none
      | none => none
def NM.ok (n : Nat) (σ : NM) : Bool :=
  σ.nm.all fun x => Nat.blt x.1 n && match x.2 with
    | none => true
    | some k => (σ.hd.all fun h => !Nat.beq h k) && σ.nm.all fun y => match y.2 with
      | none => true
      | some k' => Nat.beq x.1 y.1 || !Nat.beq k k'
structure XSt where
  fr : List Fr
  m : XM
  fu : Nat
def decS (sh : Shape) (s : XSt) : Option (List Leaf) :=
  match s.m.ys with
  | some _ => none
  | none => match decF s.m.bx sh.fr s.fr ⟨[], []⟩ with
    | some (l1, σ) => match decB s.m.bx 0 sh.bx σ with
      | some (l2, σ) => bif σ.ok sh.bx.length then some (l1 ++ l2) else none
      | none => none
    | none => none
def encS (sh : Shape) (fu : Nat) (ls : List Leaf) : Option XSt :=
  match encF sh.fr ls with
  | some (fs, ls) => match encB 0 sh.bx ls with
    | some (bx, []) => some ⟨fs, ⟨bx, sh.bx.length, none⟩, fu⟩
    | _ => none
  | none => none
structure RShape where
  v : VP
  bx : List BP
  v2 : Option VP
def decR1 (v : VP) (bs : List BP) (x : XV) (m : XM) : Option (List Leaf) :=
  match decV m.bx v x ⟨[], []⟩ with
  | some (l1, σ) => match decB m.bx 0 bs σ with
    | some (l2, σ) => bif σ.ok bs.length then some (l1 ++ l2) else none
    | none => none
  | none => none
def decR (sr : RShape) (v : XV) (m : XM) : Option (List Leaf) :=
  match sr.v2 with
  | none => decR1 sr.v sr.bx v m
  | some p => match decR1 sr.v sr.bx v m with
    | some ls => some (.b true :: ls)
    | none => match decR1 p [] v m with
      | some ls => some (.b false :: ls)
      | none => none
def encR1 (v : VP) (bs : List BP) (ls : List Leaf) : Option (XV × List (Nat × XBox)) :=
  match encV v ls with
  | some (x, ls) => match encB 0 bs ls with
    | some (bx, []) => some (x, bx)
    | _ => none
  | none => none
def encR (sr : RShape) (ls : List Leaf) : Option (XV × List (Nat × XBox)) :=
  match sr.v2 with
  | none => encR1 sr.v sr.bx ls
  | some p => match ls with
    | .b t :: ls => bif t then encR1 sr.v sr.bx ls else encR1 p [] ls
    | _ => none
def flatXs : List XV → Bool
  | [] => true
  | x :: xs => match x with
    | .i _ _ => flatXs xs
    | .b _ => flatXs xs
    | .s _ => flatXs xs
    | _ => false
mutual
def shiftX (bx : List (Nat × XBox)) (n : Nat) (os : List XV) : XV → XV
  | .row k => .row (n + k)
  | .rsub k a b => .rsub (n + k) a b
  | .agg xs => .agg (shiftXs bx n os xs)
  | .tup xs => .tup (shiftXs bx n os xs)
  | .ref k off => match lkB bx k with
    | .cells xs => .ep (xs.drop off)
    | _ => .any
  | .clos f xs => .clos f (shiftXs bx n os xs)
  | .any => .any
  | .skip => .skip
  | .nil => .nil
  | .i k x => .i k x
  | .b t => .b t
  | .s x => .s x
  | .sl fr cs l => .sl fr cs l
  | .opq j => os.getD j .any
  | _ => .any
def shiftXs (bx : List (Nat × XBox)) (n : Nat) (os : List XV) : List XV → List XV
  | [] => []
  | x :: xs => shiftX bx n os x :: shiftXs bx n os xs
end
mutual
def iceX (bx : List (Nat × XBox)) (os : List XV) : XV → XV
  | .row k => match lkB bx k with
    | .row fr cs l => .sl fr cs l
    | _ => .any
  | .agg xs => .agg (iceXs bx os xs)
  | .tup xs => .tup (iceXs bx os xs)
  | .ref k off => match lkB bx k with
    | .cells xs => .ep (xs.drop off)
    | _ => .any
  | .clos f xs => .clos f (iceXs bx os xs)
  | .any => .any
  | .skip => .skip
  | .nil => .nil
  | .i k x => .i k x
  | .b t => .b t
  | .s x => .s x
  | .sl fr cs l => .sl fr cs l
  | .opq j => os.getD j .any
  | _ => .any
def iceXs (bx : List (Nat × XBox)) (os : List XV) : List XV → List XV
  | [] => []
  | x :: xs => iceX bx os x :: iceXs bx os xs
end
def rowB : XBox → XBox
  | .cells _ => .gone
  | .mp _ _ => .gone
  | .pv _ _ => .gone
  | b => b
def addB (n : Nat) (bx : List (Nat × XBox)) : List (Nat × XBox) → List (Nat × XBox)
  | [] => bx
  | (j, b) :: r => (n + j, rowB b) :: addB n bx r
mutual
def frX (bx : List (Nat × XBox)) : XV → Bool
  | .i _ _ => true
  | .b _ => true
  | .s _ => true
  | .nil => true
  | .opq _ => true
  | .sl fr _ _ => fr
  | .row j => match lkB bx j with
    | .row _ _ _ => true
    | _ => false
  | .agg xs => frXs bx xs
  | .tup xs => frXs bx xs
  | .ref j off => match lkB bx j with
    | .cells xs => flatXs (xs.drop off)
    | _ => false
  | .clos _ xs => frXs bx xs
  | _ => false
def frXs (bx : List (Nat × XBox)) : List XV → Bool
  | [] => true
  | x :: xs => frX bx x && frXs bx xs
end
def frBx : List (Nat × XBox) → Bool
  | [] => true
  | (_, .row fr _ _) :: r => fr && frBx r
  | (_, .cells _) :: r => frBx r
  | _ :: _ => false
def callRes (q : Bool) (n : Nat) (os : List XV) (r : Option (XV × List (Nat × XBox))) (m : XM) : Option (XV × XM) :=
  match r with
  | some (x, bx) => bif frX bx x && frBx bx then (bif q then some (iceX bx os x, m) else some (shiftX bx m.nx os x, ⟨addB m.nx m.bx bx, m.nx + n, m.ys⟩)) else none
  | none => none
def resX {R : Type} (q : Bool) (sr : RShape) (ls : List Leaf) (os : List XV) (m : XM) (K : XV → XM → Option R) : Option R :=
  match sr.v2 with
  | none => match callRes q sr.bx.length os (encR1 sr.v sr.bx ls) m with
    | some (v, m') => K v m'
    | none => none
  | some p => match ls with
    | .b t :: ls => bif t then (match callRes q sr.bx.length os (encR1 sr.v sr.bx ls) m with
        | some (v, m') => K v m'
        | none => none)
      else (match callRes q sr.bx.length os (encR1 p [] ls) m with
        | some (v, m') => K v m'
        | none => none)
    | _ => none
theorem resX_ok {R : Type} {q : Bool} {sr : RShape} {ls : List Leaf} {os : List XV} {m : XM} {K : XV → XM → Option R} {r : R} (h : resX q sr ls os m K = some r) :
    ∃ v m', callRes q sr.bx.length os (encR sr ls) m = some (v, m') ∧ K v m' = some r := by
  have one : ∀ {z : Option (XV × XM)}, (match z with
      | some (v, m') => K v m'
      | none => none) = some r → ∃ v m', z = some (v, m') ∧ K v m' = some r := by
    intro z hz
    split at hz
    · exact ⟨_, _, rfl, hz⟩
    · cases hz
  unfold resX at h
  unfold encR
  split at h
  · exact one h
  · split at h
    · rename_i t ls'
      cases t with
      | true => rw [cond_true] at h; simp only [cond_true]; exact one h
      | false => rw [cond_false] at h; simp only [cond_false]; exact one h
    · cases h
def viewFs : List VP → List XV → Option (List Leaf)
  | [], xs => match xs with
    | [] => some []
    | _ => none
  | p :: ps, xs => match xs with
    | [] => none
    | x :: xs => match p, x with
      | .i k, .i k' n => match kdec k' k with
        | isTrue _ => match viewFs ps xs with
          | some l => some (.i n :: l)
          | none => none
        | isFalse _ => none
      | .b, .b t => match viewFs ps xs with
        | some l => some (.b t :: l)
        | none => none
      | .s, .s y => match viewFs ps xs with
        | some l => some (.s y :: l)
        | none => none
      | _, _ => none
mutual
def viewV (bx : List (Nat × XBox)) (n : Nat) : VP → XV → Option (List Leaf × List XV)
  | .i k, x => match x with
    | .i k' n => match kdec k' k with
      | isTrue _ => some ([.i n], [])
      | isFalse _ => none
    | _ => none
  | .b, x => match x with
    | .b t => some ([.b t], [])
    | _ => none
  | .s, x => match x with
    | .s y => some ([.s y], [])
    | _ => none
  | .sl fr cs, x => bif fr then none else (match hideX bx false cs x with
    | some (l, _) => some ([.l cs l], [])
    | none => none)
  | .opq j, x => bif Nat.beq j n && x.one then some ([], [x]) else none
  | .agg ps, x => match x with
    | .agg xs => viewVs bx n ps xs
    | _ => none
  | .clos f ps, x => match x with
    | .clos f' xs => bif Nat.beq f f' then viewVs bx n ps xs else none
    | _ => none
  | .ep ps, x => match x with
    | .ep xs => (match viewFs ps xs with
      | some l => some (l, [])
      | none => none)
    | _ => none
  | _, _ => none
def viewVs (bx : List (Nat × XBox)) (n : Nat) : List VP → List XV → Option (List Leaf × List XV)
  | [], xs => match xs with
    | [] => some ([], [])
    | _ => none
  | p :: ps, xs => match xs with
    | [] => none
    | x :: xs => match viewV bx n p x with
      | some (l1, o1) => match viewVs bx (n + o1.length) ps xs with
        | some (l2, o2) => some (l1 ++ l2, o1 ++ o2)
        | none => none
      | none => none
end
structure SF (R : Type) where
  pa : List VP
  sr : RShape
  run : List Leaf → (List Leaf → Option R) → Option R
  dr : Bool
structure Cut (R : Type) where
  sh : Shape
  g : Nat → List Leaf → Option R
structure Px (R : Type) where
  T : Tab
  P : Program
  sf : Nat → Option (SF R)
  cut : List (List Nat × Cut R)
  alt : Option R → Option R → Option R
  alt_ok : ∀ a b r, alt a b = some r → a = some r ∧ b = some r
  pv : Bool
def altN {R : Type} (_ _ : Option R) : Option R := none
theorem altN_ok {R : Type} : ∀ (a b : Option R) (r : R), altN a b = some r → a = some r ∧ b = some r := fun _ _ _ h => by cases h
def nilX (T : Tab) (ρ : Operand → XV) (m : List (Nat × XBox)) : Op → Option (Bool × Bool)
  | .binOp .eql t x y _ => match (T.at t).kind, ρ y with
    | .slice _, .nil => match ρ x with
      | .nil => some (true, false)
      | .sl _ _ l => some (l.isEmpty, true)
      | .row k => match lkB m k with
        | .row _ _ l => some (l.isEmpty, true)
        | _ => none
      | _ => none
    | _, _ => none
  | _ => none
def eqL : List Nat → List Nat → Bool
  | [], [] => true
  | a :: l, b :: r => Nat.beq a b && eqL l r
  | _, _ => false
def lkC {R : Type} : List (List Nat × Cut R) → List Nat → Option (Cut R)
  | [], _ => none
  | (k, c) :: r, j => bif eqL k j then some c else lkC r j
abbrev EK (R : Type) := Exit → XSt → Option R
structure RI where
  d : Nat
  ps : List Nat
  asg : Code
  body : Code
abbrev Ev (R : Type) := List Nat → Code → Option RI → EK R → XSt → Option R
section
variable {R : Type}
def XSt.put (s : XSt) (d : Option Nat) (v : XV) : XSt :=
  match d with
  | none => s
  | some d => match s.fr with
    | [] => s
    | f :: r => ⟨⟨f.n, (d, v) :: f.env⟩ :: r, s.m, s.fu⟩
def keepX (env : List (Nat × XV)) : List Nat → List (Nat × XV)
  | [] => []
  | k :: ks => (k, lkX env k) :: keepX env ks
def quietOp : Op → Bool
  | .move _ => true
  | .assign _ => true
  | .pick _ _ _ => true
  | .load _ _ => true
  | .binOp _ _ _ _ _ => true
  | .unOp _ _ _ => true
  | .nilCheck _ => true
  | .convert _ _ _ => true
  | .slice _ _ _ _ _ => true
  | .fieldAddr _ _ _ => true
  | .field _ _ _ => true
  | .indexAddr _ _ _ => true
  | .index _ _ _ => true
  | .extract _ _ => true
  | .build _ _ => true
  | .call c => match c.callee with
    | .builtin .len => true
    | .builtin .min => true
    | .builtin .max => true
    | _ => false
  | _ => false
def cutX (X : Px R) (pth : List Nat) (s : XSt) : Option R :=
  match lkC X.cut pth with
  | some C => match decS C.sh s with
    | some ls => C.g s.fu ls
    | none => none
  | none => none
def initX : Nat → List XV → List (Nat × XV)
  | _, [] => []
  | i, x :: xs => (i, x) :: initX (i + 1) xs
def resXone (T : Tab) (s : XSt) (env : List (Nat × XV)) : ResultVar → Option XV
  | .tmp t => some (lkX env t)
  | .cell a t => match lkX env a with
    | .ref k off => match lkB s.m.bx k with
      | .cells xs => ofCellsX (T.at t) (xs.drop off)
      | _ => none
    | _ => none
def resXall (T : Tab) (s : XSt) (env : List (Nat × XV)) : List ResultVar → Option (List XV)
  | [] => some []
  | r :: rs => match resXone T s env r, resXall T s env rs with
    | some v, some vs => some (v :: vs)
    | _, _ => none
def resXV : List XV → XV
  | [x] => x
  | xs => .tup xs
def retX (X : Px R) (rs : List ResultVar) (K : XV → XSt → Option R) : EK R := fun e s =>
  match e with
  | .normal => (match s.fr with
    | [] => none
    | f :: r => match resXall X.T s f.env rs with
      | some vs => K (resXV vs) ⟨r, s.m, s.fu⟩
      | none => none)
  | .ret => (match s.fr with
    | [] => none
    | f :: r => match resXall X.T s f.env rs with
      | some vs => K (resXV vs) ⟨r, s.m, s.fu⟩
      | none => none)
  | _ => none
def inlX (X : Px R) (e : Ev R) (pth : List Nat) (h : Nat) (args : List XV) (s : XSt) (y : Option RI) (K : XV → XSt → Option R) : Option R :=
  match X.P.funcs[h]? with
  | none => none
  | some fn => match fn.body with
    | none => none
    | some c => bif fn.name == "runtime.NumGoroutine" then none else
      e (2 * h :: pth) c y (retX X fn.results.toList K) ⟨⟨args.length + (fn.ntmps - args.length), initX 0 args⟩ :: s.fr, s.m, s.fu⟩
def callX (X : Px R) (e : Ev R) (q : Bool) (pth : List Nat) (h : Nat) (args : List XV) (s : XSt) (K : XV → XSt → Option R) : Option R :=
  match X.sf h with
  | some S => match viewVs s.m.bx 0 S.pa args with
    | some (ls, os) => S.run ls fun rs => resX q S.sr rs os s.m fun v m' => K v ⟨s.fr, m', s.fu⟩
    | none => none
  | none => bif q then none else inlX X e pth h args s none K
def bindX : List Nat → List XV → List (Nat × XV) → List (Nat × XV)
  | p :: ps, x :: xs, env => bindX ps xs ((p, x) :: env)
  | _, _, env => env
def popX (ys : Option Code) (K : Bool → XSt → Option R) (s : XSt) : Option R :=
  match s.fr with
  | [] => none
  | _ :: r => K ys.isNone ⟨r, ⟨s.m.bx, s.m.nx, ys⟩, s.fu⟩
def roundX (K : Bool → XSt → Option R) : EK R := fun e s =>
  match e with
  | .normal => popX none K s
  | .ret => popX (some .ret) K s
  | .exit id => popX (some (.exit id)) K s
  | .goto l => popX (some (.goto l)) K s
  | _ => none
def asgX (K : XSt → Option R) : EK R := fun e s =>
  match e with
  | .normal => K s
  | _ => none
def yldX (_X : Px R) (e : Ev R) (y : Option RI) (pth : List Nat) (d : Nat) (args : List XV) (s : XSt) (K : Bool → XSt → Option R) : Option R :=
  match y with
  | none => none
  | some ri => match s.m.ys with
    | some _ => none
    | none => match s.fr with
      | _ :: c :: _ => bif Nat.beq d ri.d && Nat.beq args.length ri.ps.length && ri.ps.all (fun p => Nat.blt p c.n) then
          e (1 :: pth) ri.asg none (asgX (e (3 :: pth) ri.body none (roundX K))) ⟨⟨c.n, bindX ri.ps args c.env⟩ :: s.fr, s.m, s.fu⟩ else none
      | _ => none
def dstX (n : Nat) : Option Nat → Bool
  | none => true
  | some d => Nat.blt d n
def xop1 (X : Px R) (e : Ev R) (y : Option RI) (q : Bool) (pth : List Nat) (env : List (Nat × XV)) (o : Oper) (s : XSt) (K : XSt → Option R) : Option R :=
  match o.op with
  | .call ⟨.value g, args, _⟩ => match xev X.T env g with
    | .clos h caps => callX X e q pth h (args.toList.map (xev X.T env) ++ caps) s fun v s' => K (s'.put o.dst v)
    | .yield d => bif q then none else yldX X e y pth d (args.toList.map (xev X.T env)) s fun t s' => K (s'.put o.dst (.b t))
    | _ => none
  | op => match xop X.T (xev X.T env) s.m op with
    | some (side, v, m') => bif side then (bif q && !quietOp op then none else K (XSt.put ⟨s.fr, m', s.fu⟩ o.dst v)) else none
    | none => bif q then none else match nilX X.T (xev X.T env) s.m.bx op with
      | some (ct, cf) => bif cf then (bif ct then X.alt (K (s.put o.dst (.b true))) (K (s.put o.dst (.b false))) else K (s.put o.dst (.b false))) else K (s.put o.dst (.b true))
      | none => none
mutual
def xnms : XV → List Nat
  | .row k => [k]
  | .rsub k _ _ => [k]
  | .agg xs => xnmsL xs
  | .tup xs => xnmsL xs
  | _ => []
def xnmsL : List XV → List Nat
  | [] => []
  | x :: xs => xnms x ++ xnmsL xs
end
mutual
def frzV (k : Nat) (fr : Bool) (cs : List CT) (l : List (DenL cs)) : XV → XV
  | .row j => bif Nat.beq j k then .sl fr cs l else .row j
  | .rsub j a n => bif Nat.beq j k then .sl fr cs ((l.drop a).take n) else .rsub j a n
  | .agg xs => .agg (frzVs k fr cs l xs)
  | .tup xs => .tup (frzVs k fr cs l xs)
  | .ep xs => .ep (frzVs k fr cs l xs)
  | .clos f xs => .clos f (frzVs k fr cs l xs)
  | .aep xs i w off => .aep xs i w off
  | .any => .any
  | .skip => .skip
  | .nil => .nil
  | .i k x => .i k x
  | .b t => .b t
  | .s x => .s x
  | .sl fr cs l => .sl fr cs l
  | .ref j off => .ref j off
  | .aref j off n i => .aref j off n i
  | .rp j i off => .rp j i off
  | .asl j off sz n => .asl j off sz n
  | .yield d => .yield d
  | .opq j => .opq j
  | .mp j => .mp j
  | .ui k => .ui k
  | .nr n => .nr n
  | .np n i => .np n i
def frzVs (k : Nat) (fr : Bool) (cs : List CT) (l : List (DenL cs)) : List XV → List XV
  | [] => []
  | x :: xs => frzV k fr cs l x :: frzVs k fr cs l xs
end
def frzP (k : Nat) (fr : Bool) (cs : List CT) (l : List (DenL cs)) : List (Int × XV) → List (Int × XV)
  | [] => []
  | (n, x) :: r => (n, frzV k fr cs l x) :: frzP k fr cs l r
def frzE (k : Nat) (fr : Bool) (cs : List CT) (l : List (DenL cs)) : List (Nat × XV) → List (Nat × XV)
  | [] => []
  | (n, x) :: r => (n, frzV k fr cs l x) :: frzE k fr cs l r
def frzB (k : Nat) (fr : Bool) (cs : List CT) (l : List (DenL cs)) : List (Nat × XBox) → List (Nat × XBox)
  | [] => []
  | (j, b) :: r => (j, match b with
    | .cells xs => bif Nat.beq j k then .gone else .cells (frzVs k fr cs l xs)
    | .mp kd es => bif Nat.beq j k then .gone else .mp kd (frzP k fr cs l es)
    | .row fr' cs' l' => bif Nat.beq j k then .gone else .row fr' cs' l'
    | .pv cs' ns => bif Nat.beq j k then .gone else .pv cs' ns
    | .gone => .gone) :: frzB k fr cs l r
def frzF (k : Nat) (fr : Bool) (cs : List CT) (l : List (DenL cs)) : List Fr → List Fr
  | [] => []
  | f :: fs => ⟨f.n, frzE k fr cs l f.env⟩ :: frzF k fr cs l fs
def frzS (k : Nat) (s : XSt) : XSt :=
  match lkB s.m.bx k with
  | .row fr cs l => ⟨frzF k fr cs l s.fr, ⟨frzB k fr cs l s.m.bx, s.m.nx, s.m.ys⟩, s.fu⟩
  | _ => s
def frzL : List Nat → XSt → XSt
  | [], s => s
  | k :: ks, s => frzL ks (frzS k s)
mutual
def prvV (k : Nat) (nn : Int) : XV → XV
  | .row j => bif Nat.beq j k then .nr nn else .row j
  | .rsub j a n => bif Nat.beq j k then .any else .rsub j a n
  | .agg xs => .agg (prvVs k nn xs)
  | .tup xs => .tup (prvVs k nn xs)
  | .ep xs => .ep (prvVs k nn xs)
  | .clos f xs => .clos f (prvVs k nn xs)
  | .aep xs i w off => .aep xs i w off
  | .any => .any
  | .skip => .skip
  | .nil => .nil
  | .i k x => .i k x
  | .b t => .b t
  | .s x => .s x
  | .sl fr cs l => .sl fr cs l
  | .ref j off => .ref j off
  | .aref j off n i => .aref j off n i
  | .rp j i off => .rp j i off
  | .asl j off sz n => .asl j off sz n
  | .yield d => .yield d
  | .opq j => .opq j
  | .mp j => .mp j
  | .ui k => .ui k
  | .nr n => .nr n
  | .np n i => .np n i
def prvVs (k : Nat) (nn : Int) : List XV → List XV
  | [] => []
  | x :: xs => prvV k nn x :: prvVs k nn xs
end
def prvP (k : Nat) (nn : Int) : List (Int × XV) → List (Int × XV)
  | [] => []
  | (n, x) :: r => (n, prvV k nn x) :: prvP k nn r
def prvE (k : Nat) (nn : Int) : List (Nat × XV) → List (Nat × XV)
  | [] => []
  | (n, x) :: r => (n, prvV k nn x) :: prvE k nn r
def prvB (k : Nat) (nn : Int) : List (Nat × XBox) → List (Nat × XBox)
  | [] => []
  | (j, b) :: r => (j, match b with
    | .cells xs => bif Nat.beq j k then .gone else .cells (prvVs k nn xs)
    | .mp kd es => bif Nat.beq j k then .gone else .mp kd (prvP k nn es)
    | .row fr' cs' l' => bif Nat.beq j k then .gone else .row fr' cs' l'
    | .pv cs' ns => bif Nat.beq j k then .gone else .pv cs' ns
    | .gone => .gone) :: prvB k nn r
def prvF (k : Nat) (nn : Int) : List Fr → List Fr
  | [] => []
  | f :: fs => ⟨f.n, prvE k nn f.env⟩ :: prvF k nn fs
def prvS (k : Nat) (s : XSt) : XSt :=
  match lkB s.m.bx k with
  | .row _ cs l => (match CT.decL cs [.int .i64] with
    | isTrue _ => ⟨prvF k (ofN l.length) s.fr, ⟨prvB k (ofN l.length) s.m.bx, s.m.nx, s.m.ys⟩, s.fu⟩
    | isFalse _ => frzS k s)
  | _ => s
def prvL : List Nat → XSt → XSt
  | [], s => s
  | k :: ks, s => prvL ks (prvS k s)
def preX (pv : Bool) (T : Tab) (o : Oper) (s : XSt) : XSt :=
  match o.op with
  | .buildSlice _ _ ps => match s.fr with
    | [] => s
    | f :: _ => bif pv then prvL (xnmsL (ps.toList.map fun x => xev T f.env x.2)) s else frzL (xnmsL (ps.toList.map fun x => xev T f.env x.2)) s
  | _ => s
def xopsA (X : Px R) (e : Ev R) (y : Option RI) (q : Bool) (pth : List Nat) (all : List Oper) (F : XSt → Option R) (i : Nat) (o : Oper) (s : XSt) : Option R :=
  match s.fr with
  | [] => none
  | f :: _ => bif dstX f.n o.dst then (match o.guard with
    | none => xop1 X e y q (i :: pth) (bif q then keepX f.env (opTmps o.op ++ glook all o) else f.env) o s F
    | some (j, want) => match (all[j]?).bind (·.dst) with
      | none => none
      | some d => match lkX f.env d with
        | .skip => F (s.put o.dst .skip)
        | .b t => match want with
          | true => bif t then xop1 X e y q (i :: pth) (bif q then keepX ((d, .b true) :: f.env) (opTmps o.op ++ glook all o) else (d, .b true) :: f.env) o (s.put (some d) (.b true)) F
              else F ((s.put (some d) (.b false)).put o.dst .skip)
          | false => bif t then F ((s.put (some d) (.b true)).put o.dst .skip)
              else xop1 X e y q (i :: pth) (bif q then keepX ((d, .b false) :: f.env) (opTmps o.op ++ glook all o) else (d, .b false) :: f.env) o (s.put (some d) (.b false)) F
        | _ => none) else none
def xops (X : Px R) (e : Ev R) (y : Option RI) (q : Bool) (pth : List Nat) (all : List Oper) (K : XSt → Option R) : Nat → List Oper → XSt → Option R
  | _, [], s => K s
  | i, o :: r, s => xopsA X e y q pth all (xops X e y q pth all K (i + 1) r) i o (preX X.pv X.T o s)
def restrB (bx : List (Nat × XBox)) (ns : List Nat) : List (Nat × XBox) := bx.filter fun p => ns.any fun n => Nat.beq n p.1
def xnm1 (bx : List (Nat × XBox)) : XV → Option (List Nat)
  | .row k => match lkB bx k with
    | .row _ _ _ => some [k]
    | .pv _ _ => some [k]
    | _ => none
  | .rsub k _ _ => match lkB bx k with
    | .row _ _ _ => some [k]
    | _ => none
  | .ref k _ => match lkB bx k with
    | .cells _ => some [k]
    | _ => none
  | .aref k _ _ _ => match lkB bx k with
    | .cells _ => some [k]
    | _ => none
  | .asl k _ _ _ => match lkB bx k with
    | .cells _ => some [k]
    | _ => none
  | .rp k _ _ => match lkB bx k with
    | .row _ _ _ => some [k]
    | .pv _ _ => some [k]
    | _ => none
  | .any => none
  | .opq _ => none
  | .mp _ => none
  | _ => some []
def pvN : Nat := 999983
def fpX (ρ : Operand → XV) (bx : List (Nat × XBox)) : Op → Option (List Nat × List Nat)
  | .load _ a => match xnm1 bx (ρ a) with
    | some l => some (l, [])
    | none => none
  | .store _ a _ => match ρ a with
    | .np _ _ => some ([], [pvN])
    | _ => match xnm1 bx (ρ a) with
      | some l => some ([], l)
      | none => none
  | .insert _ _ _ _ => none
  | .lookup _ _ _ _ => none
  | .slice _ x _ _ _ => match ρ x with
    | .any => none
    | .row k => some ([k], [])
    | .rsub k _ _ => some ([k], [])
    | _ => some ([], [])
  | .call c => match c.callee with
    | .builtin .append => (match c.args.toList with
      | [x, y] => match xnm1 bx (ρ x), xnm1 bx (ρ y) with
        | some a, some b => some (b, a)
        | _, _ => none
      | _ => none)
    | .builtin .clear => none
    | _ => some ([], [])
  | _ => some ([], [])
def keptB (bx bx' : List (Nat × XBox)) : Bool := bx.all fun p => match lkB bx p.1 with
  | .gone => true
  | _ => match lkB bx' p.1 with
    | .gone => false
    | _ => true
def disj (a b : List Nat) : Bool := a.all fun x => !b.any fun y => Nat.beq x y
def behX (all : List Oper) : Nat → Oper → Nat → Bool
  | 0, _, _ => false
  | d + 1, o, i => edgeTo o i || o.after.toList.any fun e => edgeTo o e.on && match all[e.on]? with
    | some o' => behX all d o' i
    | none => false
def ordX (all : List Oper) (i j : Nat) : Bool :=
  match all[i]?, all[j]? with
  | some oi, some oj => bif Nat.blt i j then behX all 4 oj i else behX all 4 oi j
  | _, _ => false
def apartX (all : List Oper) (acc : List (List Nat × List Nat)) : Bool :=
  acc.zipIdx.all fun x => x.1.2.isEmpty || acc.zipIdx.all fun y => Nat.beq x.2 y.2 || (disj x.1.2 (y.1.1 ++ y.1.2) && disj x.1.2 [pvN]) || ordX all x.2 y.2
def newNm (m m' : XM) : List Nat := bif Nat.blt m.nx m'.nx then [m.nx] else []
def xlop1 (X : Px R) (env : List (Nat × XV)) (o : Oper) (s : XSt) (K : List Nat → List Nat → XSt → Option R) : Option R :=
  match o.op with
  | .call ⟨.value g, args, _⟩ => match xev X.T env g with
    | .clos h caps => (match X.sf h with
      | some S => (match viewVs (restrB s.m.bx (xnmsL (args.toList.map (xev X.T env) ++ caps))) 0 S.pa (args.toList.map (xev X.T env) ++ caps) with
        | some (ls, os) => bif S.dr then (bif Nat.ble S.sr.bx.length 1 then S.run ls fun rs => resX false S.sr rs os s.m fun v m' => bif keptB s.m.bx m'.bx then K (xnmsL (args.toList.map (xev X.T env) ++ caps)) (newNm s.m m') (XSt.put ⟨s.fr, m', s.fu⟩ o.dst v) else none else none)
          else S.run ls fun rs => resX true S.sr rs os s.m fun v m' => K (xnmsL (args.toList.map (xev X.T env) ++ caps)) [] (XSt.put ⟨s.fr, m', s.fu⟩ o.dst v)
        | none => none)
      | none => none)
    | _ => none
  | op => match xop X.T (xev X.T env) s.m op, fpX (xev X.T env) s.m.bx op with
    | some (side, v, m'), some (R, W) => bif side then (bif isApp op || keptB s.m.bx m'.bx then K R (W ++ newNm s.m m') (XSt.put ⟨s.fr, m', s.fu⟩ o.dst v) else none) else none
    | _, _ => none
def xlops (X : Px R) (all : List Oper) (K : XSt → Option R) : Nat → List Oper → List (List Nat × List Nat) → XSt → Option R
  | _, [], acc, s => bif apartX all acc then K s else none
  | i, o :: r, acc, s => match s.fr with
    | [] => none
    | f :: _ => bif dstX f.n o.dst then (match o.guard with
      | none => xlop1 X (keepX f.env (opTmps o.op ++ glook all o)) o s (fun R W s' => xlops X all K (i + 1) r (acc ++ [(R, W)]) s')
      | some (j, want) => match (all[j]?).bind (·.dst) with
        | none => none
        | some d => match lkX f.env d with
          | .skip => xlops X all K (i + 1) r (acc ++ [([], [])]) (s.put o.dst .skip)
          | .b t => match want with
            | true => bif t then xlop1 X (keepX ((d, .b true) :: f.env) (opTmps o.op ++ glook all o)) o (s.put (some d) (.b true)) (fun R W s' => xlops X all K (i + 1) r (acc ++ [(R, W)]) s')
                else xlops X all K (i + 1) r (acc ++ [([], [])]) ((s.put (some d) (.b false)).put o.dst .skip)
            | false => bif t then xlops X all K (i + 1) r (acc ++ [([], [])]) ((s.put (some d) (.b true)).put o.dst .skip)
                else xlop1 X (keepX ((d, .b false) :: f.env) (opTmps o.op ++ glook all o)) o (s.put (some d) (.b false)) (fun R W s' => xlops X all K (i + 1) r (acc ++ [(R, W)]) s')
          | _ => none) else none
def lookK (n : Int) (ok : Bool) (K : XV → Option R) : List (Int × XV) → Option R
  | [] => K (bif ok then .tup [.any, .b false] else .any)
  | (k, x) :: r => bif ieq n k then K (bif ok then .tup [x, .b true] else x) else lookK n ok K r
def xq1 (X : Px R) (env : List (Nat × XV)) (m : XM) (op : Op) (K : XV → Option R) : Option R :=
  match op with
  | .lookup t a k ok => match xev X.T env a, xev X.T env k, (X.T.at t).kind with
    | .mp b, .i kd n, .map kt e => (match (X.T.at kt).kind, lkB m.bx b with
      | .int kd1, .mp kd2 es => (match kdec kd1 kd, kdec kd2 kd with
        | isTrue _, isTrue _ => bif Nat.beq (X.T.at e).sz 0 then none else lookK n ok K es
        | _, _ => none)
      | _, _ => none)
    | _, _, _ => none
  | op => bif quietOp op then (match xop X.T (xev X.T env) m op with
    | some (side, v, _) => bif side then K v else none
    | none => none) else none
def xqs (X : Px R) (all : List Oper) (sel : Nat → Bool) (chk : Nat → Oper → List (Nat × XV) → Bool) (K : XSt → Option R) : Nat → List Oper → XSt → Option R
  | _, [], s => K s
  | i, o :: r, s => bif sel i then (match s.fr with
    | [] => none
    | f :: _ => bif dstX f.n o.dst && o.guard.isNone && chk i o (keepX f.env (opTmps o.op ++ glook all o)) then
        xq1 X (keepX f.env (opTmps o.op ++ glook all o)) s.m o.op (fun v => xqs X all sel chk K (i + 1) r (s.put o.dst v)) else none) else xqs X all sel chk K (i + 1) r s
def isBigX (X : Px R) (env : List (Nat × XV)) (o : Oper) : Bool :=
  match o.op with
  | .call ⟨.value g, _, _⟩ => match xev X.T env g with
    | .clos h _ => match X.sf h with
      | some _ => false
      | none => true
    | _ => false
  | _ => false
def bigAt (X : Px R) (env : List (Nat × XV)) : Nat → List Oper → Option (Nat × Oper)
  | _, [] => none
  | i, o :: r => bif isBigX X env o then some (i, o) else bigAt X env (i + 1) r
def aX (all : List Oper) (b i : Nat) : Bool :=
  match all[i]? with
  | some o => !Nat.beq i b && !behX all 12 o b
  | none => false
def tX (all : List Oper) (b i : Nat) : Bool := !Nat.beq i b && !aX all b i
def chkA (all : List Oper) (b : Nat) : Bool :=
  all.zipIdx.all fun x => bif Nat.beq x.2 b || aX all b x.2 then x.1.after.toList.all fun e => !Region.binds .any e || aX all b e.on
    else Nat.blt b x.2 && x.1.after.toList.any fun e => Region.binds .any e && !aX all b e.on
def mkAt : Nat → List Oper → Option (Nat × Oper)
  | _, [] => none
  | i, o :: r => match o.op with
    | .alloc _ => some (i, o)
    | _ => mkAt (i + 1) r
def wrAt : Nat → List Oper → Option (Nat × Oper)
  | _, [] => none
  | i, o :: r => match o.op with
    | .store _ _ _ => some (i, o)
    | _ => wrAt (i + 1) r
def mwAt (all : List Oper) : Option (Nat × Oper × Nat × Oper) :=
  match mkAt 0 all with
  | none => none
  | some (ia, oa) => match wrAt 0 all with
    | none => none
    | some (is, os) => some (ia, oa, is, os)
def aA (all : List Oper) (b ia is i : Nat) : Bool :=
  match all[b]? with
  | some ob => (!Nat.beq i b && (!Nat.beq i ia && !Nat.beq i is)) && behX all 12 ob i
  | none => false
def cA (all : List Oper) (b ia is i : Nat) : Bool :=
  match all[i]? with
  | some o => (!Nat.beq i b && (!Nat.beq i ia && !Nat.beq i is)) && (!aA all b ia is i && behX all 12 o is)
  | none => false
def uA (all : List Oper) (b ia is i : Nat) : Bool := (!Nat.beq i b && (!Nat.beq i ia && !Nat.beq i is)) && (!aA all b ia is i && !cA all b ia is i)
def edgeIn (o : Oper) (p : Nat → Bool) : Bool := o.after.toList.any fun e => Region.binds .any e && p e.on
def noDst (ks : List Nat) : Option Nat → Bool
  | none => true
  | some d => !ks.any fun k => Nat.beq k d
def storesTo (os : Oper) (d : Option Nat) : Bool :=
  match os.op, d with
  | .store _ (.tmp k) _, some d => Nat.beq k d
  | _, _ => false
def chkM (all : List Oper) (b ia is : Nat) (oa os : Oper) : Bool :=
  (!Nat.beq b ia && (Nat.blt ia is && (Nat.blt b is && (oa.guard.isNone && (os.guard.isNone && storesTo os oa.dst))))) && all.zipIdx.all fun x =>
    bif Nat.beq x.2 b || aA all b ia is x.2 then x.1.after.toList.all fun e => !Region.binds .any e || aA all b ia is e.on
    else bif Nat.beq x.2 ia then true
    else bif Nat.beq x.2 is then edgeIn x.1 (fun j => Nat.beq j ia) && edgeIn x.1 (fun j => Nat.beq j b || uA all b ia is j)
    else bif cA all b ia is x.2 then Nat.blt is x.2 && edgeIn x.1 (fun j => Nat.beq j is || cA all b ia is j)
    else (Nat.blt b x.2 && Nat.blt x.2 is) && (edgeIn x.1 (fun j => Nat.beq j b || uA all b ia is j) && noDst (opTmps x.1.op ++ glook all x.1) oa.dst)
def nearX (X : Px R) (bx : List (Nat × XBox)) (env : List (Nat × XV)) : Op → Bool
  | .load _ a => match xev X.T env a with
    | .ref k _ => (match lkB bx k with
      | .cells _ => true
      | _ => false)
    | .ep _ => true
    | _ => false
  | .move _ => true
  | .assign _ => true
  | .fieldAddr _ _ _ => true
  | .field _ _ _ => true
  | .binOp _ _ _ _ _ => true
  | .unOp _ _ _ => true
  | .nilCheck _ => true
  | .extract _ _ => true
  | .convert _ _ _ => true
  | .indexAddr _ _ _ => true
  | _ => false
def freeX : Op → Bool
  | .move _ => true
  | .assign _ => true
  | .extract _ _ => true
  | _ => false
def xw1 (X : Px R) (all : List Oper) (o : Oper) (K : XSt → Option R) (s : XSt) : Option R :=
  match s.fr with
  | [] => none
  | f :: _ => bif dstX f.n o.dst && o.guard.isNone then (match xop X.T (xev X.T (keepX f.env (opTmps o.op ++ glook all o))) s.m o.op with
    | some (side, v, m') => bif side then K (XSt.put ⟨s.fr, m', s.fu⟩ o.dst v) else none
    | none => none) else none
def szA (X : Px R) (oa : Oper) : Bool :=
  match oa.op with
  | .alloc te => !Nat.beq (X.T.at te).sz 0
  | _ => false
def bigT (X : Px R) (all : List Oper) (b : Nat) (K : XSt → Option R) (s : XSt) : Option R :=
  match mwAt all with
  | none => xqs X all (tX all b) (fun _ _ _ => true) K 0 all s
  | some (ia, oa, is, os) => xqs X all (uA all b ia is) (fun _ o _ => freeX o.op) (xw1 X all oa (xw1 X all os (xqs X all (cA all b ia is) (fun _ o _ => freeX o.op) K 0 all))) 0 all s
def lateX (X : Px R) (kV : Option Nat) (env : List (Nat × XV)) : Op → Bool
  | .load _ a => match xev X.T env a, kV with
    | .ref k _, some k' => Nat.beq k k'
    | _, _ => false
  | .move _ => true
  | .assign _ => true
  | .fieldAddr _ _ _ => true
  | .field _ _ _ => true
  | .binOp _ _ _ _ _ => true
  | .unOp _ _ _ => true
  | .nilCheck _ => true
  | .extract _ _ => true
  | .convert _ _ _ => true
  | _ => false
def vX (X : Px R) (env : List (Nat × XV)) (all : List Oper) (b : Nat) (ob : Oper) : Nat → List Oper → Option Nat
  | _, [] => none
  | i, o :: r => bif aX all b i && !behX all 12 ob i then (match o.op with
    | .fieldAddr _ x _ => (match xev X.T env x with
      | .ref k _ => some k
      | _ => vX X env all b ob (i + 1) r)
    | .load _ x => (match xev X.T env x with
      | .ref k _ => some k
      | _ => vX X env all b ob (i + 1) r)
    | _ => vX X env all b ob (i + 1) r) else vX X env all b ob (i + 1) r
def spillX (kV : Option Nat) (s : XSt) : Option XSt :=
  match s.fr with
  | [] => none
  | f :: fs => match kV with
    | none => some ⟨⟨f.n, (f.n, .b false) :: f.env⟩ :: fs, s.m, s.fu⟩
    | some k => match lkB s.m.bx k with
      | .cells xs => some ⟨⟨f.n, (f.n, .tup [.ref k 0, .agg xs]) :: f.env⟩ :: fs, s.m.upd k .gone, s.fu⟩
      | _ => none
def bigK (X : Px R) (all : List Oper) (b : Nat) (κ : EK R) (dst : Option Nat) : XV → XSt → Option R := fun v s =>
  match s.fr with
  | [] => none
  | f :: fs => match lkX f.env f.n with
    | .tup [.ref k _, .agg xs] => (match lkB s.m.bx k with
      | .gone => bigT X all b (κ .normal) (XSt.put ⟨⟨f.n, (f.n, .any) :: f.env⟩ :: fs, s.m.upd k (.cells xs), s.fu⟩ dst v)
      | _ => none)
    | .b _ => bigT X all b (κ .normal) (XSt.put ⟨⟨f.n, (f.n, .any) :: f.env⟩ :: fs, s.m, s.fu⟩ dst v)
    | _ => none
def bigC (X : Px R) (e : Ev R) (pth : List Nat) (all : List Oper) (b : Nat) (ob : Oper) (kV : Option Nat) (κ : EK R) (s : XSt) : Option R :=
  match s.fr with
  | [] => none
  | f :: _ => match ob.op with
    | .call ⟨.value g, args, _⟩ => (match xev X.T (keepX f.env (opTmps ob.op ++ glook all ob)) g with
      | .clos h caps => (match spillX kV s with
        | some s2 => inlX X e (b :: pth) h (args.toList.map (xev X.T (keepX f.env (opTmps ob.op ++ glook all ob))) ++ caps) s2 none (bigK X all b κ ob.dst)
        | none => none)
      | _ => none)
    | _ => none
def xbig (X : Px R) (e : Ev R) (pth : List Nat) (all : List Oper) (b : Nat) (ob : Oper) (kV : Option Nat) (κ : EK R) (s : XSt) : Option R :=
  match s.fr with
  | [] => none
  | f :: _ => match mwAt all with
    | none => bif chkA all b && dstX f.n ob.dst && ob.guard.isNone then
        xqs X all (aX all b) (fun i o env => behX all 12 ob i || lateX X kV env o.op) (bigC X e pth all b ob kV κ) 0 all s else none
    | some (ia, oa, is, os) => bif chkM all b ia is oa os && (dstX f.n ob.dst && (ob.guard.isNone && (dstX f.n oa.dst && (dstX f.n os.dst && szA X oa)))) then
        xqs X all (aA all b ia is) (fun _ o env => nearX X s.m.bx env o.op) (bigC X e pth all b ob none κ) 0 all s else none
def seqX (F : XSt → Option R) (κ : EK R) : EK R := fun e s =>
  match e with
  | .normal => F s
  | e => κ e s
def blockX (id : Nat) (κ : EK R) : EK R := fun e s =>
  match e with
  | .exit id' => bif Nat.beq id' id then κ .normal s else κ (.exit id') s
  | e => κ e s
def labX (X : Px R) (pth : List Nat) (c : Code) (κ : EK R) : EK R := fun e s =>
  match e with
  | .goto l => match findLabel c l with
    | some _ => cutX X ((l + 10) :: pth) s
    | none => none
  | e => κ e s
def endX (κ : EK R) : XV → XSt → Option R := fun _ s =>
  match s.m.ys with
  | none => κ .normal s
  | some .ret => κ .ret ⟨s.fr, ⟨s.m.bx, s.m.nx, none⟩, s.fu⟩
  | some (.exit id) => κ (.exit id) ⟨s.fr, ⟨s.m.bx, s.m.nx, none⟩, s.fu⟩
  | some (.goto l) => κ (.goto l) ⟨s.fr, ⟨s.m.bx, s.m.nx, none⟩, s.fu⟩
  | _ => none
mutual
def nyV (d : Nat) : XV → Bool
  | .agg xs => nyVs d xs
  | .tup xs => nyVs d xs
  | .ep xs => nyVs d xs
  | .aep xs _ _ _ => nyVs d xs
  | .clos _ xs => nyVs d xs
  | .yield d' => !Nat.beq d d'
  | _ => true
def nyVs (d : Nat) : List XV → Bool
  | [] => true
  | x :: xs => nyV d x && nyVs d xs
end
def nyE (d : Nat) : List (Nat × XV) → Bool
  | [] => true
  | (_, x) :: r => nyV d x && nyE d r
def nyB (d : Nat) : List (Nat × XBox) → Bool
  | [] => true
  | (_, .cells xs) :: r => nyVs d xs && nyB d r
  | (_, .mp _ es) :: r => nyVs d (es.map (·.2)) && nyB d r
  | _ :: r => nyB d r
def nyS (d : Nat) (s : XSt) : Bool := s.fr.all (fun f => nyE d f.env) && nyB d s.m.bx
def unrX (X : Px R) (e : Ev R) (pth : List Nat) (c : Code) (y : Option RI) (κ : EK R) : EK R := fun ex s =>
  match ex with
  | .normal => match lkC X.cut (5 :: pth) with
    | some _ => none
    | none => e (5 :: pth) (.loop c) y κ s
  | ex => κ ex s
def evc (X : Px R) (e : Ev R) : Ev R
  | _, .skip, _, κ, s => κ .normal s
  | _, .label _, _, κ, s => κ .normal s
  | pth, .region _ ops draw, y, κ, s => match draw with
    | false => xops X e y false pth ops.toList (κ .normal) 0 ops.toList s
    | true => bif qchk ops.toList then (match s.fr with
      | [] => none
      | f :: _ => match bigAt X f.env 0 ops.toList with
        | none => xlops X ops.toList (κ .normal) 0 ops.toList [] s
        | some (b, ob) => xbig X e pth ops.toList b ob (vX X f.env ops.toList b ob 0 ops.toList) κ s) else none
  | pth, .seq a b, y, κ, s => evc X e (0 :: pth) a y (seqX (evc X e (1 :: pth) b y κ) κ) s
  | pth, .cond c a b, y, κ, s => match s.fr with
    | [] => none
    | f :: _ => match xev X.T f.env c with
      | .b t => bif t then evc X e (0 :: pth) a y κ s else evc X e (1 :: pth) b y κ s
      | _ => none
  | pth, .block id b, y, κ, s => evc X e (0 :: pth) b y (blockX id κ) s
  | _, .exit id, _, κ, s => κ (.exit id) s
  | _, .goto l, _, κ, s => κ (.goto l) s
  | _, .ret, _, κ, s => κ .ret s
  | pth, .loop c, y, κ, s => match lkC X.cut pth with
    | some _ => cutX X pth s
    | none => evc X e (0 :: pth) c y (unrX X e pth c y κ) s
  | pth, .scope c, y, κ, s => evc X e (0 :: pth) c y (labX X pth c κ) s
  | pth, .rangeFunc g ps asg body, _, κ, s => match s.m.ys with
    | some _ => none
    | none => match s.fr with
      | [] => none
      | f :: _ => match xev X.T f.env g with
        | .clos h caps => bif nyS pth.length s then inlX X e pth h (.yield pth.length :: caps) s (some ⟨pth.length, ps.toList, asg, body⟩) (endX κ) else none
        | _ => none
  | _, .refuse _, _, _, _ => none
def ev (X : Px R) : Nat → Ev R
  | 0 => fun _ _ _ _ _ => none
  | d + 1 => evc X (ev X d)
def loopX (X : Px R) (pth : List Nat) (κ : EK R) : EK R := fun e s =>
  match e with
  | .normal => cutX X pth s
  | e => κ e s
structure At (R : Type) where
  d : Nat
  pth : List Nat
  c : Code
  y : Option RI
  κ : EK R
def atc (X : Px R) : List Nat → Nat → List Nat → Code → Option RI → EK R → Option (At R)
  | [], d, pth, c, y, κ => match c with
    | .loop b => some ⟨d, 0 :: pth, b, y, loopX X pth κ⟩
    | _ => none
  | j :: f, d, pth, c, y, κ => match c with
    | .seq a b => match j with
      | 0 => atc X f d (0 :: pth) a y (seqX (ev X d (1 :: pth) b y κ) κ)
      | 1 => atc X f d (1 :: pth) b y κ
      | _ => none
    | .cond _ a b => match j with
      | 0 => atc X f d (0 :: pth) a y κ
      | 1 => atc X f d (1 :: pth) b y κ
      | _ => none
    | .block id b => match j with
      | 0 => atc X f d (0 :: pth) b y (blockX id κ)
      | _ => none
    | .loop b => match j with
      | 0 => match lkC X.cut pth with
        | some _ => atc X f d (0 :: pth) b y (loopX X pth κ)
        | none => match d with
          | 0 => none
          | d + 1 => atc X f (d + 1) (0 :: pth) b y (unrX X (ev X d) pth b y κ)
      | 5 => match d with
        | 0 => none
        | d + 1 => atc X f d (5 :: pth) (.loop b) y κ
      | _ => none
    | .scope c => match j with
      | 0 => atc X f d (0 :: pth) c y (labX X pth c κ)
      | l + 1 => match findLabel c (l - 9) with
        | none => none
        | some rest => match f with
          | [] => some ⟨d, 0 :: j :: pth, rest, y, labX X pth c κ⟩
          | 0 :: f => atc X f d (0 :: j :: pth) rest y (labX X pth c κ)
          | _ => none
    | .region _ ops false => match d with
      | 0 => none
      | d + 1 => match ops.toList[j]? with
        | none => none
        | some o => match f with
          | [] => none
          | tag :: f => bif Nat.beq tag 1 then (match y with
            | none => none
            | some ri => atc X f d (1 :: j :: pth) ri.asg none (asgX (ev X d (3 :: j :: pth) ri.body none (roundX fun t s' => xops X (ev X d) y false pth ops.toList (κ .normal) (j + 1) (ops.toList.drop (j + 1)) (s'.put o.dst (.b t))))))
            else bif Nat.beq tag 3 then (match y with
            | none => none
            | some ri => atc X f d (3 :: j :: pth) ri.body none (roundX fun t s' => xops X (ev X d) y false pth ops.toList (κ .normal) (j + 1) (ops.toList.drop (j + 1)) (s'.put o.dst (.b t))))
            else (match X.P.funcs[tag / 2]? with
            | none => none
            | some fn => match fn.body with
              | none => none
              | some c => atc X f d (tag :: j :: pth) c none (retX X fn.results.toList fun v s' => xops X (ev X d) y false pth ops.toList (κ .normal) (j + 1) (ops.toList.drop (j + 1)) (s'.put o.dst v)))
    | .region _ ops true => match d with
      | 0 => none
      | d + 1 => match ops.toList[j]? with
        | none => none
        | some o => match f with
          | [] => none
          | tag :: f => match X.P.funcs[tag / 2]? with
            | none => none
            | some fn => match fn.body with
              | none => none
              | some c => atc X f d (tag :: j :: pth) c none (retX X fn.results.toList (bigK X ops.toList j κ o.dst))
    | .rangeFunc _ ps asg body => match d with
      | 0 => none
      | d + 1 => match X.P.funcs[j / 2]? with
        | none => none
        | some fn => match fn.body with
          | none => none
          | some c => atc X f d (j :: pth) c (some ⟨pth.length, ps.toList, asg, body⟩) (retX X fn.results.toList (endX κ))
    | _ => none
end
end Go.Proofs.Ytcbhmedknbiffaa
