/-
  The pure values of the layer VS, and how a machine's value is read as one.
-/
import Derived.RangeFuncLeaves
import Derived.WalkKit
namespace Go.Proofs.Ytcbhmedknbiffaa
open Go Go.RowKit
inductive PV where
  | any
  | v (x : Value)
  | agg (xs : List PV)
  | tup (xs : List PV)
  | sl (fr : Bool) (es : List (List PV))
  | row (k sz i n : Nat)
  | rp (k sz i off : Nat)
  | ref (k off : Nat)
  | asl (k off sz n : Nat)
  | ep (fr : Bool) (cs : List PV)
  | clos (f : Nat) (caps : List PV)
  | yield (L : Nat)
  | mp (k : Nat)
  deriving Inhabited
inductive Box where
  | cells (xs : List PV)
  | row (sz : Nat) (es : List (List PV))
  | mp (kd : IntKind) (es : List (Int × PV))
  | dead
  deriving Inhabited
structure GB where
  b : Nat
  off : Nat
  cap : Nat
structure Gh where
  p : Nat → Nat → Prop
  base : Nat
  dom : Nat → Prop
  gb : Nat → GB
  ls : List Nat
mutual
def RV (g : Gh) (w : World) : PV → Value → Prop
  | .any, _ => True
  | .v x, u => u = x
  | .agg xs, u => ∃ cs : List Value, u = .agg cs.toArray ∧ RL g w xs cs
  | .tup xs, u => ∃ cs : List Value, u = .tuple cs.toArray ∧ RL g w xs cs
  | .sl fr es, u => ∃ a cap sz b off, u = .slice a es.length cap ∧ es.length ≤ cap ∧ cap ≤ maxLen ∧ (es.isEmpty = false → a = some ⟨b, off, none⟩) ∧ (fr = true → g.base ≤ b) ∧ RE g w sz b off es
  | .row k sz i n, u => g.dom k ∧ ∃ a cap, u = .slice a n cap ∧ n ≤ cap ∧ cap ≤ maxLen ∧ (cap ≠ 0 → a = some ⟨(g.gb k).b, (g.gb k).off + i * sz, none⟩ ∧ i + cap = (g.gb k).cap)
  | .rp k sz i off, u => g.dom k ∧ u = .pointer (some ⟨(g.gb k).b, (g.gb k).off + i * sz + off, none⟩)
  | .ref k off, u => g.dom k ∧ u = .pointer (some ⟨(g.gb k).b, off, none⟩)
  | .asl k off sz n, u => g.dom k ∧ ∃ a cap, u = .slice a n cap ∧ n ≤ cap ∧ cap ≤ maxLen ∧ (n * sz ≠ 0 → a = some ⟨(g.gb k).b, off, none⟩)
  | .ep fr cs, u => ∃ b off, u = .pointer (some ⟨b, off, none⟩) ∧ (fr = true → g.base ≤ b) ∧ RM g w b off cs
  | .clos f caps, u => ∃ cs : List Value, u = .func (.func f) #[] cs.toArray ∧ RL g w caps cs
  | .yield L, u => u = .func (.yield L) #[] #[]
  | .mp k, u => g.dom k ∧ u = .map (some (g.gb k).b)
def RL (g : Gh) (w : World) : List PV → List Value → Prop
  | [], cs => cs = []
  | x :: xs, cs => ∃ c r, cs = c :: r ∧ RV g w x c ∧ RL g w xs r
def RM (g : Gh) (w : World) (b off : Nat) : List PV → Prop
  | [] => True
  | x :: xs => g.p b off ∧ (∃ u, w.cell? ⟨b, off, none⟩ = some u ∧ RV g w x u) ∧ RM g w b (off + 1) xs
def RE (g : Gh) (w : World) (sz b off : Nat) : List (List PV) → Prop
  | [] => True
  | e :: es => e.length = sz ∧ RM g w b off e ∧ RE g w sz b (off + sz) es
end
structure GX (g : Gh) (w : World) (g' : Gh) (w' : World) : Prop where
  p : ∀ b o, g.p b o → g'.p b o
  base : g'.base = g.base
  dom : ∀ k, g.dom k → g'.dom k
  gb : ∀ k, g.dom k → g'.gb k = g.gb k
  ls : ∀ (i l : Nat), g.ls[i]? = some l → g'.ls[i]? = some l
  cell : ∀ b o v, g.p b o → w.cell? ⟨b, o, none⟩ = some v → w'.cell? ⟨b, o, none⟩ = some v
theorem GX.refl (g : Gh) (w : World) : GX g w g w := ⟨fun _ _ h => h, rfl, fun _ h => h, fun _ _ => rfl, fun _ _ h => h, fun _ _ _ _ h => h⟩
theorem GX.trans {g w g1 w1 g2 w2} (h : GX g w g1 w1) (k : GX g1 w1 g2 w2) : GX g w g2 w2 :=
  ⟨fun b o x => k.p b o (h.p b o x), k.base.trans h.base, fun i hi => k.dom i (h.dom i hi), fun i hi => (k.gb i (h.dom i hi)).trans (h.gb i hi),
   fun i l x => k.ls i l (h.ls i l x), fun b o v hp hc => k.cell b o v (h.p b o hp) (h.cell b o v hp hc)⟩
mutual
theorem RV.mono {g w g' w'} (h : GX g w g' w') : ∀ (x : PV) (u : Value), RV g w x u → RV g' w' x u
  | .any, _, _ => by simp only [RV]
  | .v x, u, hr => by simp only [RV] at hr ⊢; exact hr
  | .agg xs, u, hr => by
    simp only [RV] at hr ⊢; obtain ⟨cs, e, hl⟩ := hr; exact ⟨cs, e, RL.mono h xs cs hl⟩
  | .tup xs, u, hr => by
    simp only [RV] at hr ⊢; obtain ⟨cs, e, hl⟩ := hr; exact ⟨cs, e, RL.mono h xs cs hl⟩
  | .sl fr es, u, hr => by
    simp only [RV] at hr ⊢
    obtain ⟨a, cap, sz, b, off, e, h1, h2, h3, h4, h5⟩ := hr
    exact ⟨a, cap, sz, b, off, e, h1, h2, h3, fun hf => by rw [h.base]; exact h4 hf, RE.mono h es sz b off h5⟩
  | .row k sz i n, u, hr => by
    simp only [RV] at hr ⊢
    refine ⟨h.dom k hr.1, ?_⟩
    rw [h.gb k hr.1]; exact hr.2
  | .rp k sz i off, u, hr => by
    simp only [RV] at hr ⊢
    refine ⟨h.dom k hr.1, ?_⟩
    rw [h.gb k hr.1]; exact hr.2
  | .ref k off, u, hr => by
    simp only [RV] at hr ⊢
    refine ⟨h.dom k hr.1, ?_⟩
    rw [h.gb k hr.1]; exact hr.2
  | .asl k off sz n, u, hr => by
    simp only [RV] at hr ⊢
    refine ⟨h.dom k hr.1, ?_⟩
    rw [h.gb k hr.1]; exact hr.2
  | .ep fr cs, u, hr => by
    simp only [RV] at hr ⊢
    obtain ⟨b, off, e, hf, hm⟩ := hr
    exact ⟨b, off, e, fun x => by rw [h.base]; exact hf x, RM.mono h cs b off hm⟩
  | .clos f caps, u, hr => by
    simp only [RV] at hr ⊢; obtain ⟨cs, e, hl⟩ := hr; exact ⟨cs, e, RL.mono h caps cs hl⟩
  | .yield L, u, hr => by
    simp only [RV] at hr ⊢; exact hr
  | .mp k, u, hr => by
    simp only [RV] at hr ⊢
    refine ⟨h.dom k hr.1, ?_⟩
    rw [h.gb k hr.1]; exact hr.2
theorem RL.mono {g w g' w'} (h : GX g w g' w') : ∀ (xs : List PV) (cs : List Value), RL g w xs cs → RL g' w' xs cs
  | [], cs, hr => by simp only [RL] at hr ⊢; exact hr
  | x :: xs, cs, hr => by
    simp only [RL] at hr ⊢; obtain ⟨c, r, e, h1, h2⟩ := hr; exact ⟨c, r, e, RV.mono h x c h1, RL.mono h xs r h2⟩
theorem RM.mono {g w g' w'} (h : GX g w g' w') : ∀ (xs : List PV) (b off : Nat), RM g w b off xs → RM g' w' b off xs
  | [], b, off, _ => by simp only [RM]
  | x :: xs, b, off, hr => by
    simp only [RM] at hr ⊢
    obtain ⟨hp, ⟨u, hu, hx⟩, hm⟩ := hr
    exact ⟨h.p _ _ hp, ⟨u, h.cell _ _ _ hp hu, RV.mono h x u hx⟩, RM.mono h xs b (off + 1) hm⟩
theorem RE.mono {g w g' w'} (h : GX g w g' w') : ∀ (es : List (List PV)) (sz b off : Nat), RE g w sz b off es → RE g' w' sz b off es
  | [], sz, b, off, _ => by simp only [RE]
  | e :: es, sz, b, off, hr => by
    simp only [RE] at hr ⊢
    exact ⟨hr.1, RM.mono h e b off hr.2.1, RE.mono h es sz b (off + sz) hr.2.2⟩
end
end Go.Proofs.Ytcbhmedknbiffaa
