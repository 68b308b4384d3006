/-
  The layer VS: a call whose memory is its own: what it hands back is frozen, its boxes are let go.
-/
import Derived.Test.YtcbhmedknbiffaaVsQ
namespace Go.Proofs.Ytcbhmedknbiffaa
open Go Go.RowKit
mutual
def refsB (nb : Nat) : PV → Bool
  | .any => true
  | .v _ => true
  | .agg xs => refsBs nb xs
  | .tup xs => refsBs nb xs
  | .sl _ es => refsBss nb es
  | .row k _ _ _ => decide (k < nb)
  | .rp k _ _ _ => decide (k < nb)
  | .ref k _ => decide (k < nb)
  | .asl k _ _ _ => decide (k < nb)
  | .ep _ cs => refsBs nb cs
  | .clos _ caps => refsBs nb caps
  | .yield _ => true
  | .mp k => decide (k < nb)
def refsBs (nb : Nat) : List PV → Bool
  | [] => true
  | x :: xs => refsB nb x && refsBs nb xs
def refsBss (nb : Nat) : List (List PV) → Bool
  | [] => true
  | e :: es => refsBs nb e && refsBss nb es
end
structure Sub (nb : Nat) (g g' : Gh) : Prop where
  p : ∀ b o, g.p b o → g'.p b o
  base : g'.base = g.base
  dom : ∀ k, k < nb → g.dom k → g'.dom k
  gb : g'.gb = g.gb
  ls : g'.ls = g.ls
mutual
theorem RV.sub {nb g g' w} (h : Sub nb g g') : ∀ (x : PV) (u : Value), refsB nb x = true → RV g w x u → RV g' w x u
  | .any, _, _, _ => by simp only [RV]
  | .v _, _, _, hr => by simp only [RV] at hr ⊢; exact hr
  | .agg xs, _, hb, hr => by simp only [RV] at hr ⊢; simp only [refsB] at hb; obtain ⟨cs, e, hl⟩ := hr; exact ⟨cs, e, RL.sub h xs cs hb hl⟩
  | .tup xs, _, hb, hr => by simp only [RV] at hr ⊢; simp only [refsB] at hb; obtain ⟨cs, e, hl⟩ := hr; exact ⟨cs, e, RL.sub h xs cs hb hl⟩
  | .sl _ es, _, hb, hr => by
    simp only [RV] at hr ⊢; simp only [refsB] at hb
    obtain ⟨a, cap, sz, b, off, e, h1, h2, h3, h4, h5⟩ := hr
    exact ⟨a, cap, sz, b, off, e, h1, h2, h3, fun hf => by rw [h.base]; exact h4 hf, RE.sub h es sz b off hb h5⟩
  | .row k _ _ _, _, hb, hr => by simp only [RV] at hr ⊢; simp only [refsB, decide_eq_true_eq] at hb; rw [h.gb]; exact ⟨h.dom k hb hr.1, hr.2⟩
  | .rp k _ _ _, _, hb, hr => by simp only [RV] at hr ⊢; simp only [refsB, decide_eq_true_eq] at hb; rw [h.gb]; exact ⟨h.dom k hb hr.1, hr.2⟩
  | .ref k _, _, hb, hr => by simp only [RV] at hr ⊢; simp only [refsB, decide_eq_true_eq] at hb; rw [h.gb]; exact ⟨h.dom k hb hr.1, hr.2⟩
  | .asl k _ _ _, _, hb, hr => by simp only [RV] at hr ⊢; simp only [refsB, decide_eq_true_eq] at hb; rw [h.gb]; exact ⟨h.dom k hb hr.1, hr.2⟩
  | .mp k, _, hb, hr => by simp only [RV] at hr ⊢; simp only [refsB, decide_eq_true_eq] at hb; rw [h.gb]; exact ⟨h.dom k hb hr.1, hr.2⟩
  | .ep _ cs, _, hb, hr => by
    simp only [RV] at hr ⊢; simp only [refsB] at hb
    obtain ⟨b, off, e, hf, hm⟩ := hr
    exact ⟨b, off, e, fun x => by rw [h.base]; exact hf x, RM.sub h cs b off hb hm⟩
  | .clos _ caps, _, hb, hr => by simp only [RV] at hr ⊢; simp only [refsB] at hb; obtain ⟨cs, e, hl⟩ := hr; exact ⟨cs, e, RL.sub h caps cs hb hl⟩
  | .yield _, _, _, hr => by simp only [RV] at hr ⊢; exact hr
theorem RL.sub {nb g g' w} (h : Sub nb g g') : ∀ (xs : List PV) (cs : List Value), refsBs nb xs = true → RL g w xs cs → RL g' w xs cs
  | [], _, _, hr => by simp only [RL] at hr ⊢; exact hr
  | x :: xs, _, hb, hr => by
    simp only [RL] at hr ⊢; simp only [refsBs, Bool.and_eq_true] at hb
    obtain ⟨c, r, e, h1, h2⟩ := hr; exact ⟨c, r, e, RV.sub h x c hb.1 h1, RL.sub h xs r hb.2 h2⟩
theorem RM.sub {nb g g' w} (h : Sub nb g g') : ∀ (xs : List PV) (b off : Nat), refsBs nb xs = true → RM g w b off xs → RM g' w b off xs
  | [], _, _, _, _ => by simp only [RM]
  | x :: xs, b, off, hb, hr => by
    simp only [RM] at hr ⊢; simp only [refsBs, Bool.and_eq_true] at hb
    obtain ⟨hp, ⟨u, hu, hx⟩, hm⟩ := hr
    exact ⟨h.p _ _ hp, ⟨u, hu, RV.sub h x u hb.1 hx⟩, RM.sub h xs b (off + 1) hb.2 hm⟩
theorem RE.sub {nb g g' w} (h : Sub nb g g') : ∀ (es : List (List PV)) (sz b off : Nat), refsBss nb es = true → RE g w sz b off es → RE g' w sz b off es
  | [], _, _, _, _, _ => by simp only [RE]
  | e :: es, sz, b, off, hb, hr => by
    simp only [RE] at hr ⊢; simp only [refsBss, Bool.and_eq_true] at hb
    exact ⟨hr.1, RM.sub h e b off hb.1 hr.2.1, RE.sub h es sz b (off + sz) hb.2 hr.2.2⟩
end
theorem RC.sub {nb g g' w} (h : Sub nb g g') : ∀ (es : List (List PV)) (sz : Nat) (cs : List Value), refsBss nb es = true → RC g w sz es cs → RC g' w sz es cs
  | [], _, _, _, _ => by simp only [RC]
  | e :: es, sz, cs, hb, hr => by
    simp only [RC] at hr ⊢; simp only [refsBss, Bool.and_eq_true] at hb
    obtain ⟨h1, c, r, h2, h3, h4⟩ := hr
    exact ⟨h1, c, r, h2, RL.sub h e c hb.1 h3, RC.sub h es sz r hb.2 h4⟩
def mapO (f : PV → Option PV) : List PV → Option (List PV)
  | [] => some []
  | x :: xs => match f x, mapO f xs with
    | some y, some ys => some (y :: ys)
    | _, _ => none
def mapOO (f : PV → Option PV) : List (List PV) → Option (List (List PV))
  | [] => some []
  | e :: es => match mapO f e, mapOO f es with
    | some y, some ys => some (y :: ys)
    | _, _ => none
def frz (nb : Nat) (bx : Nat → Box) : Nat → PV → Option PV
  | 0, x => if refsB nb x = true then some x else none
  | d + 1, .agg xs => (mapO (frz nb bx d) xs).map .agg
  | d + 1, .tup xs => (mapO (frz nb bx d) xs).map .tup
  | d + 1, .clos f caps => (mapO (frz nb bx d) caps).map (.clos f)
  | d + 1, .sl fr es => (mapOO (frz nb bx d) es).map (.sl fr)
  | d + 1, .ep fr cs => (mapO (frz nb bx d) cs).map (.ep fr)
  | d + 1, .row k sz i n => if k < nb then some (.row k sz i n) else match bx k with
    | .row sz' es => if sz' = sz ∧ i + n ≤ es.length then (mapOO (frz nb bx d) ((es.drop i).take n)).map (.sl true) else none
    | _ => none
  | d + 1, .ref k off => if k < nb then some (.ref k off) else match bx k with
    | .cells xs => (mapO (frz nb bx d) (xs.drop off)).map (.ep true)
    | _ => none
  | _ + 1, .v x => some (.v x)
  | _ + 1, .any => some .any
  | _ + 1, .rp k a b c => if refsB nb (.rp k a b c) = true then some (.rp k a b c) else none
  | _ + 1, .asl k a b c => if refsB nb (.asl k a b c) = true then some (.asl k a b c) else none
  | _ + 1, .yield L => some (.yield L)
  | _ + 1, .mp k => if refsB nb (.mp k) = true then some (.mp k) else none
section
variable {g g' : Gh} {w : World} {f : PV → Option PV}
end
end Go.Proofs.Ytcbhmedknbiffaa
