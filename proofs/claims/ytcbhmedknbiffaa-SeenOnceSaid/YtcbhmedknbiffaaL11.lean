/-
  In plain words: the laws of chapter 11.
-/
import Derived.Test.YtcbhmedknbiffaaPZ
namespace Go.Proofs.Ytcbhmedknbiffaa
open Go Go.RowKit

theorem wakes11 : F10 FUEL = some true := by kernel_rfl

def freshP (l : List PT) (m : MW) : Bool := rightM m && (askB m.k && !l.any (isk m.f m.c))
theorem fresh_p (n : Nat) (l : List PT) (m : MW) (h : l.length < 1000) (hm : m.l.length < 1000) : F21 n l m.k m.c m.f m.t m.key m.s m.d m.p m.pr m.l m.ik m.iv m.ir m.ig m.cd = some (freshP l m) := by
  have hf := fuel_big
  unfold F21 freshP
  have hr : F30 FUEL m.k m.c m.f m.t m.key m.s m.d m.p m.pr m.l m.ik m.iv m.ir m.ig m.cd = some (rightM m) := mright_p (by omega) m.k m.c m.f m.t m.key m.s m.d m.p m.pr m.l m.ik m.iv m.ir m.ig m.cd hm
  have ha : F31 FUEL m.k m.c m.f m.t m.key m.s m.d m.p m.pr m.l m.ik m.iv m.ir m.ig m.cd = some (askB m.k) := msgasks_p FUEL m.k m.c m.f m.t m.key m.s m.d m.p m.pr m.l m.ik m.iv m.ir m.ig m.cd
  have ht : F35 FUEL m.f m.c = some (m.f, m.c) := rfl
  rw [hr, ha, ht]
  simp only [Option.bind_some]
  rw [first_p (by omega) l m.f m.c h]
  simp only [Option.bind_some, first_lt]
  cases rightM m
  · rfl
  · cases askB m.k <;> rfl
theorem fresh_r (n : Nat) (l : List PT) (m : MW) (h : l.length < 1000) (hs : shortP l) (hm : m.l.length < 1000) : F22 n l m.k m.c m.f m.t m.key m.s m.d m.p m.pr m.l m.ik m.iv m.ir m.ig m.cd = some (freshP l m) := by
  have hf := fuel_big
  unfold F22 freshP
  have hr : F25 FUEL m.k m.c m.f m.t m.key m.s m.d m.p m.pr m.l m.ik m.iv m.ir m.ig m.cd = some (rightM m) := mright_r FUEL m.k m.c m.f m.t m.key m.s m.d m.p m.pr m.l m.ik m.iv m.ir m.ig m.cd hm
  have ha : F26 FUEL m.k m.c m.f m.t m.key m.s m.d m.p m.pr m.l m.ik m.iv m.ir m.ig m.cd = some (askB m.k) := msgasks_r FUEL m.k m.c m.f m.t m.key m.s m.d m.p m.pr m.l m.ik m.iv m.ir m.ig m.cd
  rw [hr, ha, find_r (by omega) l m.f m.c h hs]
  simp only [Option.bind_some, mkF_q]
  cases rightM m
  · rfl
  · cases askB m.k <;> rfl
theorem msame_s (m : MW) (h : m.l.length < 1000) : F15 FUEL m.k m.c m.f m.t m.key m.s m.d m.p m.pr m.l m.ik m.iv m.ir m.ig m.cd m.k m.c m.f m.t m.key m.s m.d m.p m.pr m.l m.ik m.iv m.ir m.ig m.cd = some true := by
  have hf := fuel_big
  have : F15 FUEL m.k m.c m.f m.t m.key m.s m.d m.p m.pr m.l m.ik m.iv m.ir m.ig m.cd m.k m.c m.f m.t m.key m.s m.d m.p m.pr m.l m.ik m.iv m.ir m.ig m.cd = some (sameM m m) := msame_r (show m.l.length < FUEL by omega) (show m.l.length ≤ 9223372036854775807 by omega)
  rw [this, sameM_self]
theorem same_of (o : Option PT) (h : ∀ x, o = some x → (pm x).l.length < 1000) (G : Bool → Option Bool) : Option.bind (F15 FUEL (mkF o).q0 (mkF o).q1 (mkF o).q2 (mkF o).q3 (mkF o).q4 (mkF o).q5 (mkF o).q6 (mkF o).q7 (mkF o).q8 (mkF o).q15 (mkF o).q9 (mkF o).q10 (mkF o).q11 (mkF o).q12 (mkF o).q13 (mkF o).q0 (mkF o).q1 (mkF o).q2 (mkF o).q3 (mkF o).q4 (mkF o).q5 (mkF o).q6 (mkF o).q7 (mkF o).q8 (mkF o).q15 (mkF o).q9 (mkF o).q10 (mkF o).q11 (mkF o).q12 (mkF o).q13) G = G true := by
  cases o with
  | none => exact congrArg (fun z => Option.bind z G) (msame_s ⟨0, 0, 0, 0, 0, false, false, 0, 0, [], ByteArray.empty, 0, 0, false, 0⟩ (show (0 : Nat) < 1000 by decide))
  | some x => exact congrArg (fun z => Option.bind z G) (msame_s (pm x) (h x rfl))

theorem shortP_addA : ∀ (t : List MT) (l : List PT), shortP l → shortM t → shortP (addA l t)
  | [], _, h, _ => h
  | x :: r, l, h, hx => shortP_addA r (addS l (mw x)) (shortP_addS h (hx x (by simp))) (fun y hy => hx y (by simp [hy]))
theorem addA_len : ∀ (t : List MT) (l : List PT), l.length ≤ 60 → (addA l t).length ≤ 60
  | [], _, h => h
  | x :: r, l, h => addA_len r (addS l (mw x)) (by have := addS_len l (mw x); omega)
theorem eqb_self (b : Bool) : beqb b b = true := by cases b <;> rfl
theorem neb_self (b : Bool) : bneb b b = false := by cases b <;> rfl
theorem nei_self (a : Int) : ine a a = false := by rw [ine_dec, decide_eq_true rfl]; rfl

/-! ### Tells. -/
theorem plain_SeenTells (n : Nat) (l o : List PT) (t : List MT) (m : MW) (f c : Int) (hl : l.length ≤ 9223372036854775807) (ho : o.length ≤ 9223372036854775807) (ht : t.length ≤ 9223372036854775807) : F3 n l o t m.k m.c m.f m.t m.key m.s m.d m.p m.pr m.l m.ik m.iv m.ir m.ig m.cd f c = some true := by
  have hff := fuel_big
  unfold F3
  obtain ⟨b1, g1, k1⟩ := sgreat (n := FUEL) (by omega) l hl
  obtain ⟨b2, g2, k2⟩ := sgreat (n := FUEL) (by omega) o ho
  obtain ⟨b3, g3, k3⟩ := sgreatm (n := FUEL) (by omega) t ht
  obtain ⟨b4, g4, k4⟩ := sgreatm (n := FUEL) (by omega) [(m.k, m.c, m.f, m.t, m.key, m.s, m.d, m.p, m.pr, m.l, m.ik, m.iv, m.ir, m.ig, m.cd)] (by simp)
  rw [g1, g2, g3, g4, wakes11]
  cases b1
  case true => rfl
  cases b2
  case true => rfl
  cases b3
  case true => rfl
  cases b4
  case true => rfl
  obtain ⟨l6, ls⟩ := k1 rfl
  obtain ⟨o6, os⟩ := k2 rfl
  obtain ⟨t6, ts⟩ := k3 rfl
  have hm : m.l.length < 1000 := by
    have : m.l.length ≤ 40 := (k4 rfl).2 (m.k, m.c, m.f, m.t, m.key, m.s, m.d, m.p, m.pr, m.l, m.ik, m.iv, m.ir, m.ig, m.cd) (by simp)
    omega
  have lS : shortP l := fun x hx => by have := ls x hx; omega
  have tS : shortM t := fun x hx => by have := ts x hx; omega
  have aS : shortP (addA l t) := shortP_addA t l lS tS
  have aL : (addA l t).length < 1000 := by have := addA_len t l l6; omega
  have hfd : ∀ x, l.find? (isk f c) = some x → (pm x).l.length < 1000 := fun x hx => lS x (List.mem_of_find?_eq_some hx)
  simp only [Option.bind_some, cond_false]
  rw [of_p FUEL m hm, of_r FUEL m hm, find_p l f c (by omega) lS, find_r (by omega) l f c (by omega) lS, sright_p (by omega) l (by omega) lS, sright_r (by omega) l (by omega) lS, sadd_p (by omega) l t l6 lS t6 tS, sadd_r (by omega) l t l6 lS t6 tS, fresh_p FUEL l m (by omega) hm, fresh_r FUEL l m (by omega) lS hm, ssame_p (by omega) l o (by omega) lS, ssame_r (by omega) l o (by omega) lS, sown_p (by omega) l (by omega) lS]
  simp only [Option.bind_some]
  rw [ssame_r (by omega) _ _ aL aS, ssame_r (by omega) l l (by omega) lS, leqP_self, leqP_self, same_of (l.find? (isk f c)) hfd]
  cases toldP m
  · rw [if_neg (by simp)]
    simp only [nei_self, neb_self, eqb_self, cond_false, cond_true, Option.bind_some, Bool.not_true]
    exact congrArg (fun z => Option.bind z _) (msame_s ⟨0, 0, 0, 0, 0, false, false, 0, 0, [], ByteArray.empty, 0, 0, false, 0⟩ (show (0 : Nat) < 1000 by decide))
  · rw [if_pos rfl]
    simp only [nei_self, neb_self, eqb_self, cond_false, cond_true, Option.bind_some, Bool.not_true]
    exact congrArg (fun z => Option.bind z _) (msame_s m hm)

/-! ### Memories that may be. -/
def okP (x : PT) : Bool := toldP (pm x) && (decide ((pm x).t = x.1) && decide ((pm x).c = x.2.1))
theorem rgP_iff : ∀ {l p : List PT}, rgP p l = true ↔ (∀ x ∈ l, okP x = true ∧ p.any (isk x.1 x.2.1) = false) ∧ l.Pairwise (fun a b => isk b.1 b.2.1 a = false)
  | [], p => by simp [rgP]
  | x :: r, p => by
    have ih := rgP_iff (l := r) (p := p ++ [x])
    unfold rgP
    simp only [Bool.and_eq_true, decide_eq_true_eq, Bool.not_eq_true', List.pairwise_cons]
    rw [ih]
    simp only [List.any_append, List.any_cons, List.any_nil, Bool.or_false, Bool.or_eq_false_iff]
    have hk : okP x = true ↔ toldP (pm x) = true ∧ (pm x).t = x.1 ∧ (pm x).c = x.2.1 := by
      unfold okP; simp only [Bool.and_eq_true, decide_eq_true_eq]
    constructor
    · rintro ⟨h1, h2, h3, h4, h5, h6⟩
      refine ⟨fun y hy => ?_, fun y hy => (h5 y hy).2.2, h6⟩
      rcases List.mem_cons.1 hy with rfl | hy
      · exact ⟨hk.2 ⟨h1, h2, h3⟩, h4⟩
      · exact ⟨(h5 y hy).1, (h5 y hy).2.1⟩
    · rintro ⟨h1, h2, h3⟩
      obtain ⟨k1, k2⟩ := h1 x (by simp)
      obtain ⟨a1, a2, a3⟩ := hk.1 k1
      exact ⟨a1, a2, a3, k2, fun y hy => ⟨(h1 y (by simp [hy])).1, (h1 y (by simp [hy])).2, h2 y hy⟩, h3⟩
theorem rightP_iff {l : List PT} : rightP l = true ↔ l.length ≤ 40 ∧ (∀ x ∈ l, okP x = true) ∧ l.Pairwise (fun a b => isk b.1 b.2.1 a = false) := by
  unfold rightP
  rw [Bool.and_eq_true, rgP_iff, decide_eq_true_eq]
  constructor
  · rintro ⟨⟨h1, h2⟩, h3⟩; exact ⟨h3, fun x hx => (h1 x hx).1, h2⟩
  · rintro ⟨h1, h2, h3⟩; exact ⟨⟨fun x hx => ⟨h2 x hx, rfl⟩, h3⟩, h1⟩
theorem isk_at {f c : Int} {x : PT} : isk f c x = true ↔ x.1 = f ∧ x.2.1 = c := by unfold isk; simp
theorem rightP_addS {l : List PT} (h : rightP l = true) (m : MW) : rightP (addS l m) = true := by
  unfold addS
  split
  · rename_i hc
    rw [Bool.and_eq_true] at hc
    obtain ⟨h1, h2⟩ := hc
    rw [rightP_iff] at h ⊢
    obtain ⟨k1, k2, k3⟩ := h
    refine ⟨by rw [l40_len]; omega, fun x hx => ?_, ?_⟩
    · rcases List.mem_append.1 (List.mem_of_mem_drop hx) with hx | hx
      · exact k2 x hx
      · simp only [List.mem_singleton] at hx
        subst hx
        show (toldP m && (decide (m.t = m.t) && decide (m.c = m.c))) = true
        rw [h1]; simp
    · refine List.Pairwise.sublist (List.drop_sublist _ _) ?_
      rw [List.pairwise_append]
      refine ⟨k3, by simp, fun a ha b hb => ?_⟩
      simp only [List.mem_singleton] at hb
      subst hb
      simp only [Bool.not_eq_true', List.any_eq_false] at h2
      have := h2 a ha
      show isk m.t m.c a = false
      simpa using this
  · exact h
theorem rightP_addA : ∀ (t : List MT) (l : List PT), rightP l = true → rightP (addA l t) = true
  | [], _, h => h
  | x :: r, l, h => rightP_addA r (addS l (mw x)) (rightP_addS h (mw x))
theorem addS_ge {l : List PT} (h : l.length ≤ 40) (m : MW) : l.length ≤ (addS l m).length := by
  unfold addS
  split
  · rw [l40_len]; simp; omega
  · exact Nat.le_refl _
theorem addA_ge : ∀ (t : List MT) (l : List PT), rightP l = true → l.length ≤ (addA l t).length
  | [], _, _ => Nat.le_refl _
  | x :: r, l, h => Nat.le_trans (addS_ge (rightP_iff.1 h).1 (mw x)) (addA_ge r (addS l (mw x)) (rightP_addS h (mw x)))
theorem addA_app (l : List PT) (p r : List MT) : addA l (p ++ r) = addA (addA l p) r := by unfold addA; rw [List.foldl_append]

/-! ### Adds. -/
theorem adds_law {l : List PT} {T : List MT} (hr : rightP l = true) (lS : shortP l) (tS : shortM T) (hT6 : T.length ≤ 60) : ∀ (r p : List MT) (n : Nat), T = p ++ r → r.length < n → F5_c0 n l T (addA l T) (addA l p) (ofN p.length) = some true
  | _, _, 0, _, h => by omega
  | [], p, n + 1, hT, h => by
    have hff := fuel_big
    rw [List.append_nil] at hT
    subst hT
    have ha := rightP_addA T l hr
    have hl := (rightP_iff.1 ha).1
    have hs := shortP_addA T l lS tS
    have hg := addA_ge T l hr
    simp only [F5_c0, lt_out, cond_false, wakes11]
    rw [ssame_r (by omega) _ _ (by omega) hs, leqP_self, sright_r (by omega) _ (by omega) hs, ha, le40, decide_eq_true hl, show ige (ofN (addA l T).length) (ofN l.length) = true from decide_eq_true (by simp only [ofN]; omega)]
    rfl
  | x :: r, p, n + 1, hT, h => by
    have hff := fuel_big
    have hb := congrArg List.length hT
    simp only [List.length_append, List.length_cons] at hb
    simp only [List.length_cons] at h
    have e1 : ilt (ofN p.length) (ofN T.length) = true := by rw [hT]; exact lt_in
    have e2 : inb (ofN p.length) T.length = true := by rw [hT]; exact inb_in
    have e3 : ∀ d, T.getD (ofN p.length).toNat d = x := fun d => by rw [hT]; exact get_in
    simp only [F5_c0, e1, e2, e3, cond_true]
    have pS : shortM p := fun y hy => tS y (by rw [hT]; simp [hy])
    have hx : (mw x).l.length < 1000 := tS x (by rw [hT]; simp)
    have hq := rightP_addA p l hr
    have hs := shortP_addA p l lS pS
    have hl := (rightP_iff.1 hq).1
    have hA : F19 FUEL (addA l p) [((x.1, x.2.1, x.2.2.1, x.2.2.2.1, x.2.2.2.2.1, x.2.2.2.2.2.1, x.2.2.2.2.2.2.1, x.2.2.2.2.2.2.2.1, x.2.2.2.2.2.2.2.2.1, x.2.2.2.2.2.2.2.2.2.1, x.2.2.2.2.2.2.2.2.2.2.1, x.2.2.2.2.2.2.2.2.2.2.2.1, x.2.2.2.2.2.2.2.2.2.2.2.2.1, x.2.2.2.2.2.2.2.2.2.2.2.2.2.1, x.2.2.2.2.2.2.2.2.2.2.2.2.2.2) : MT)] = some (addS (addA l p) (mw x)) := sadd_p (by omega) (addA l p) [x] (by omega) hs (by simp) (fun y hy => by simp only [List.mem_singleton] at hy; rw [hy]; exact hx)
    have hR : F25 FUEL x.1 x.2.1 x.2.2.1 x.2.2.2.1 x.2.2.2.2.1 x.2.2.2.2.2.1 x.2.2.2.2.2.2.1 x.2.2.2.2.2.2.2.1 x.2.2.2.2.2.2.2.2.1 x.2.2.2.2.2.2.2.2.2.1 x.2.2.2.2.2.2.2.2.2.2.1 x.2.2.2.2.2.2.2.2.2.2.2.1 x.2.2.2.2.2.2.2.2.2.2.2.2.1 x.2.2.2.2.2.2.2.2.2.2.2.2.2.1 x.2.2.2.2.2.2.2.2.2.2.2.2.2.2 = some (rightM (mw x)) := mright_r FUEL x.1 x.2.1 x.2.2.1 x.2.2.2.1 x.2.2.2.2.1 x.2.2.2.2.2.1 x.2.2.2.2.2.2.1 x.2.2.2.2.2.2.2.1 x.2.2.2.2.2.2.2.2.1 x.2.2.2.2.2.2.2.2.2.1 x.2.2.2.2.2.2.2.2.2.2.1 x.2.2.2.2.2.2.2.2.2.2.2.1 x.2.2.2.2.2.2.2.2.2.2.2.2.1 x.2.2.2.2.2.2.2.2.2.2.2.2.2.1 x.2.2.2.2.2.2.2.2.2.2.2.2.2.2 hx
    have hK : F26 FUEL x.1 x.2.1 x.2.2.1 x.2.2.2.1 x.2.2.2.2.1 x.2.2.2.2.2.1 x.2.2.2.2.2.2.1 x.2.2.2.2.2.2.2.1 x.2.2.2.2.2.2.2.2.1 x.2.2.2.2.2.2.2.2.2.1 x.2.2.2.2.2.2.2.2.2.2.1 x.2.2.2.2.2.2.2.2.2.2.2.1 x.2.2.2.2.2.2.2.2.2.2.2.2.1 x.2.2.2.2.2.2.2.2.2.2.2.2.2.1 x.2.2.2.2.2.2.2.2.2.2.2.2.2.2 = some (askB (mw x).k) := msgasks_r FUEL x.1 x.2.1 x.2.2.1 x.2.2.2.1 x.2.2.2.2.1 x.2.2.2.2.2.1 x.2.2.2.2.2.2.1 x.2.2.2.2.2.2.2.1 x.2.2.2.2.2.2.2.2.1 x.2.2.2.2.2.2.2.2.2.1 x.2.2.2.2.2.2.2.2.2.2.1 x.2.2.2.2.2.2.2.2.2.2.2.1 x.2.2.2.2.2.2.2.2.2.2.2.2.1 x.2.2.2.2.2.2.2.2.2.2.2.2.2.1 x.2.2.2.2.2.2.2.2.2.2.2.2.2.2
    have hS := shortP_addS (m := mw x) hs hx
    have hSl := (rightP_iff.1 (rightP_addS hq (mw x))).1
    have IH := adds_law hr lS tS hT6 r (p ++ [x]) n (by rw [hT]; simp) (by omega)
    rw [addA_app, ← add_in (x := x) (by omega)] at IH
    have IH2 : F5_c0 n l T (addA l T) (addS (addA l p) (mw x)) (iadd .i64 (ofN p.length) 1) = some true := IH
    rw [hA, hR, hK]
    simp only [Option.bind_some]
    rw [ssame_r (by omega) _ _ (by omega) hS, IH2]
    have no : toldP (mw x) = false → leqP (addS (addA l p) (mw x)) (addA l p) = true := fun h0 => by
      unfold addS; rw [h0]; exact leqP_self _
    unfold toldP at no
    cases h1 : rightM (mw x)
    · rw [no (by rw [h1]; rfl)]; rfl
    · cases h2 : askB (mw x).k
      · rfl
      · rw [no (by rw [h1, h2]; rfl)]; rfl
theorem plain_SeenAdds {n : Nat} (hn : 2000 < n) (l : List PT) (t : List MT) (hl : l.length ≤ 9223372036854775807) (ht : t.length ≤ 9223372036854775807) : F5 n l t = some true := by
  have hff := fuel_big
  unfold F5
  obtain ⟨b1, g1, k1⟩ := sgreat (n := FUEL) (by omega) l hl
  obtain ⟨b3, g3, k3⟩ := sgreatm (n := FUEL) (by omega) t ht
  rw [g1, g3, wakes11]
  cases b1
  case true => rfl
  cases b3
  case true => rfl
  obtain ⟨l6, ls⟩ := k1 rfl
  obtain ⟨t6, ts⟩ := k3 rfl
  have lS : shortP l := fun x hx => by have := ls x hx; omega
  have tS : shortM t := fun x hx => by have := ts x hx; omega
  simp only [Option.bind_some, cond_false]
  rw [sright_r (by omega) l (by omega) lS, sadd_p (by omega) l t l6 lS t6 tS]
  cases hr : rightP l
  · rfl
  · exact adds_law hr lS tS t6 t [] n rfl (by omega)

/-! ### Age. -/
theorem l40_self {l : List PT} (h : l.length ≤ 40) : l40 l = l := by unfold l40; rw [show l.length - 40 = 0 by omega]; rfl
theorem l40_app (l : List PT) (y : PT) : l40 (l ++ [y]) = l40 (l40 l ++ [y]) := by
  unfold l40
  simp only [List.length_append, List.length_drop, List.length_cons, List.length_nil]
  rw [← List.drop_append_of_le_length (by omega : l.length - 40 ≤ l.length), List.drop_drop]
  congr 1
  omega
theorem from_at (l : List PT) (h : l.length < 1000) : Int.toNat (maxI (isub .i64 (ofN l.length) 40) 0) = l.length - 40 := by
  have e : isub .i64 (ofN l.length) 40 = (l.length : Int) - 40 := by simp only [isub, ofN]; rw [wrap_mid (by omega) (by omega)]
  rw [e]; unfold maxI; split <;> omega
theorem from_ok (l : List PT) (h : l.length < 1000) : (inn (maxI (isub .i64 (ofN l.length) 40) 0) && true && inbs (Int.toNat (maxI (isub .i64 (ofN l.length) 40) 0)) l.length l.length) = true := by
  rw [from_at l h]
  have : 0 ≤ maxI (isub .i64 (ofN l.length) 40) 0 := by unfold maxI; split <;> omega
  simp [inn, inbs, this]
theorem from_cut (l : List PT) (h : l.length < 1000) : List.take (l.length - Int.toNat (maxI (isub .i64 (ofN l.length) 40) 0)) (List.drop (Int.toNat (maxI (isub .i64 (ofN l.length) 40) 0)) l) = l40 l := by
  rw [from_at l h, List.take_of_length_le (by rw [List.length_drop]; omega)]; rfl
theorem age_law {l : List PT} {T : List MT} (hr : rightP l = true) (lS : shortP l) (tS : shortM T) (hT6 : T.length ≤ 60) : ∀ (r p : List MT) (n : Nat) (a : List PT), T = p ++ r → r.length < n → a.length ≤ 60 + p.length → shortP a → l40 a = addA l p → F6_c0 n l T (ofN p.length) a = some true
  | _, _, 0, _, _, h, _, _, _ => by omega
  | [], p, n + 1, a, hT, h, ha, hs, he => by
    have hff := fuel_big
    rw [List.append_nil] at hT
    subst hT
    have hl := (rightP_iff.1 hr).1
    have hq := (rightP_iff.1 (rightP_addA T l hr)).1
    simp only [F6_c0, lt_out, cond_false, wakes11]
    rw [sadd_p (by omega) l T (by omega) lS hT6 tS, from_ok a (by omega), from_cut a (by omega), he]
    simp only [Option.bind_some, cond_true]
    rw [ssame_r (by omega) _ _ (by omega) (shortP_addA T l lS tS), leqP_self]
    rfl
  | x :: r, p, n + 1, a, hT, h, ha, hs, he => by
    have hff := fuel_big
    have hb := congrArg List.length hT
    simp only [List.length_append, List.length_cons] at hb
    simp only [List.length_cons] at h
    have e1 : ilt (ofN p.length) (ofN T.length) = true := by rw [hT]; exact lt_in
    have e2 : inb (ofN p.length) T.length = true := by rw [hT]; exact inb_in
    have e3 : ∀ d, T.getD (ofN p.length).toNat d = x := fun d => by rw [hT]; exact get_in
    simp only [F6_c0, e1, e2, e3, cond_true]
    have hx : (mw x).l.length < 1000 := tS x (by rw [hT]; simp)
    have ho : F12 FUEL x.1 x.2.1 x.2.2.1 x.2.2.2.1 x.2.2.2.2.1 x.2.2.2.2.2.1 x.2.2.2.2.2.2.1 x.2.2.2.2.2.2.2.1 x.2.2.2.2.2.2.2.2.1 x.2.2.2.2.2.2.2.2.2.1 x.2.2.2.2.2.2.2.2.2.2.1 x.2.2.2.2.2.2.2.2.2.2.2.1 x.2.2.2.2.2.2.2.2.2.2.2.2.1 x.2.2.2.2.2.2.2.2.2.2.2.2.2.1 x.2.2.2.2.2.2.2.2.2.2.2.2.2.2 = some (if toldP (mw x) then ⟨(mw x).t, (mw x).c, (mw x).k, (mw x).c, (mw x).f, (mw x).t, (mw x).key, (mw x).s, (mw x).d, (mw x).p, (mw x).pr, (mw x).l, (mw x).ik, (mw x).iv, (mw x).ir, (mw x).ig, (mw x).cd, 0⟩ else ⟨0, 0, 0, 0, 0, 0, 0, false, false, 0, 0, [], ByteArray.empty, 0, 0, false, 0, 2⟩) := of_r FUEL (mw x) hx
    have h4S : shortP (l40 a) := fun y hy => hs y (List.mem_of_mem_drop hy)
    have h4l : (l40 a).length < 1000 := by rw [l40_len]; omega
    have hfd := fun f c => find_r (n := FUEL) (by omega) (l40 a) f c h4l h4S
    have hi : iadd .i64 (ofN p.length) 1 = ofN (p ++ [x]).length := add_in (by omega)
    have hpx : (p ++ [x]).length = p.length + 1 := by simp
    have IH := fun a ha hs he => age_law hr lS tS hT6 r (p ++ [x]) n a (by rw [hT]; simp) (by omega) ha hs he
    have hstep : addA l (p ++ [x]) = addS (l40 a) (mw x) := by rw [addA_app, he]; rfl
    rw [ho, from_ok a (by omega), from_cut a (by omega), hi]
    simp only [Option.bind_some, cond_true]
    cases hp : toldP (mw x)
    · rw [if_neg (by simp)]
      simp only [hfd, Option.bind_some]
      rw [show ieq 2 0 = false from rfl, cond_false]
      exact IH a (by omega) hs (by rw [hstep]; unfold addS; rw [hp]; rfl)
    · rw [if_pos rfl]
      simp only [hfd, Option.bind_some, mkF_q]
      rw [show ieq 0 0 = true from rfl, cond_true]
      cases hk : (l40 a).any (isk (mw x).t (mw x).c)
      · rw [room_152 (by simp; omega)]
        simp only [Bool.not_false, cond_true]
        refine IH (a ++ [mkP (mw x)]) (by simp; omega) (fun y hy => ?_) (by rw [hstep, l40_app]; unfold addS; rw [hp, hk]; rfl)
        rcases List.mem_append.1 hy with hy | hy
        · exact hs y hy
        · simp only [List.mem_singleton] at hy; rw [hy]; exact hx
      · simp only [Bool.not_true, cond_false]
        exact IH a (by omega) hs (by rw [hstep]; unfold addS; rw [hp, hk]; rfl)
theorem plain_SeenAge {n : Nat} (hn : 2000 < n) (l : List PT) (t : List MT) (hl : l.length ≤ 9223372036854775807) (ht : t.length ≤ 9223372036854775807) : F6 n l t = some true := by
  have hff := fuel_big
  unfold F6
  obtain ⟨b1, g1, k1⟩ := sgreat (n := FUEL) (by omega) l hl
  obtain ⟨b3, g3, k3⟩ := sgreatm (n := FUEL) (by omega) t ht
  rw [g1, g3, wakes11]
  cases b1
  case true => rfl
  cases b3
  case true => rfl
  obtain ⟨l6, ls⟩ := k1 rfl
  obtain ⟨t6, ts⟩ := k3 rfl
  have lS : shortP l := fun x hx => by have := ls x hx; omega
  have tS : shortM t := fun x hx => by have := ts x hx; omega
  simp only [Option.bind_some, cond_false]
  rw [sright_r (by omega) l (by omega) lS, sown_r (by omega) l (by omega) lS]
  cases hr : rightP l
  · rfl
  · exact age_law hr lS tS t6 t [] n l rfl (by omega) (by omega) lS (l40_self (rightP_iff.1 hr).1)
end Go.Proofs.Ytcbhmedknbiffaa
