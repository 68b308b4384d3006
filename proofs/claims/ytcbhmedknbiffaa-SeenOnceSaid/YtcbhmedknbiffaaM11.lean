/-
  In plain words: what is told once (chapter 11).
-/
import Derived.Test.YtcbhmedknbiffaaL11
import Derived.Test.YtcbhmedknbiffaaPT
namespace Go.Proofs.Ytcbhmedknbiffaa
open Go Go.RowKit

theorem rightM_len {m : MW} (h : rightM m = true) : m.l.length ≤ 3 := by
  unfold rightM at h
  simp only [Bool.and_eq_true] at h
  have h1 := h.2.2.2.2.2.1
  have h2 := h.2.2.2.2.2.2
  by_cases hk : m.k = 7
  · unfold hasM at h2
    rw [hk] at h2
    simp at h2
    exact h2.2.2
  · unfold restM at h1
    simp [hk] at h1
    rw [h1.2.2.1.2]; simp
/-- What is told to a call. -/
def toldM (m : MW) (cd : Int) : MW := ⟨m.k + 6, m.c, m.t, m.f, 0, false, false, 0, 0, [], ByteArray.empty, 0, 0, false, cd⟩
theorem told_cd (k c f t : Int) (hk : askB k = true) (cd : Int) (h : k = 6 ∧ cd = 201 ∨ k ≠ 6 ∧ cd = 0) : (restM ⟨k + 6, c, t, f, 0, false, false, 0, 0, [], ByteArray.empty, 0, 0, false, cd⟩ && hasM ⟨k + 6, c, t, f, 0, false, false, 0, 0, [], ByteArray.empty, 0, 0, false, cd⟩) = true := by
  unfold askB at hk
  simp only [Bool.and_eq_true, decide_eq_true_eq] at hk
  have hk' : k = 1 ∨ k = 2 ∨ k = 3 ∨ k = 4 ∨ k = 5 ∨ k = 6 := by omega
  rcases h with ⟨rfl, rfl⟩ | ⟨h6, rfl⟩
  · simp [restM, hasM, noIt]
  · rcases hk' with rfl | rfl | rfl | rfl | rfl | rfl
    · simp [restM, hasM, noIt, lstB, isP]
    · simp [restM, hasM, noIt, lstB, isP]
    · simp [restM, hasM, noIt, lstB, isP]
    · simp [restM, hasM, noIt, lstB, isP]
    · simp [restM, hasM, noIt, lstB, isP]
    · exact absurd rfl h6
theorem rightM_toldM {m : MW} (h : rightM m = true) (hk : askB m.k = true) (cd : Int) (hc : m.k = 6 ∧ cd = 201 ∨ m.k ≠ 6 ∧ cd = 0) : rightM (toldM m cd) = true := by
  have h0 := told_cd m.k m.c m.f m.t hk cd hc
  have hk0 := hk
  unfold rightM at h
  simp only [Bool.and_eq_true, askerV, hk, if_true] at h
  obtain ⟨_, h2, h3, h4, h5, _⟩ := h
  unfold askB at hk
  simp only [Bool.and_eq_true, decide_eq_true_eq] at hk
  have e : askB (m.k + 6) = false := by
    unfold askB; rw [decide_eq_false (by omega : ¬ m.k + 6 ≤ 6), Bool.and_false]
  have hn' : ¬ m.t = m.f := fun h => by simp [h] at h4
  unfold rightM toldM
  simp only [askerV, e, Bool.false_eq_true, if_false, h2, h3, h5, decide_eq_false hn', Bool.not_false, Bool.true_and]
  rw [decide_eq_true (by omega : 1 ≤ m.k + 6), decide_eq_true (by omega : m.k + 6 < 13)]
  exact h0
theorem toldP_toldM {m : MW} (h : rightM m = true) (hk : askB m.k = true) (cd : Int) (hc : m.k = 6 ∧ cd = 201 ∨ m.k ≠ 6 ∧ cd = 0) : toldP (toldM m cd) = true := by
  unfold toldP
  rw [rightM_toldM h hk cd hc]
  unfold askB at hk ⊢
  simp only [Bool.and_eq_true, decide_eq_true_eq] at hk
  have e : decide (m.k + 6 ≤ 6) = false := decide_eq_false (by omega)
  show (true && !(decide (1 ≤ m.k + 6) && decide (m.k + 6 ≤ 6))) = true
  rw [e, Bool.and_false]; rfl
/-- What was told stays found. -/
theorem keep_law : ∀ (t : List MT) (q s : List PT) (y : PT), rightP (q ++ y :: s) = true → s.length + t.length ≤ 39 → ∃ q' s', addA (q ++ y :: s) t = q' ++ y :: s'
  | [], q, s, y, _, _ => ⟨q, s, rfl⟩
  | x :: r, q, s, y, hr, hl => by
    have hr2 := rightP_addS hr (mw x)
    have h40 := (rightP_iff.1 hr).1
    simp only [List.length_append, List.length_cons] at h40 hl
    show ∃ q' s', addA (addS (q ++ y :: s) (mw x)) r = q' ++ y :: s'
    have hor : addS (q ++ y :: s) (mw x) = q ++ y :: s ∨ ∃ q2, addS (q ++ y :: s) (mw x) = q2 ++ y :: (s ++ [mkP (mw x)]) := by
      unfold addS
      split
      · right
        have e : q ++ y :: s ++ [mkP (mw x)] = q ++ y :: (s ++ [mkP (mw x)]) := by simp
        rw [e]; unfold l40
        by_cases h4 : q.length + (s.length + 1) + 1 ≤ 40
        · exact ⟨q, by rw [show (q ++ y :: (s ++ [mkP (mw x)])).length - 40 = 0 by simp; omega]; rfl⟩
        · cases q with
          | nil => simp at h4; omega
          | cons q0 q1 =>
            refine ⟨q1, ?_⟩
            simp only [List.length_cons] at h40 h4
            rw [show (q0 :: q1 ++ y :: (s ++ [mkP (mw x)])).length - 40 = 1 by simp; omega]; rfl
      · exact .inl rfl
    rcases hor with h | ⟨q2, h⟩
    · rw [h]; exact keep_law r q s y hr (by omega)
    · rw [h] at hr2 ⊢
      exact keep_law r q2 (s ++ [mkP (mw x)]) y hr2 (by simp; omega)
theorem find_at {q s : List PT} {y : PT} (hr : rightP (q ++ y :: s) = true) : (q ++ y :: s).find? (isk y.1 y.2.1) = some y := by
  have hp := (rightP_iff.1 hr).2.2
  rw [List.pairwise_append] at hp
  obtain ⟨_, _, h⟩ := hp
  rw [List.find?_append]
  have e : q.find? (isk y.1 y.2.1) = none := by
    rw [List.find?_eq_none]; intro a ha
    rw [h a ha y (by simp)]; simp
  rw [e]
  have : isk y.1 y.2.1 y = true := isk_at.2 ⟨rfl, rfl⟩
  simp [this]
theorem once_find {l : List PT} {T : MW} {t : List MT} (hr : rightP l = true) (hT : toldP T = true) (ha : l.any (isk T.t T.c) = false) (ht : t.length ≤ 39) : (addS l T).find? (isk T.t T.c) = some (mkP T) ∧ (addA (addS l T) t).find? (isk T.t T.c) = some (mkP T) := by
  have hra := rightP_addS hr T
  have e : ∃ q, addS l T = q ++ mkP T :: [] := by
    unfold addS; rw [hT, ha]
    have hl := (rightP_iff.1 hr).1
    refine ⟨l.drop (l.length + 1 - 40), ?_⟩
    simp only [Bool.not_false, Bool.and_self, if_true]
    unfold l40
    rw [List.length_append, List.length_cons, List.length_nil, List.drop_append_of_le_length (by omega)]
  obtain ⟨q, e⟩ := e
  rw [e] at hra ⊢
  obtain ⟨q', s', e2⟩ := keep_law t q [] (mkP T) hra (by simpa using ht)
  have hrb := rightP_addA t _ hra
  refine ⟨find_at hra, ?_⟩
  rw [e2] at hrb ⊢
  exact find_at hrb
theorem plain_SeenOnce (n : Nat) (l : List PT) (m : MW) (t : List MT) (hl : l.length ≤ 9223372036854775807) (hml : m.l.length ≤ 9223372036854775807) (ht : t.length ≤ 9223372036854775807) : F4 n l m.k m.c m.f m.t m.key m.s m.d m.p m.pr m.l m.ik m.iv m.ir m.ig m.cd t = some true := by
  have hff := fuel_big
  unfold F4
  obtain ⟨b1, g1, k1⟩ := sgreat (n := FUEL) (by omega) l hl
  obtain ⟨b3, g3, k3⟩ := sgreatm (n := FUEL) (by omega) t ht
  rw [g1, g3, wakes11]
  cases b1
  case true => rfl
  cases b3
  case true => rfl
  obtain ⟨l6, ls⟩ := k1 rfl
  obtain ⟨t6, ts⟩ := k3 rfl
  have lS : shortP l := fun x hx => by have := ls x hx; omega
  have tS : shortM t := fun x hx => by have := ts x hx; omega
  simp only [Option.bind_some, cond_false]
  by_cases t39 : t.length ≤ 39
  case neg => rw [show ige (ofN t.length) 40 = true from decide_eq_true (by simp only [ofN]; omega)]; rfl
  rw [show ige (ofN t.length) 40 = false from decide_eq_false (by simp only [ofN]; omega), sright_r (by omega) l (by omega) lS]
  cases hr : rightP l
  · rfl
  have hRr : F25 FUEL m.k m.c m.f m.t m.key m.s m.d m.p m.pr m.l m.ik m.iv m.ir m.ig m.cd = some (rightM m) := mright_rl FUEL m.k m.c m.f m.t m.key m.s m.d m.p m.pr m.l m.ik m.iv m.ir m.ig m.cd hml
  have hKr : F26 FUEL m.k m.c m.f m.t m.key m.s m.d m.p m.pr m.l m.ik m.iv m.ir m.ig m.cd = some (askB m.k) := msgasks_r FUEL m.k m.c m.f m.t m.key m.s m.d m.p m.pr m.l m.ik m.iv m.ir m.ig m.cd
  rw [hRr, hKr]
  cases hR : rightM m
  · rfl
  cases hK : askB m.k
  · rfl
  have hm : m.l.length < 1000 := by have := rightM_len hR; omega
  have hTe : F27 FUEL m.k m.c m.f m.t m.key m.s m.d m.p m.pr m.l m.ik m.iv m.ir m.ig m.cd = some ⟨m.k + 6, m.c, m.t, m.f, 0, false, false, 0, 0, ByteArray.empty, 0, 0, false, 0⟩ := by
    have := tell_r FUEL m.k m.c m.f m.t m.key m.s m.d m.p m.pr m.l m.ik m.iv m.ir m.ig m.cd
    rw [hK] at this
    exact this
  rw [hTe, fresh_p FUEL l m (by omega) hm]
  simp only [Option.bind_some, cond_false, Bool.not_true]
  have hTl : ∀ cd, (toldM m cd).l.length < 1000 := fun cd => (show (0 : Nat) < 1000 by decide)
  have hAll : ∀ cd (o : List PT), o.length ≤ 60 → shortP o → F19 FUEL o [((m.k + 6, m.c, m.t, m.f, 0, false, false, 0, 0, [], ByteArray.empty, 0, 0, false, cd) : MT)] = some (addS o (toldM m cd)) := fun cd o h1 h2 => sadd_p (by omega) o [(m.k + 6, m.c, m.t, m.f, 0, false, false, 0, 0, [], ByteArray.empty, 0, 0, false, cd)] h1 h2 (by simp) (fun y hy => by simp only [List.mem_singleton] at hy; rw [hy]; exact hTl cd)
  by_cases k6 : m.k = 6
  · have hT := toldP_toldM hR hK 201 (Or.inl ⟨k6, rfl⟩)
    rw [show ieq m.k 6 = true from decide_eq_true k6, cond_true]
    have hTl := hTl 201
    have hAA := hAll 201
    have hA := hAA l l6 lS
    · cases hfr : freshP l m
      · have ha : l.any (isk m.f m.c) = true := by
          unfold freshP at hfr; rw [hR, hK] at hfr; simpa using hfr
        have hadd : addS l (toldM m 201) = l := by unfold addS; rw [show l.any (isk (toldM m 201).t (toldM m 201).c) = true from ha]; simp
        rw [hadd] at hA
        simp only [Bool.not_false, cond_true]
        rw [find_p l m.f m.c (by omega) lS]
        simp only [Option.bind_some, mkF_q, ha, cond_true]
        rw [hA]
        simp only [Option.bind_some]
        rw [ssame_r (by omega) l l (by omega) lS, leqP_self]
        rfl
      · have ha : l.any (isk m.f m.c) = false := by
          unfold freshP at hfr; rw [hR, hK] at hfr; simpa using hfr
        obtain ⟨z1, z2⟩ := once_find hr hT ha t39
        replace z1 : (addS l (toldM m 201)).find? (isk m.f m.c) = some (mkP (toldM m 201)) := z1
        replace z2 : (addA (addS l (toldM m 201)) t).find? (isk m.f m.c) = some (mkP (toldM m 201)) := z2
        have hra := rightP_addS hr (toldM m 201)
        have hrb := rightP_addA t _ hra
        have al := (rightP_iff.1 hra).1
        have bl := (rightP_iff.1 hrb).1
        have aS := shortP_addS (m := toldM m 201) lS hTl
        have bS := shortP_addA t _ aS tS
        have hb : F19 FUEL (addS l (toldM m 201)) t = some (addA (addS l (toldM m 201)) t) := sadd_p (by omega) _ t (by omega) aS t6 tS
        have hany : (addA (addS l (toldM m 201)) t).any (isk m.f m.c) = true := by
          rw [← mkF_q, z2]; rfl
        have hc0 := hAA (addA (addS l (toldM m 201)) t) (by omega) bS
        have hadd : addS (addA (addS l (toldM m 201)) t) (toldM m 201) = addA (addS l (toldM m 201)) t := by unfold addS; rw [show (addA (if (toldP (toldM m 201) && !l.any (isk (toldM m 201).t (toldM m 201).c)) = true then l40 (l ++ [mkP (toldM m 201)]) else l) t).any (isk (toldM m 201).t (toldM m 201).c) = true from hany]; simp
        rw [hadd] at hc0
        have hlen : (addS l (toldM m 201)).length = min (l.length + 1) 40 := by
          unfold addS; rw [hT, show l.any (isk (toldM m 201).t (toldM m 201).c) = false from ha]
          simp only [Bool.not_false, Bool.and_self, if_true, l40_len, List.length_append, List.length_cons, List.length_nil]
        have hf1 := find_p (n := FUEL) (addS l (toldM m 201)) m.f m.c (by omega) aS
        have hf2 := find_p (n := FUEL) (addA (addS l (toldM m 201)) t) m.f m.c (by omega) bS
        rw [z1] at hf1
        rw [z2] at hf2
        have hfb := fresh_p FUEL (addA (addS l (toldM m 201)) t) m (by omega) hm
        have hfb0 : freshP (addA (addS l (toldM m 201)) t) m = false := by unfold freshP; rw [hany, Bool.not_true, Bool.and_false, Bool.and_false]
        rw [hfb0] at hfb
        have hsb := ssame_r (n := FUEL) (by omega) (addA (addS l (toldM m 201)) t) (addA (addS l (toldM m 201)) t) (by omega) bS
        rw [leqP_self] at hsb
        have hrgb := sright_r (n := FUEL) (by omega) (addA (addS l (toldM m 201)) t) (by omega) bS
        rw [hrb] at hrgb
        have hmin : ieq (ofN (addS l (toldM m 201)).length) (minI (iadd .i64 (ofN l.length) 1) 40) = true := by
          have e : iadd .i64 (ofN l.length) 1 = (l.length : Int) + 1 := by simp only [iadd, ofN]; rw [wrap_mid (by omega) (by omega)]
          rw [hlen, e]
          have h2 : minI ((l.length : Int) + 1) 40 = ((min (l.length + 1) 40 : Nat) : Int) := by unfold minI; split <;> omega
          rw [h2, ieq_dec]; exact decide_eq_true rfl
        simp only [Bool.not_true, cond_false]
        rw [hA]
        simp only [Option.bind_some]
        rw [hb]
        simp only [Option.bind_some]
        rw [hc0, hf1, hf2]
        have hms : F15 FUEL (toldM m 201).k (toldM m 201).c (toldM m 201).f (toldM m 201).t (toldM m 201).key (toldM m 201).s (toldM m 201).d (toldM m 201).p (toldM m 201).pr (toldM m 201).l (toldM m 201).ik (toldM m 201).iv (toldM m 201).ir (toldM m 201).ig (toldM m 201).cd (toldM m 201).k (toldM m 201).c (toldM m 201).f (toldM m 201).t (toldM m 201).key (toldM m 201).s (toldM m 201).d (toldM m 201).p (toldM m 201).pr (toldM m 201).l (toldM m 201).ik (toldM m 201).iv (toldM m 201).ir (toldM m 201).ig (toldM m 201).cd = some true := msame_s (toldM m 201) hTl
        simp only [toldM] at hms hfb hsb hrgb hmin ⊢
        simp only [Option.bind_some, mkF, pm, mkP, Bool.not_true, cond_false]
        rw [hms, hfb, hsb, hrgb, hmin]
        rfl
  · have hT := toldP_toldM hR hK 0 (Or.inr ⟨k6, rfl⟩)
    rw [show ieq m.k 6 = false from decide_eq_false k6, cond_false]
    have hTl := hTl 0
    have hAA := hAll 0
    have hA := hAA l l6 lS
    · cases hfr : freshP l m
      · have ha : l.any (isk m.f m.c) = true := by
          unfold freshP at hfr; rw [hR, hK] at hfr; simpa using hfr
        have hadd : addS l (toldM m 0) = l := by unfold addS; rw [show l.any (isk (toldM m 0).t (toldM m 0).c) = true from ha]; simp
        rw [hadd] at hA
        simp only [Bool.not_false, cond_true]
        rw [find_p l m.f m.c (by omega) lS]
        simp only [Option.bind_some, mkF_q, ha, cond_true]
        rw [hA]
        simp only [Option.bind_some]
        rw [ssame_r (by omega) l l (by omega) lS, leqP_self]
        rfl
      · have ha : l.any (isk m.f m.c) = false := by
          unfold freshP at hfr; rw [hR, hK] at hfr; simpa using hfr
        obtain ⟨z1, z2⟩ := once_find hr hT ha t39
        replace z1 : (addS l (toldM m 0)).find? (isk m.f m.c) = some (mkP (toldM m 0)) := z1
        replace z2 : (addA (addS l (toldM m 0)) t).find? (isk m.f m.c) = some (mkP (toldM m 0)) := z2
        have hra := rightP_addS hr (toldM m 0)
        have hrb := rightP_addA t _ hra
        have al := (rightP_iff.1 hra).1
        have bl := (rightP_iff.1 hrb).1
        have aS := shortP_addS (m := toldM m 0) lS hTl
        have bS := shortP_addA t _ aS tS
        have hb : F19 FUEL (addS l (toldM m 0)) t = some (addA (addS l (toldM m 0)) t) := sadd_p (by omega) _ t (by omega) aS t6 tS
        have hany : (addA (addS l (toldM m 0)) t).any (isk m.f m.c) = true := by
          rw [← mkF_q, z2]; rfl
        have hc0 := hAA (addA (addS l (toldM m 0)) t) (by omega) bS
        have hadd : addS (addA (addS l (toldM m 0)) t) (toldM m 0) = addA (addS l (toldM m 0)) t := by unfold addS; rw [show (addA (if (toldP (toldM m 0) && !l.any (isk (toldM m 0).t (toldM m 0).c)) = true then l40 (l ++ [mkP (toldM m 0)]) else l) t).any (isk (toldM m 0).t (toldM m 0).c) = true from hany]; simp
        rw [hadd] at hc0
        have hlen : (addS l (toldM m 0)).length = min (l.length + 1) 40 := by
          unfold addS; rw [hT, show l.any (isk (toldM m 0).t (toldM m 0).c) = false from ha]
          simp only [Bool.not_false, Bool.and_self, if_true, l40_len, List.length_append, List.length_cons, List.length_nil]
        have hf1 := find_p (n := FUEL) (addS l (toldM m 0)) m.f m.c (by omega) aS
        have hf2 := find_p (n := FUEL) (addA (addS l (toldM m 0)) t) m.f m.c (by omega) bS
        rw [z1] at hf1
        rw [z2] at hf2
        have hfb := fresh_p FUEL (addA (addS l (toldM m 0)) t) m (by omega) hm
        have hfb0 : freshP (addA (addS l (toldM m 0)) t) m = false := by unfold freshP; rw [hany, Bool.not_true, Bool.and_false, Bool.and_false]
        rw [hfb0] at hfb
        have hsb := ssame_r (n := FUEL) (by omega) (addA (addS l (toldM m 0)) t) (addA (addS l (toldM m 0)) t) (by omega) bS
        rw [leqP_self] at hsb
        have hrgb := sright_r (n := FUEL) (by omega) (addA (addS l (toldM m 0)) t) (by omega) bS
        rw [hrb] at hrgb
        have hmin : ieq (ofN (addS l (toldM m 0)).length) (minI (iadd .i64 (ofN l.length) 1) 40) = true := by
          have e : iadd .i64 (ofN l.length) 1 = (l.length : Int) + 1 := by simp only [iadd, ofN]; rw [wrap_mid (by omega) (by omega)]
          rw [hlen, e]
          have h2 : minI ((l.length : Int) + 1) 40 = ((min (l.length + 1) 40 : Nat) : Int) := by unfold minI; split <;> omega
          rw [h2, ieq_dec]; exact decide_eq_true rfl
        simp only [Bool.not_true, cond_false]
        rw [hA]
        simp only [Option.bind_some]
        rw [hb]
        simp only [Option.bind_some]
        rw [hc0, hf1, hf2]
        have hms : F15 FUEL (toldM m 0).k (toldM m 0).c (toldM m 0).f (toldM m 0).t (toldM m 0).key (toldM m 0).s (toldM m 0).d (toldM m 0).p (toldM m 0).pr (toldM m 0).l (toldM m 0).ik (toldM m 0).iv (toldM m 0).ir (toldM m 0).ig (toldM m 0).cd (toldM m 0).k (toldM m 0).c (toldM m 0).f (toldM m 0).t (toldM m 0).key (toldM m 0).s (toldM m 0).d (toldM m 0).p (toldM m 0).pr (toldM m 0).l (toldM m 0).ik (toldM m 0).iv (toldM m 0).ir (toldM m 0).ig (toldM m 0).cd = some true := msame_s (toldM m 0) hTl
        simp only [toldM] at hms hfb hsb hrgb hmin ⊢
        simp only [Option.bind_some, mkF, pm, mkP, Bool.not_true, cond_false]
        rw [hms, hfb, hsb, hrgb, hmin]
        rfl
end Go.Proofs.Ytcbhmedknbiffaa
