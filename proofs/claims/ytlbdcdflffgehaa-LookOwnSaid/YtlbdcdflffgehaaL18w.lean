/-
  Chapter 18, in plain words: looks.
-/
import Derived.Test.YtlbdcdflffgehaaPLw
namespace Go.Proofs.Ytlbdcdflffgehaa
open Go Go.RowKit

theorem wakes18 : F30 FUEL = some true := by kernel_rfl
theorem beqb_self (b : Bool) : beqb b b = true := by cases b <;> rfl
theorem ieq_self (b : Int) : ieq b b = true := by simp [ieq]

theorem lgreat (n : Nat) (a0 : Int) (a1 a2 : List Int) (a3 a4 a5 a6 a7 a8 a9 a10 a11 a12 a13 a14 a15 a16 a17 a18 a19 : Int) (m0 : Int) (m1 : Int) (m2 : Int) (m3 : Int) (m4 : Int) (m5 : Bool) (m6 : Bool) (m7 : Int) (m8 : Int) (m9 : List Int) (m10 : ByteArray) (m11 : Int) (m12 : Int) (m13 : Bool) (m14 : Int) : F29 n a0 a1 a2 a3 a4 a5 a6 a7 a8 a9 a10 a11 a12 a13 a14 a15 a16 a17 a18 a19 m0 m1 m2 m3 m4 m5 m6 m7 m8 m9 m10 m11 m12 m13 m14 = some ((decide (20 < a1.length) || decide (20 < a2.length)) || (decide (20 < m9.length) || decide (100 < m10.size))) := by
  unfold F29
  rw [vgreat, Option.bind_some]
  have e1 : igt (ofN m9.length) 20 = decide (20 < m9.length) := by unfold igt ofN; apply decide_eq_decide.2; omega
  have e2 : igt (stlen m10) 100 = decide (100 < m10.size) := by unfold igt stlen; apply decide_eq_decide.2; omega
  rw [e1, e2, lad3, lad3]
theorem lgreat_cases {a1 a2 l : List Int} {k : ByteArray} (h : ((decide (20 < a1.length) || decide (20 < a2.length)) || (decide (20 < l.length) || decide (100 < k.size))) = false) : a2.length ≤ 20 ∧ l.length ≤ 20 := by
  simp only [Bool.or_eq_false_iff, decide_eq_false_iff_not] at h
  omega

theorem plain_LookTells (n : Nat) (a0 : Int) (a1 a2 : List Int) (a3 a4 a5 a6 a7 a8 a9 a10 a11 a12 a13 a14 a15 a16 a17 a18 a19 : Int) (k t h : Int) (s f : Bool) (c : Int) (m0 : Int) (m1 : Int) (m2 : Int) (m3 : Int) (m4 : Int) (m5 : Bool) (m6 : Bool) (m7 : Int) (m8 : Int) (m9 : List Int) (m10 : ByteArray) (m11 : Int) (m12 : Int) (m13 : Bool) (m14 : Int) (key : Int) : F8 n a0 a1 a2 a3 a4 a5 a6 a7 a8 a9 a10 a11 a12 a13 a14 a15 a16 a17 a18 a19 k t h s f c m0 m1 m2 m3 m4 m5 m6 m7 m8 m9 m10 m11 m12 m13 m14 key = some true := by
  unfold F8
  have hf := fuel_big
  rw [lgreat, wakes18, Option.bind_some]
  cases hg : ((decide (20 < a1.length) || decide (20 < a2.length)) || (decide (20 < m9.length) || decide (100 < m10.size)))
  · obtain ⟨g2, g3⟩ := lgreat_cases hg
    rw [cond_false, lask_p, lask_r, begin_p, begin_r FUEL a0 a1 a2 a3 a4 a5 a6 a7 a8 a9 a10 a11 a12 a13 a14 a15 a16 a17 a18 a19 key (by omega), told_p (by omega) a0 a1 a2 a3 a4 a5 a6 a7 a8 a9 a10 a11 a12 a13 a14 a15 a16 a17 a18 a19 k t h s f c m0 m1 m2 m3 m4 m5 m6 m7 m8 m9 m10 m11 m12 m13 m14 (by omega), told_r FUEL a0 a1 a2 a3 a4 a5 a6 a7 a8 a9 a10 a11 a12 a13 a14 a15 a16 a17 a18 a19 k t h s f c m0 m1 m2 m3 m4 m5 m6 m7 m8 m9 m10 m11 m12 m13 m14 (by omega) (by omega), again_p (by omega), again_r FUEL a0 a1 a2 a3 a4 a5 a6 a7 a8 a9 a10 a11 a12 a13 a14 a15 a16 a17 a18 a19 k t h s f c (by omega), lright_p, lright_r, lover_p, lover_r]
    simp only [Option.bind_some, ieq_self, beqb_self, Bool.and_self, cond_true]
    rw [msame_r (by simp; omega) (by simp), sameM_self]
    simp only [Option.bind_some, cond_true]
  · rfl

/-! ### The own place. -/
theorem upt_pl (w y x : Int) : upt w y (pl x) = upt w y x := by
  unfold upt cut
  have e : pl (pl x) = pl x := by unfold pl; omega
  rw [fr_pr, e]
theorem cut_ply (w y x : Int) : cut w (pl y) x = cut w y x := by unfold cut; rw [fr_pr]
theorem nxt_pl (id k : Int) : ∀ (l : List Int) (p : Int), nxt id (pl k) p l = nxt id k p l
  | [], _ => rfl
  | x :: l, p => by rw [nxt, nxt, cut_ply, nxt_pl id k l]
theorem nextV_pl (v : VW) (k : Int) (s : Bool) : nextV v (pl k) s = nextV v k s := by
  unfold nextV; rw [upt_pl, nxt_pl]
/-- What is told of where on. -/
def tellL (f t p : Int) (d : Bool) : MW := ⟨10, t * 1048576 + 1, f, t, 0, false, d, p, 0, [], ByteArray.empty, 0, 0, false, 0⟩
theorem callB_one (a : Int) : callB a (a * 1048576 + 1) = true := by
  unfold callB; rw [decide_eq_true (by omega), decide_eq_true (by omega)]; rfl
theorem hop_right {c t f p : Int} {d : Bool} (hf : isP f = true) (ht : isP t = true) (hn : t ≠ f) (hp : isP p = true) (hc : callB f c = true) : rightM ⟨10, c, t, f, 0, false, d, p, 0, [], ByteArray.empty, 0, 0, false, 0⟩ = true := by
  have e : askB 10 = false := by decide
  unfold rightM
  simp only [askerV, e, Bool.false_eq_true, if_false, hf, ht, decide_eq_false hn, restM, hasM, noIt, hc, hp]
  simp
theorem tellL_right {f t p : Int} {d : Bool} (hf : isP f = true) (ht : isP t = true) (hn : f ≠ t) (hp : isP p = true) : rightM (tellL f t p d) = true := hop_right ht hf hn hp (callB_one t)
theorem tell_l (n : Nat) {t : Int} (ht : isP t = true) (f p : Int) (d : Bool) : F43 n f t p d = some ⟨10, t * 1048576 + 1, f, t, 0, false, d, p, 0, ByteArray.empty, 0, 0, false, 0⟩ := by
  unfold F43
  rw [call_num ht (by omega) (by omega)]
/-- A message that counts, of a look that is open. -/
theorem told_counts {v : VW} {l : LW} {p : Int} {d : Bool} (hv : rightV v = true) (hl : rightL l = true) (ho : overL l = false) (hne : l.at' ≠ v.id) (hp : isP p = true) :
    toldV v l (tellL l.at' v.id p d) = bif decide (40 < l.hops + 1) then { stepL l with code := 211 } else onV v (stepL l) p d := by
  unfold toldV cntL
  have ha : isP l.at' = true := by unfold rightL at hl; simp only [Bool.and_eq_true] at hl; exact hl.2.1
  rw [hv, hl, ho, tellL_right ha (rightV_parts hv).1 hne hp]
  have e1 : (tellL l.at' v.id p d).k = 10 := rfl
  have e2 : (tellL l.at' v.id p d).f = l.at' := rfl
  have e3 : (tellL l.at' v.id p d).t = v.id := rfl
  rw [e1, e2, e3]
  simp only [decide_true, Bool.not_false, Bool.and_self, cond_true]; rfl
theorem onV_right {v : VW} {l : LW} {p : Int} {o : Bool} (hv : rightV v = true) (hk : isP l.key = true) (h0 : 0 ≤ l.hops) (h1 : l.hops ≤ 40) (hc : l.code = 0) (hp : isP p = true) : rightL (onV v l p o) = true ∧ (overL (onV v l p o) = false → (onV v l p o).at' ≠ v.id) ∧ (onV v l p o).key = l.key ∧ (onV v l p o).hops = l.hops ∧ (onV v l p o).code = 0 ∧ (onV v l p o).slow = l.slow := by
  obtain ⟨n1, n2, _⟩ := nextV_ok (k := l.key) (s := l.slow) hv
  unfold onV rightL overL
  by_cases h2 : p = v.id
  · cases o
    · rw [decide_eq_true h2]
      simp only [Bool.not_false, Bool.and_self, cond_true]
      refine ⟨?_, fun _ => n2, by simp [hc]⟩
      rw [hk, n1, decide_eq_true h0, decide_eq_true (by omega : l.hops ≤ 41), decide_eq_false (by omega : ¬ 40 < l.hops), hc]; rfl
    · rw [decide_eq_true h2]
      simp only [Bool.not_true, Bool.and_false, cond_false]
      refine ⟨?_, fun h => by simp at h, by simp [hc]⟩
      rw [hk, hp, decide_eq_true h0, decide_eq_true (by omega : l.hops ≤ 41), decide_eq_false (by omega : ¬ 40 < l.hops), hc]; rfl
  · rw [decide_eq_false h2]
    simp only [Bool.false_and, cond_false]
    refine ⟨?_, fun _ => h2, by simp [hc]⟩
    rw [hk, hp, decide_eq_true h0, decide_eq_true (by omega : l.hops ≤ 41), decide_eq_false (by omega : ¬ 40 < l.hops), hc]; rfl
theorem begin_right {v : VW} {key : Int} (hv : rightV v = true) : rightL (beginV v key) = true ∧ (beginV v key).at' ≠ v.id ∧ (beginV v key).key = pl key ∧ (beginV v key).hops = 0 := by
  obtain ⟨n1, n2, _⟩ := nextV_ok (k := pl key) (s := false) hv
  unfold beginV rightL
  rw [hv, cond_true]
  refine ⟨?_, n2, rfl, rfl⟩
  simp only
  rw [isP_of_pl, n1]; rfl

theorem plain_LookOwn (n : Nat) (a0 : Int) (a1 a2 : List Int) (a3 a4 a5 a6 a7 a8 a9 a10 a11 a12 a13 a14 a15 a16 a17 a18 a19 : Int) (key : Int) (hl : a2.length ≤ 9223372036854775807) : F12 n a0 a1 a2 a3 a4 a5 a6 a7 a8 a9 a10 a11 a12 a13 a14 a15 a16 a17 a18 a19 key = some true := by
  unfold F12
  have hf := fuel_big
  rw [viewR_r (by omega) a0 a1 a2 a3 a4 a5 a6 a7 a8 a9 a10 a11 a12 a13 a14 a15 a16 a17 a18 a19 hl, wakes18, begin_p, rnext_r (by omega) a0 a1 a2 a3 a4 a5 a6 a7 a8 a9 a10 a11 a12 a13 a14 a15 a16 a17 a18 a19 key false hl]
  simp only [Option.bind_some]
  cases hr : rightV ⟨a0, a1, a2, a3, a4, a5, a6, a7, a8, a9, a10, a11, a12, a13, a14, a15, a16, a17, a18, a19⟩
  · have : beginV ⟨a0, a1, a2, a3, a4, a5, a6, a7, a8, a9, a10, a11, a12, a13, a14, a15, a16, a17, a18, a19⟩ key = ⟨0, 0, 0, false, false, 0⟩ := by unfold beginV; rw [hr]; rfl
    rw [this]; rfl
  · obtain ⟨n1, n2, _⟩ := nextV_ok (k := key) (s := false) hr
    obtain ⟨b1, b2, b3, b4⟩ := begin_right (key := key) hr
    have hb : beginV ⟨a0, a1, a2, a3, a4, a5, a6, a7, a8, a9, a10, a11, a12, a13, a14, a15, a16, a17, a18, a19⟩ key = ⟨pl key, (nextV ⟨a0, a1, a2, a3, a4, a5, a6, a7, a8, a9, a10, a11, a12, a13, a14, a15, a16, a17, a18, a19⟩ key false).1, 0, false, (nextV ⟨a0, a1, a2, a3, a4, a5, a6, a7, a8, a9, a10, a11, a12, a13, a14, a15, a16, a17, a18, a19⟩ key false).2, 0⟩ := by unfold beginV; rw [hr, nextV_pl]; rfl
    have hid : isP a0 = true := (rightV_parts hr).1
    rw [hb] at b1 b2 ⊢
    have hp := nextV_pl ⟨a0, a1, a2, a3, a4, a5, a6, a7, a8, a9, a10, a11, a12, a13, a14, a15, a16, a17, a18, a19⟩ key false
    generalize nextV ⟨a0, a1, a2, a3, a4, a5, a6, a7, a8, a9, a10, a11, a12, a13, a14, a15, a16, a17, a18, a19⟩ key false = w at *
    obtain ⟨p, o⟩ := w
    simp only at n1 n2 b1 b2 hp ⊢
    have e0 : ine p p = false := by simp [ine]
    have e00 : ine 0 0 = false := rfl
    simp only [Bool.not_true, cond_false, e0, e00, bneb_dec, decide_true]
    cases o
    · simp only [cond_false]
      rw [tell_l FUEL hid, tell_l FUEL hid]
      simp only [Option.bind_some]
      have t1 := told_counts (d := false) (p := a0) hr b1 (by rfl) b2 hid
      have t2 := told_counts (d := true) (p := a0) hr b1 (by rfl) b2 hid
      have h41 : decide ((40 : Int) < 0 + 1) = false := by decide
      simp only [stepL, h41, cond_false, onV, decide_true, Bool.not_false, Bool.and_self, cond_true, hp, Bool.not_true, Bool.and_false, tellL] at t1 t2
      rw [told_p (by omega) a0 a1 a2 a3 a4 a5 a6 a7 a8 a9 a10 a11 a12 a13 a14 a15 a16 a17 a18 a19 (pl key) p 0 false false 0 10 (a0 * 1048576 + 1) p a0 0 false false a0 0 [] ByteArray.empty 0 0 false 0 (by simp), told_p (by omega) a0 a1 a2 a3 a4 a5 a6 a7 a8 a9 a10 a11 a12 a13 a14 a15 a16 a17 a18 a19 (pl key) p 0 false false 0 10 (a0 * 1048576 + 1) p a0 0 false true a0 0 [] ByteArray.empty 0 0 false 0 (by simp), t1, t2]
      simp only [Option.bind_some, ieq_self, beqb_self, cond_true]; rfl
    · rfl

/-! ### What does not count. -/
theorem again_right {v : VW} {l : LW} (hv : rightV v = true) (hl : rightL l = true) (ho : overL l = false) : rightL (againV v l) = true ∧ (overL (againV v l) = false → (againV v l).at' ≠ v.id) ∧ (againV v l).key = l.key ∧ (againV v l).hops = l.hops + 1 ∧
    (40 ≤ l.hops → (againV v l).code = 211 ∧ (againV v l).slow = l.slow) ∧ (l.hops < 40 → (againV v l).code = 0 ∧ (againV v l).slow = true) := by
  obtain ⟨h1, h2, h3⟩ := rightL_open hl ho
  obtain ⟨h0, _⟩ := rightL_hops hl
  have hk : isP l.key = true ∧ isP l.at' = true := by unfold rightL at hl; simp only [Bool.and_eq_true] at hl; exact ⟨hl.1, hl.2.1⟩
  unfold againV
  rw [hv, hl, ho]
  simp only [Bool.not_false, Bool.and_self, cond_true]
  by_cases h4 : 40 < l.hops + 1
  · rw [decide_eq_true h4, cond_true]
    refine ⟨?_, fun h => ?_, rfl, rfl, fun _ => ⟨rfl, rfl⟩, fun _ => by omega⟩
    · unfold rightL stepL
      simp only
      rw [hk.1, hk.2, decide_eq_true (by omega : 0 ≤ l.hops + 1), decide_eq_true (by omega : l.hops + 1 ≤ 41), decide_eq_true h4, h3]; rfl
    · unfold overL stepL at h; simp at h
  · rw [decide_eq_false h4, cond_false]
    obtain ⟨a1, a2, a3, a4, a5, a6⟩ := onV_right (v := v) (l := { stepL l with slow := true }) (p := v.id) (o := false) hv hk.1 (by simp only [stepL]; omega) (by simp only [stepL]; omega) h2 (rightV_parts hv).1
    exact ⟨a1, a2, a3, a4, fun _ => by omega, fun _ => ⟨a5, a6⟩⟩
theorem told_right {v : VW} {l : LW} {p : Int} {d : Bool} (hv : rightV v = true) (hl : rightL l = true) (ho : overL l = false) (hp : isP p = true) :
    let x := bif decide (40 < l.hops + 1) then { stepL l with code := 211 } else onV v (stepL l) p d
    rightL x = true ∧ (overL x = false → x.at' ≠ v.id) ∧ x.key = l.key ∧ x.hops = l.hops + 1 ∧ (40 ≤ l.hops → x.code = 211 ∧ x.found = false) ∧ x.slow = l.slow ∧ (x.found = true → x.at' = p ∨ p = v.id) := by
  obtain ⟨h1, h2, h3⟩ := rightL_open hl ho
  obtain ⟨h0, _⟩ := rightL_hops hl
  have hk : isP l.key = true ∧ isP l.at' = true := by unfold rightL at hl; simp only [Bool.and_eq_true] at hl; exact ⟨hl.1, hl.2.1⟩
  by_cases h4 : 40 < l.hops + 1
  · rw [decide_eq_true h4, cond_true]
    refine ⟨?_, fun h => ?_, rfl, rfl, fun _ => ⟨rfl, h3⟩, rfl, fun h => ?_⟩
    · unfold rightL stepL
      simp only
      rw [hk.1, hk.2, decide_eq_true (by omega : 0 ≤ l.hops + 1), decide_eq_true (by omega : l.hops + 1 ≤ 41), decide_eq_true h4, h3]; rfl
    · unfold overL stepL at h; simp at h
    · simp only [stepL] at h; rw [h3] at h; cases h
  · rw [decide_eq_false h4, cond_false]
    obtain ⟨a1, a2, a3, a4, a5, a6⟩ := onV_right (v := v) (l := stepL l) (p := p) (o := d) hv hk.1 (by simp only [stepL]; omega) (by simp only [stepL]; omega) h2 hp
    refine ⟨a1, a2, a3, a4, fun _ => by omega, a6, fun h => ?_⟩
    by_cases h5 : p = v.id
    · exact .inr h5
    · left
      unfold onV; rw [decide_eq_false h5]; rfl
theorem rightM_hop {m : MW} (h : rightM m = true) (hk : m.k = 10) : isP m.p = true := by
  unfold rightM hasM at h
  simp only [Bool.and_eq_true, hk] at h
  exact h.2.2.2.2.2.2

theorem plain_LookNot (n : Nat) (a0 : Int) (a1 a2 : List Int) (a3 a4 a5 a6 a7 a8 a9 a10 a11 a12 a13 a14 a15 a16 a17 a18 a19 : Int) (k t h : Int) (s f : Bool) (c : Int) (m0 : Int) (m1 : Int) (m2 : Int) (m3 : Int) (m4 : Int) (m5 : Bool) (m6 : Bool) (m7 : Int) (m8 : Int) (m9 : List Int) (m10 : ByteArray) (m11 : Int) (m12 : Int) (m13 : Bool) (m14 : Int) (hv : a2.length ≤ 9223372036854775807) : F11 n a0 a1 a2 a3 a4 a5 a6 a7 a8 a9 a10 a11 a12 a13 a14 a15 a16 a17 a18 a19 k t h s f c m0 m1 m2 m3 m4 m5 m6 m7 m8 m9 m10 m11 m12 m13 m14 = some true := by
  unfold F11
  have hf := fuel_big
  rw [viewR_r (by omega) a0 a1 a2 a3 a4 a5 a6 a7 a8 a9 a10 a11 a12 a13 a14 a15 a16 a17 a18 a19 hv, wakes18, lgreat]
  simp only [Option.bind_some]
  cases hr : rightV ⟨a0, a1, a2, a3, a4, a5, a6, a7, a8, a9, a10, a11, a12, a13, a14, a15, a16, a17, a18, a19⟩
  · rfl
  simp only [Bool.not_true, cond_false]
  cases hg : ((decide (20 < a1.length) || decide (20 < a2.length)) || (decide (20 < m9.length) || decide (100 < m10.size)))
  · obtain ⟨g2, g3⟩ := lgreat_cases hg
    rw [cond_false, told_p (by omega) a0 a1 a2 a3 a4 a5 a6 a7 a8 a9 a10 a11 a12 a13 a14 a15 a16 a17 a18 a19 k t h s f c m0 m1 m2 m3 m4 m5 m6 m7 m8 m9 m10 m11 m12 m13 m14 (by omega), again_p (by omega), lright_r, mright_r FUEL m0 m1 m2 m3 m4 m5 m6 m7 m8 m9 m10 m11 m12 m13 m14 (by omega)]
    simp only [Option.bind_some, lright_p]
    have stay : ∀ l : LW, (rightL l && !overL l) = false → toldV ⟨a0, a1, a2, a3, a4, a5, a6, a7, a8, a9, a10, a11, a12, a13, a14, a15, a16, a17, a18, a19⟩ l ⟨m0, m1, m2, m3, m4, m5, m6, m7, m8, m9, m10, m11, m12, m13, m14⟩ = l ∧ againV ⟨a0, a1, a2, a3, a4, a5, a6, a7, a8, a9, a10, a11, a12, a13, a14, a15, a16, a17, a18, a19⟩ l = l := by
      intro l hl
      unfold toldV cntL againV
      rw [hl]; simp
    cases hl : rightL ⟨k, t, h, s, f, c⟩
    · obtain ⟨s1, s2⟩ := stay ⟨k, t, h, s, f, c⟩ (by rw [hl]; rfl)
      rw [s1, s2]
      simp only [ieq_self, beqb_self, Bool.and_self, Bool.not_true, cond_false, cond_true]
      cases f
      · cases ine c 0 <;> rfl
      · rfl
    · cases ho : overL ⟨k, t, h, s, f, c⟩
      · obtain ⟨o1, o2, o3⟩ := rightL_open hl ho
        obtain ⟨h0, _⟩ := rightL_hops hl
        simp only at o1 o2 o3 h0
        subst o2; subst o3
        rw [inc_hops h0 (by omega)]
        obtain ⟨r1, _, r3, r4, r5, r6⟩ := again_right hr hl ho
        simp only at r3 r4 r5 r6
        have r1' : rightL ⟨(againV ⟨a0, a1, a2, a3, a4, a5, a6, a7, a8, a9, a10, a11, a12, a13, a14, a15, a16, a17, a18, a19⟩ ⟨k, t, h, s, false, 0⟩).key, (againV ⟨a0, a1, a2, a3, a4, a5, a6, a7, a8, a9, a10, a11, a12, a13, a14, a15, a16, a17, a18, a19⟩ ⟨k, t, h, s, false, 0⟩).at', (againV ⟨a0, a1, a2, a3, a4, a5, a6, a7, a8, a9, a10, a11, a12, a13, a14, a15, a16, a17, a18, a19⟩ ⟨k, t, h, s, false, 0⟩).hops, (againV ⟨a0, a1, a2, a3, a4, a5, a6, a7, a8, a9, a10, a11, a12, a13, a14, a15, a16, a17, a18, a19⟩ ⟨k, t, h, s, false, 0⟩).slow, (againV ⟨a0, a1, a2, a3, a4, a5, a6, a7, a8, a9, a10, a11, a12, a13, a14, a15, a16, a17, a18, a19⟩ ⟨k, t, h, s, false, 0⟩).found, (againV ⟨a0, a1, a2, a3, a4, a5, a6, a7, a8, a9, a10, a11, a12, a13, a14, a15, a16, a17, a18, a19⟩ ⟨k, t, h, s, false, 0⟩).code⟩ = true := r1
        generalize againV ⟨a0, a1, a2, a3, a4, a5, a6, a7, a8, a9, a10, a11, a12, a13, a14, a15, a16, a17, a18, a19⟩ ⟨k, t, h, s, false, 0⟩ = Y at *
        rw [r4] at r1'
        have y1 : beqb (ieq Y.code 211) (ige h 40) = true ∧ (Y.slow = true ∨ ieq Y.code 211 = true) := by
          by_cases h4 : 40 ≤ h
          · rw [(r5 h4).1, show ige h 40 = true from decide_eq_true h4]; exact ⟨rfl, .inr rfl⟩
          · rw [(r6 (by omega)).1, show ige h 40 = false from decide_eq_false h4]; exact ⟨rfl, .inl (r6 (by omega)).2⟩
        have e00 : ine 0 0 = false := rfl
        have e01 : ieq 0 0 = true := rfl
        cases hc : cntL ⟨a0, a1, a2, a3, a4, a5, a6, a7, a8, a9, a10, a11, a12, a13, a14, a15, a16, a17, a18, a19⟩ ⟨k, t, h, s, false, 0⟩ ⟨m0, m1, m2, m3, m4, m5, m6, m7, m8, m9, m10, m11, m12, m13, m14⟩
        · have hx : toldV ⟨a0, a1, a2, a3, a4, a5, a6, a7, a8, a9, a10, a11, a12, a13, a14, a15, a16, a17, a18, a19⟩ ⟨k, t, h, s, false, 0⟩ ⟨m0, m1, m2, m3, m4, m5, m6, m7, m8, m9, m10, m11, m12, m13, m14⟩ = ⟨k, t, h, s, false, 0⟩ := by unfold toldV; rw [hc]; rfl
          rw [hx]
          unfold cntL at hc
          rw [hr, hl, ho] at hc
          simp only [Bool.not_false, Bool.and_self, Bool.true_and] at hc
          simp only [ieq_dec] at y1
          simp only [ieq_self, beqb_self, Bool.and_self, Bool.not_true, Bool.not_false, cond_false, cond_true, e00, e01, hl, r4, r1', y1.1, ieq_dec]
          rcases y1.2 with y2 | y2
          · rw [y2]
            cases hm : rightM ⟨m0, m1, m2, m3, m4, m5, m6, m7, m8, m9, m10, m11, m12, m13, m14⟩
            · rfl
            · rw [hm] at hc
              by_cases k1 : m0 = 10
              · by_cases k2 : m2 = t
                · by_cases k3 : m3 = a0
                  · simp [k1, k2, k3] at hc
                  · simp [k1, k2, k3]
                · simp [k1, k2]
              · simp [k1]
          · rw [y2]
            cases hm : rightM ⟨m0, m1, m2, m3, m4, m5, m6, m7, m8, m9, m10, m11, m12, m13, m14⟩
            · cases Y.slow <;> rfl
            · rw [hm] at hc
              by_cases k1 : m0 = 10
              · by_cases k2 : m2 = t
                · by_cases k3 : m3 = a0
                  · simp [k1, k2, k3] at hc
                  · simp [k1, k2, k3]
                · simp [k1, k2]
              · simp [k1]
        · have hx : toldV ⟨a0, a1, a2, a3, a4, a5, a6, a7, a8, a9, a10, a11, a12, a13, a14, a15, a16, a17, a18, a19⟩ ⟨k, t, h, s, false, 0⟩ ⟨m0, m1, m2, m3, m4, m5, m6, m7, m8, m9, m10, m11, m12, m13, m14⟩ = bif decide (40 < h + 1) then { stepL ⟨k, t, h, s, false, 0⟩ with code := 211 } else onV ⟨a0, a1, a2, a3, a4, a5, a6, a7, a8, a9, a10, a11, a12, a13, a14, a15, a16, a17, a18, a19⟩ (stepL ⟨k, t, h, s, false, 0⟩) m7 m6 := by unfold toldV; rw [hc]; rfl
          unfold cntL at hc
          simp only [Bool.and_eq_true, decide_eq_true_eq] at hc
          obtain ⟨_, k0, k1, k2, k3⟩ := hc
          obtain ⟨x1, _, x3, x4, _, x6, _⟩ := told_right (p := m7) (d := m6) hr hl ho (rightM_hop k0 k1)
          simp only at x1 x3 x4 x6
          rw [← hx] at x1 x3 x4 x6
          have x1' : rightL ⟨(toldV ⟨a0, a1, a2, a3, a4, a5, a6, a7, a8, a9, a10, a11, a12, a13, a14, a15, a16, a17, a18, a19⟩ ⟨k, t, h, s, false, 0⟩ ⟨m0, m1, m2, m3, m4, m5, m6, m7, m8, m9, m10, m11, m12, m13, m14⟩).key, (toldV ⟨a0, a1, a2, a3, a4, a5, a6, a7, a8, a9, a10, a11, a12, a13, a14, a15, a16, a17, a18, a19⟩ ⟨k, t, h, s, false, 0⟩ ⟨m0, m1, m2, m3, m4, m5, m6, m7, m8, m9, m10, m11, m12, m13, m14⟩).at', (toldV ⟨a0, a1, a2, a3, a4, a5, a6, a7, a8, a9, a10, a11, a12, a13, a14, a15, a16, a17, a18, a19⟩ ⟨k, t, h, s, false, 0⟩ ⟨m0, m1, m2, m3, m4, m5, m6, m7, m8, m9, m10, m11, m12, m13, m14⟩).hops, (toldV ⟨a0, a1, a2, a3, a4, a5, a6, a7, a8, a9, a10, a11, a12, a13, a14, a15, a16, a17, a18, a19⟩ ⟨k, t, h, s, false, 0⟩ ⟨m0, m1, m2, m3, m4, m5, m6, m7, m8, m9, m10, m11, m12, m13, m14⟩).slow, (toldV ⟨a0, a1, a2, a3, a4, a5, a6, a7, a8, a9, a10, a11, a12, a13, a14, a15, a16, a17, a18, a19⟩ ⟨k, t, h, s, false, 0⟩ ⟨m0, m1, m2, m3, m4, m5, m6, m7, m8, m9, m10, m11, m12, m13, m14⟩).found, (toldV ⟨a0, a1, a2, a3, a4, a5, a6, a7, a8, a9, a10, a11, a12, a13, a14, a15, a16, a17, a18, a19⟩ ⟨k, t, h, s, false, 0⟩ ⟨m0, m1, m2, m3, m4, m5, m6, m7, m8, m9, m10, m11, m12, m13, m14⟩).code⟩ = true := x1
          clear hx
          generalize toldV ⟨a0, a1, a2, a3, a4, a5, a6, a7, a8, a9, a10, a11, a12, a13, a14, a15, a16, a17, a18, a19⟩ ⟨k, t, h, s, false, 0⟩ ⟨m0, m1, m2, m3, m4, m5, m6, m7, m8, m9, m10, m11, m12, m13, m14⟩ = X at *
          rw [x3, x4, x6] at x1'
          subst k1; subst k2; subst k3
          have e3 : ∀ b : Int, ine b b = false := fun b => by simp [ine]
          have e4 : ∀ b : Bool, bneb b b = false := fun b => by cases b <;> rfl
          simp only [ieq_self, e3, e4, k0, x3, x4, x6, x1', e00, e01, hl, r4, r1', y1.1, Bool.not_true, Bool.not_false, cond_false, cond_true]
          rcases y1.2 with y2 | y2
          · rw [y2]; rfl
          · rw [y2]; cases Y.slow <;> rfl
      · obtain ⟨s1, s2⟩ := stay ⟨k, t, h, s, f, c⟩ (by rw [hl, ho]; rfl)
        rw [s1, s2]
        simp only [ieq_self, beqb_self, Bool.and_self, Bool.not_true, cond_false, cond_true]
        cases f
        · unfold overL at ho
          simp only [Bool.false_or, Bool.not_eq_true', decide_eq_false_iff_not] at ho
          rw [show ine c 0 = true by rw [ine_dec, decide_eq_false ho]; rfl, show ieq c 0 = false by rw [ieq_dec]; exact decide_eq_false ho]; rfl
        · rfl
  · rfl

/-! ### A look ends. -/
theorem look_fin {x : LW} (h : rightL x = true) : (bif ile x.hops 41 then bif ilt x.hops 41 then some true else bif overL x then some true else some false else some false) = some true := by
  obtain ⟨h0, h1⟩ := rightL_hops h
  rw [show ile x.hops 41 = true from decide_eq_true h1, cond_true]
  by_cases h2 : x.hops < 41
  · rw [show ilt x.hops 41 = true from decide_eq_true h2]; rfl
  · rw [show ilt x.hops 41 = false from decide_eq_false h2, cond_false]
    cases ho : overL x
    · have := (rightL_open h ho).1
      omega
    · rfl
theorem lends_c (a0 : Int) (a1 a2 : List Int) (a3 a4 a5 a6 a7 a8 a9 a10 a11 a12 a13 a14 a15 a16 a17 a18 a19 : Int) (key : Int) (l : List (Int × Int)) (ag : List Bool) (hr : rightV ⟨a0, a1, a2, a3, a4, a5, a6, a7, a8, a9, a10, a11, a12, a13, a14, a15, a16, a17, a18, a19⟩ = true) (hl : l.length ≤ 60) : ∀ (r p : List (Int × Int)) (n : Nat) (t h : Int) (s f : Bool) (c : Int), l = p ++ r → rightL ⟨pl key, t, h, s, f, c⟩ = true → (overL ⟨pl key, t, h, s, f, c⟩ = false → t ≠ a0) → r.length < n →
    F9_c0 n key l ag h (ofN p.length) a0 a1 a2 a3 a4 a5 a6 a7 a8 a9 a10 a11 a12 a13 a14 a15 a16 a17 a18 a19 (pl key) t h s f c = some true
  | _, _, 0, _, _, _, _, _, _, _, _, h => by omega
  | [], p, n + 1, t, h, s, f, c, hp, hx, hn, _ => by
    rw [List.append_nil] at hp
    subst hp
    have := look_fin hx
    simp only [F9_c0, lt_out, cond_false, wakes18, lover_p, Option.bind_some]
    exact this
  | y :: r, p, n + 1, t, h, s, f, c, hp, hx, hn, hlt => by
    have hf := fuel_big
    simp only [List.length_cons] at hlt
    have hid : isP a0 = true := (rightV_parts hr).1
    have e1 : ilt (ofN p.length) (ofN l.length) = true := by rw [hp]; exact lt_in
    have e2 : inb (ofN p.length) l.length = true := by rw [hp]; exact inb_in
    have e5 : ∀ d, l.getD (ofN p.length).toNat d = y := fun d => by rw [hp]; exact get_in
    have hlen : p.length ≤ 60 := by rw [hp] at hl; simp at hl; omega
    have ih : ∀ (z : LW), z.key = pl key → rightL z = true → (overL z = false → z.at' ≠ a0) → F9_c0 n key l ag z.hops (ofN (p ++ [y]).length) a0 a1 a2 a3 a4 a5 a6 a7 a8 a9 a10 a11 a12 a13 a14 a15 a16 a17 a18 a19 z.key z.at' z.hops z.slow z.found z.code = some true := by
      rintro ⟨zk, zt, zh, zs, zf, zc⟩ hk hz hzn
      simp only at hk
      subst hk
      exact lends_c a0 a1 a2 a3 a4 a5 a6 a7 a8 a9 a10 a11 a12 a13 a14 a15 a16 a17 a18 a19 key l ag hr hl r (p ++ [y]) n zt zh zs zf zc (by rw [hp, in_eq]) hz hzn (by omega)
    have en : ∀ b : Int, ine b b = false := fun b => by simp [ine]
    have gi0 : inb 0 2 = true := rfl
    have gi1 : inb 1 2 = true := rfl
    have gn0 : nlt (Int.toNat 0) 2 = true := rfl
    have gn1 : nlt (Int.toNat 1) 2 = true := rfl
    have gg0 : ∀ u v : Int, List.getD [u, v] (Int.toNat 0) 0 = u := fun _ _ => rfl
    have gg1 : ∀ u v : Int, List.getD [u, v] (Int.toNat 1) 0 = v := fun _ _ => rfl
    simp only [F9_c0, e1, e5, cond_true, lright_p, lask_p, lover_p, place_r, Option.bind_some, hx, Bool.not_true, cond_false, en, wakes18, Bool.true_and]
    rw [add_in (x := y) (by omega)]
    cases ho : overL ⟨pl key, t, h, s, f, c⟩
    · obtain ⟨o1, o2, o3⟩ := rightL_open hx ho
      obtain ⟨h0, _⟩ := rightL_hops hx
      simp only at o1 o2 o3 h0
      have hn' := hn ho
      rw [inc_hops h0 (by omega)]
      have e7 : ieq t a0 = false := by rw [ieq_dec]; exact decide_eq_false hn'
      simp only [Bool.not_false, cond_true, show beqb true false = false from rfl, cond_false, Bool.not_true, e7, en]
      have agn : ∀ R S : Option Bool, R = some true → S = some true → (bif ilt (ofN p.length) (ofN ag.length) then bif inb (ofN p.length) ag.length then bif ag.getD (ofN p.length).toNat false then R else S else none else S) = some true := by
        intro R S hR hS
        by_cases hq : p.length < ag.length
        · rw [show ilt (ofN p.length) (ofN ag.length) = true from decide_eq_true (by simp only [ofN]; omega), show inb (ofN p.length) ag.length = true by simp [inb, ofN, hq], hR, hS]
          cases ag.getD (ofN p.length).toNat false <;> rfl
        · rw [show ilt (ofN p.length) (ofN ag.length) = false from decide_eq_false (by simp only [ofN]; omega), hS]; rfl
      refine agn _ _ ?_ ?_
      · rw [again_p (show 0 < FUEL by omega), Option.bind_some]
        obtain ⟨zr, zn, zk, zh, z40, z39⟩ := again_right hr hx ho
        generalize againV ⟨a0, a1, a2, a3, a4, a5, a6, a7, a8, a9, a10, a11, a12, a13, a14, a15, a16, a17, a18, a19⟩ ⟨pl key, t, h, s, f, c⟩ = Z at *
        obtain ⟨Zk, Zt, Zh, Zs, Zf, Zc⟩ := Z
        simp only at zk zh z40 z39 zn
        subst zk; subst zh
        simp only [en, cond_false]
        by_cases h4 : 40 ≤ h
        · obtain ⟨z1, z2⟩ := z40 h4
          subst z1; subst z2
          rw [show ile (h + 1) 40 = false from decide_eq_false (by omega), show igt (h + 1) 40 = true from decide_eq_true (by omega)]
          have zo' : ∀ z, overL ⟨pl key, Zt, z, Zs, Zf, 211⟩ = true := fun z => by unfold overL; simp
          have hh : h = 40 := by omega
          simp only [bneb_dec, decide_true, Bool.not_true, cond_false, cond_true, en, lover_p, zo', Option.bind_some, hh]; rfl
        · obtain ⟨z1, z2⟩ := z39 (by omega)
          subst z1; subst z2
          rw [show ile (h + 1) 40 = true from decide_eq_true (by omega), show igt (h + 1) 40 = false from decide_eq_false (by omega)]
          simp only [show bneb true true = false from rfl, cond_false, cond_true, lover_p, Option.bind_some]
          cases zo : overL ⟨pl key, Zt, h + 1, true, Zf, 0⟩
          · rw [cond_false]
            have zn := zn zo
            have zz : iadd .i64 (h + 1) 1 = h + 1 + 1 := inc_hops (by omega) (by omega)
            rw [zz]
            have t1 := fun d => told_counts (d := d) (p := pl y.1) hr zr zo zn (isP_of_pl y.1)
            simp only [e2, gi0, gi1, gn0, gn1, gg0, gg1, cond_true, Option.bind_some]
            rw [tell_l FUEL hid]
            simp only [Option.bind_some]
            rw [told_p (show 0 < FUEL by omega) a0 a1 a2 a3 a4 a5 a6 a7 a8 a9 a10 a11 a12 a13 a14 a15 a16 a17 a18 a19 (pl key) Zt (h + 1) true Zf 0 10 (a0 * 1048576 + 1) Zt a0 0 false _ _ 0 [] ByteArray.empty 0 0 false 0 (by simp)]
            simp only [tellL] at t1
            rw [t1]
            obtain ⟨x1, x2, x3, x4, x5, x6, x7⟩ := told_right (p := pl y.1) (d := ieq (bits .and .i64 y.2 7) 0) hr zr zo (isP_of_pl y.1)
            simp only at x1 x2 x3 x4 x5 x6 x7
            generalize (bif decide (40 < h + 1 + 1) then { stepL ⟨pl key, Zt, h + 1, true, Zf, 0⟩ with code := 211 } else onV ⟨a0, a1, a2, a3, a4, a5, a6, a7, a8, a9, a10, a11, a12, a13, a14, a15, a16, a17, a18, a19⟩ (stepL ⟨pl key, Zt, h + 1, true, Zf, 0⟩) (pl y.1) (ieq (bits .and .i64 y.2 7) 0)) = X at *
            have hrec := ih X x3 x1 x2
            rw [x4] at hrec
            simp only [Option.bind_some, x4, en, cond_false, hrec]
            by_cases h5 : 40 < h + 1 + 1
            · obtain ⟨w1, w2⟩ := x5 (by omega)
              rw [show igt (h + 1 + 1) 40 = true from decide_eq_true h5, w1, w2]; rfl
            · rw [show igt (h + 1 + 1) 40 = false from decide_eq_false h5, cond_false]
              cases xf : X.found
              · rfl
              · rcases x7 xf with w | w
                · rw [w, en]; rfl
                · rw [w, en]; cases ine X.at' a0 <;> rfl
          · have := look_fin zr
            rw [zo] at this
            rw [cond_true]; exact this
      · have t1 := fun d => told_counts (d := d) (p := pl y.1) hr hx ho hn' (isP_of_pl y.1)
        simp only [e2, gi0, gi1, gn0, gn1, gg0, gg1, cond_true, Option.bind_some]
        rw [tell_l FUEL hid]
        simp only [Option.bind_some]
        rw [told_p (show 0 < FUEL by omega) a0 a1 a2 a3 a4 a5 a6 a7 a8 a9 a10 a11 a12 a13 a14 a15 a16 a17 a18 a19 (pl key) t h s f c 10 (a0 * 1048576 + 1) t a0 0 false _ _ 0 [] ByteArray.empty 0 0 false 0 (by simp)]
        simp only [tellL] at t1
        rw [t1]
        obtain ⟨x1, x2, x3, x4, x5, x6, x7⟩ := told_right (p := pl y.1) (d := ieq (bits .and .i64 y.2 7) 0) hr hx ho (isP_of_pl y.1)
        simp only at x1 x2 x3 x4 x5 x6 x7
        generalize (bif decide (40 < h + 1) then { stepL ⟨pl key, t, h, s, f, c⟩ with code := 211 } else onV ⟨a0, a1, a2, a3, a4, a5, a6, a7, a8, a9, a10, a11, a12, a13, a14, a15, a16, a17, a18, a19⟩ (stepL ⟨pl key, t, h, s, f, c⟩) (pl y.1) (ieq (bits .and .i64 y.2 7) 0)) = X at *
        have hrec := ih X x3 x1 x2
        rw [x4] at hrec
        simp only [Option.bind_some, x4, en, cond_false, hrec]
        by_cases h5 : 40 < h + 1
        · obtain ⟨w1, w2⟩ := x5 (by omega)
          rw [show igt (h + 1) 40 = true from decide_eq_true h5, w1, w2]; rfl
        · rw [show igt (h + 1) 40 = false from decide_eq_false h5, cond_false]
          cases xf : X.found
          · rfl
          · rcases x7 xf with w | w
            · rw [w, en]; rfl
            · rw [w, en]; cases ine X.at' a0 <;> rfl
    · have := look_fin hx
      rw [ho] at this
      simp only [Bool.not_true, cond_false, show beqb false true = false from rfl, Bool.not_false, cond_true]
      exact this
theorem plain_LookEnds (n : Nat) (a0 : Int) (a1 a2 : List Int) (a3 a4 a5 a6 a7 a8 a9 a10 a11 a12 a13 a14 a15 a16 a17 a18 a19 : Int) (key : Int) (l : List (Int × Int)) (ag : List Bool) (hv : a2.length ≤ 9223372036854775807) (hn : 1000 < n) : F9 n a0 a1 a2 a3 a4 a5 a6 a7 a8 a9 a10 a11 a12 a13 a14 a15 a16 a17 a18 a19 key l ag = some true := by
  unfold F9
  have hf := fuel_big
  rw [viewR_r (by omega) a0 a1 a2 a3 a4 a5 a6 a7 a8 a9 a10 a11 a12 a13 a14 a15 a16 a17 a18 a19 hv, wakes18, begin_p]
  simp only [Option.bind_some]
  cases hr : rightV ⟨a0, a1, a2, a3, a4, a5, a6, a7, a8, a9, a10, a11, a12, a13, a14, a15, a16, a17, a18, a19⟩
  · rfl
  · simp only [Bool.not_true, cond_false]
    by_cases hl : l.length ≤ 60
    · rw [show igt (ofN l.length) 60 = false from decide_eq_false (by simp only [ofN]; omega), cond_false]
      obtain ⟨b1, b2, b3, b4⟩ := begin_right (key := key) hr
      generalize beginV ⟨a0, a1, a2, a3, a4, a5, a6, a7, a8, a9, a10, a11, a12, a13, a14, a15, a16, a17, a18, a19⟩ key = X at *
      obtain ⟨Xk, Xt, Xh, Xs, Xf, Xc⟩ := X
      simp only at b1 b2 b3 b4
      subst b3; subst b4
      exact lends_c a0 a1 a2 a3 a4 a5 a6 a7 a8 a9 a10 a11 a12 a13 a14 a15 a16 a17 a18 a19 key l ag hr hl l [] n Xt 0 Xs Xf Xc rfl b1 (fun _ => b2) (by omega)
    · rw [show igt (ofN l.length) 60 = true from decide_eq_true (by simp only [ofN]; omega)]; rfl

/-! ### A look comes closer. -/
theorem cnt_lt {α : Type} (f : α → Int) : ∀ (l : List α) (b : α) (A : Int), b ∈ l → A < f b → l.countP (fun x => decide (f x ≤ A)) < l.countP (fun x => decide (f x ≤ f b))
  | [], b, A, h, _ => by simp at h
  | y :: l, b, A, h, hA => by
    have mono : l.countP (fun x => decide (f x ≤ A)) ≤ l.countP (fun x => decide (f x ≤ f b)) := List.countP_mono_left fun x _ hx => by
      simp only [decide_eq_true_eq] at hx ⊢; omega
    rw [List.countP_cons, List.countP_cons]
    rcases List.mem_cons.1 h with rfl | h
    · have e1 : decide (f b ≤ A) = false := decide_eq_false (by omega)
      have e2 : decide (f b ≤ f b) = true := decide_eq_true (Int.le_refl _)
      rw [e1, e2]
      simp; omega
    · have ih := cnt_lt f l b A h hA
      by_cases h1 : f y ≤ A
      · rw [decide_eq_true h1, decide_eq_true (by omega : f y ≤ f b)]; simp; omega
      · rw [decide_eq_false h1]
        simp only [Bool.false_eq_true, if_false]
        omega
theorem split_at {α : Type} {l : List α} {a : Nat} (h : a < l.length) : ∃ p x r, l = p ++ x :: r ∧ p.length = a := by
  refine ⟨l.take a, l[a], l.drop (a + 1), ?_, by rw [List.length_take]; omega⟩
  rw [← List.drop_eq_getElem_cons h, List.take_append_drop]
abbrev VT := (Int × (List Int) × (List Int) × Int × Int × Int × Int × Int × Int × Int × Int × Int × Int × Int × Int × Int × Int × Int × Int × Int)
def vwT (x : VT) : VW := ⟨x.1, x.2.1, x.2.2.1, x.2.2.2.1, x.2.2.2.2.1, x.2.2.2.2.2.1, x.2.2.2.2.2.2.1, x.2.2.2.2.2.2.2.1, x.2.2.2.2.2.2.2.2.1, x.2.2.2.2.2.2.2.2.2.1, x.2.2.2.2.2.2.2.2.2.2.1, x.2.2.2.2.2.2.2.2.2.2.2.1, x.2.2.2.2.2.2.2.2.2.2.2.2.1, x.2.2.2.2.2.2.2.2.2.2.2.2.2.1, x.2.2.2.2.2.2.2.2.2.2.2.2.2.2.1, x.2.2.2.2.2.2.2.2.2.2.2.2.2.2.2.1, x.2.2.2.2.2.2.2.2.2.2.2.2.2.2.2.2.1, x.2.2.2.2.2.2.2.2.2.2.2.2.2.2.2.2.2.1, x.2.2.2.2.2.2.2.2.2.2.2.2.2.2.2.2.2.2.1, x.2.2.2.2.2.2.2.2.2.2.2.2.2.2.2.2.2.2.2⟩
theorem tell_right {v : VW} {l : LW} {p : Int} {o : Bool} (hv : rightV v = true) (hl : rightL l = true) (ho : overL l = false) (h40 : l.hops < 40) (hp : isP p = true) (hne : ¬ (p = v.id ∧ o = false)) :
    (bif decide (40 < l.hops + 1) then { stepL l with code := 211 } else onV v (stepL l) p o) = ⟨l.key, p, l.hops + 1, l.slow, o, 0⟩ := by
  obtain ⟨_, h2, _⟩ := rightL_open hl ho
  rw [decide_eq_false (by omega : ¬ 40 < l.hops + 1), cond_false]
  unfold onV
  have : (decide (p = v.id) && !o) = false := by
    by_cases h : p = v.id
    · cases o
      · exact absurd ⟨h, rfl⟩ hne
      · simp
    · simp [h]
  rw [this, cond_false]
  unfold stepL
  rw [h2]
section
variable (l : List VT) (key : Int)
theorem lcl_c3 (a0 : Int) (a1 a2 : List Int) (a3 a4 a5 a6 a7 a8 a9 a10 a11 a12 a13 a14 a15 a16 a17 a18 a19 : Int) (hr : rightV ⟨a0, a1, a2, a3, a4, a5, a6, a7, a8, a9, a10, a11, a12, a13, a14, a15, a16, a17, a18, a19⟩ = true) (hl : l.length ≤ 8) (hw : ∀ x ∈ l, rightV (vwT x) = true) (cn : Nat) (t : Int) (s : Bool) (hcn : cn ≤ 8) (hx : rightL ⟨pl key, t, ofN cn, s, false, 0⟩ = true) (hn : t ≠ a0) (n0 : Nat)
    (hR : ∀ (n : Nat) (t' : Int) (o : Bool), n0 < n → (∃ x ∈ l, x.1 = t) → rightL ⟨pl key, t', ofN (cn + 1), s, o, 0⟩ = true → (o = false → t' ≠ a0 ∧ rnd t' key < rnd t key) → F10_c2 n l key (ofN (cn + 1)) a0 a1 a2 a3 a4 a5 a6 a7 a8 a9 a10 a11 a12 a13 a14 a15 a16 a17 a18 a19 (pl key) t' (ofN (cn + 1)) s o 0 = some true) :
    ∀ (r p : List VT) (n : Nat) (nx : Int), l = p ++ r → (nx = -1 ∨ ∃ (p' : List VT) (x : VT) (r' : List VT), l = p' ++ x :: r' ∧ x.1 = t ∧ nx = ofN p'.length) → n0 + r.length + 1 < n →
    F10_c3 n l key (ofN cn) nx (ofN p.length) a0 a1 a2 a3 a4 a5 a6 a7 a8 a9 a10 a11 a12 a13 a14 a15 a16 a17 a18 a19 (pl key) t (ofN cn) s false 0 = some true
  | _, _, 0, _, _, _, h => by omega
  | [], p, n + 1, nx, hp, hnx, h => by
    have hf := fuel_big
    rw [List.append_nil] at hp
    rw [← hp]
    simp only [List.length_nil] at h
    simp only [F10_c3, lt_out, cond_false, wakes18, Option.bind_some]
    have e : iadd .i64 (ofN cn) 1 = ofN (cn + 1) := by simp only [iadd, ofN]; rw [wrap_mid (by omega) (by omega)]; omega
    rcases hnx with rfl | ⟨p', x, r', h1, h2, rfl⟩
    · rfl
    · have e2 : inb (ofN p'.length) l.length = true := by rw [h1]; exact inb_in
      have e5 : ∀ d, l.getD (ofN p'.length).toNat d = x := fun d => by rw [h1]; exact get_in
      have hxl : x ∈ l := by rw [h1]; simp
      have hxr := hw x hxl
      have hid : isP a0 = true := (rightV_parts hr).1
      have hxlen : x.2.2.1.length ≤ 3 := (rightV_len hxr).2
      rw [show ilt (ofN p'.length) 0 = false from decide_eq_false (by simp only [ofN]; omega), e2]
      simp only [cond_false, cond_true, e5]
      rw [rnext_r (show 2000 < FUEL by omega) x.1 x.2.1 x.2.2.1 x.2.2.2.1 x.2.2.2.2.1 x.2.2.2.2.2.1 x.2.2.2.2.2.2.1 x.2.2.2.2.2.2.2.1 x.2.2.2.2.2.2.2.2.1 x.2.2.2.2.2.2.2.2.2.1 x.2.2.2.2.2.2.2.2.2.2.1 x.2.2.2.2.2.2.2.2.2.2.2.1 x.2.2.2.2.2.2.2.2.2.2.2.2.1 x.2.2.2.2.2.2.2.2.2.2.2.2.2.1 x.2.2.2.2.2.2.2.2.2.2.2.2.2.2.1 x.2.2.2.2.2.2.2.2.2.2.2.2.2.2.2.1 x.2.2.2.2.2.2.2.2.2.2.2.2.2.2.2.2.1 x.2.2.2.2.2.2.2.2.2.2.2.2.2.2.2.2.2.1 x.2.2.2.2.2.2.2.2.2.2.2.2.2.2.2.2.2.2.1 x.2.2.2.2.2.2.2.2.2.2.2.2.2.2.2.2.2.2.2 key false (by omega)]
      show (Option.bind (some (nextV (vwT x) key false)) _) = _
      rw [Option.bind_some]
      obtain ⟨q1, q2, q3, q4⟩ := nextV_ok (k := key) (s := false) hxr
      obtain ⟨f1, f2⟩ := firstV_ok hxr
      have hcl : (nextV (vwT x) key false).2 = false → closer key t (nextV (vwT x) key false).1 = true := by
        intro ho
        obtain ⟨hu, h5, h6, _⟩ := q4 ho
        have := (next_closer (rightV_parts hxr).1 f1 f2 q1 q2 hu h5 h6).2.2.1
        rw [← h2]; exact this
      generalize nextV (vwT x) key false = w at *
      obtain ⟨q, o⟩ := w
      simp only at q1 hcl ⊢
      rw [tell_l FUEL hid]
      simp only [Option.bind_some]
      rw [told_p (show 0 < FUEL by omega) a0 a1 a2 a3 a4 a5 a6 a7 a8 a9 a10 a11 a12 a13 a14 a15 a16 a17 a18 a19 (pl key) t (ofN cn) s false 0 10 (a0 * 1048576 + 1) t a0 0 false o q 0 [] ByteArray.empty 0 0 false 0 (by simp)]
      have ho : overL ⟨pl key, t, ofN cn, s, false, 0⟩ = false := rfl
      have t1 := told_counts (d := o) (p := q) hr hx ho hn q1
      simp only [tellL] at t1
      rw [t1]
      simp only [Option.bind_some, closer_r]
      by_cases hne : q = a0 ∧ o = false
      · obtain ⟨rfl, rfl⟩ := hne
        rw [hcl rfl]
        simp only [ieq_self, Bool.not_false, Bool.not_true, cond_true, cond_false]
        have tri : ∀ b c : Bool, (bif b then some true else bif c then some true else some true) = some true := by intro b c; cases b <;> cases c <;> rfl
        exact tri _ _
      · have t2 := tell_right (o := o) (p := q) hr hx ho (by simp only [ofN]; omega) q1 hne
        simp only at t2
        rw [t2]
        have e6 : ofN cn + 1 = ofN (cn + 1) := by simp only [ofN]; omega
        have tr := (told_right (d := o) (p := q) hr hx ho q1).1
        simp only at tr
        rw [t2, e6] at tr
        have hrec : F10_c2 n l key (ofN (cn + 1)) a0 a1 a2 a3 a4 a5 a6 a7 a8 a9 a10 a11 a12 a13 a14 a15 a16 a17 a18 a19 (pl key) q (ofN (cn + 1)) s o 0 = some true := by
          refine hR n q o (by omega) ⟨x, hxl, h2⟩ tr fun h => ⟨fun h' => hne ⟨h', h⟩, ?_⟩
          exact of_decide_eq_true (hcl h)
        simp only [e, e6, hrec]
        have e3 : ∀ b : Int, ine b b = false := fun b => by simp [ine]
        have e4 : ∀ b : Bool, bneb b b = false := fun b => by cases b <;> rfl
        simp only [e3, e4, cond_false]
        cases o
        · rw [hcl rfl]
          have : ieq q a0 = false := by rw [ieq_dec]; exact decide_eq_false fun h => hne ⟨h, rfl⟩
          rw [this]; rfl
        · cases ieq q a0 <;> rfl
  | x :: r, p, n + 1, nx, hp, hnx, h => by
    simp only [List.length_cons] at h
    have e1 : ilt (ofN p.length) (ofN l.length) = true := by rw [hp]; exact lt_in
    have e2 : inb (ofN p.length) l.length = true := by rw [hp]; exact inb_in
    have e5 : ∀ d, l.getD (ofN p.length).toNat d = x := fun d => by rw [hp]; exact get_in
    have hlen : p.length < 1000 := by rw [hp] at hl; simp at hl; omega
    simp only [F10_c3, e1, e2, e5, cond_true]
    rw [add_in (x := x) (by omega), ieq_dec]
    have h1 := fun nx hnx => lcl_c3 a0 a1 a2 a3 a4 a5 a6 a7 a8 a9 a10 a11 a12 a13 a14 a15 a16 a17 a18 a19 hr hl hw cn t s hcn hx hn n0 hR r (p ++ [x]) n nx (by rw [hp, in_eq]) hnx (by omega)
    by_cases e : x.1 = t
    · rw [decide_eq_true e, cond_true]
      exact h1 _ (.inr ⟨p, x, r, hp, e, rfl⟩)
    · rw [decide_eq_false e, cond_false]
      exact h1 _ hnx
theorem lcl_c2 (a0 : Int) (a1 a2 : List Int) (a3 a4 a5 a6 a7 a8 a9 a10 a11 a12 a13 a14 a15 a16 a17 a18 a19 : Int) (hr : rightV ⟨a0, a1, a2, a3, a4, a5, a6, a7, a8, a9, a10, a11, a12, a13, a14, a15, a16, a17, a18, a19⟩ = true) (hl : l.length ≤ 8) (hw : ∀ x ∈ l, rightV (vwT x) = true) : ∀ (m cn n : Nat) (t : Int) (s f : Bool), l.length + 1 = cn + m → (f = false → cn + l.countP (fun x => decide (rnd x.1 key ≤ rnd t key)) ≤ l.length) → cn ≤ l.length → rightL ⟨pl key, t, ofN cn, s, f, 0⟩ = true → (f = false → t ≠ a0) → m * 100 < n →
    F10_c2 n l key (ofN cn) a0 a1 a2 a3 a4 a5 a6 a7 a8 a9 a10 a11 a12 a13 a14 a15 a16 a17 a18 a19 (pl key) t (ofN cn) s f 0 = some true
  | 0, cn, n, t, s, f, hm, _, hc, _, _, _ => by omega
  | m + 1, cn, 0, t, s, f, _, _, _, _, _, h => by omega
  | m + 1, cn, n + 1, t, s, f, hm, hcnt, hc, hx, hn, h => by
    simp only [F10_c2, lover_p, Option.bind_some, wakes18]
    rw [show ile (ofN cn) (ofN l.length) = true from decide_eq_true (by simp only [ofN]; omega), cond_true]
    cases f
    · have ho : overL ⟨pl key, t, ofN cn, s, false, 0⟩ = false := rfl
      rw [ho, cond_false]
      have h0 : (0 : Int) = ofN ([] : List VT).length := rfl
      have hgo := lcl_c3 l key a0 a1 a2 a3 a4 a5 a6 a7 a8 a9 a10 a11 a12 a13 a14 a15 a16 a17 a18 a19 hr hl hw cn t s (by omega) hx (hn rfl) (m * 100) (fun n' t' o hn' hex hx' ho' => by
        have hbase := hcnt rfl
        obtain ⟨x, hxl, hxt⟩ := hex
        have hpos : 0 < l.countP (fun y => decide (rnd y.1 key ≤ rnd t key)) := List.countP_pos_iff.2 ⟨x, hxl, decide_eq_true (by rw [hxt]; exact Int.le_refl _)⟩
        refine lcl_c2 a0 a1 a2 a3 a4 a5 a6 a7 a8 a9 a10 a11 a12 a13 a14 a15 a16 a17 a18 a19 hr hl hw m (cn + 1) n' t' s o (by omega) (fun hof => ?_) (by omega) hx' (fun h => (ho' h).1) hn'
        have := cnt_lt (fun y : VT => rnd y.1 key) l x (rnd t' key) hxl (by rw [hxt]; exact (ho' hof).2)
        rw [hxt] at this
        omega) l [] n (-1) rfl (.inl rfl) (by omega)
      rw [h0]
      exact hgo
    · have ho : overL ⟨pl key, t, ofN cn, s, true, 0⟩ = true := rfl
      rw [ho, ieq_self, ieq_self]; rfl
theorem lcl_c1 (a : Int) (x : VT) (p s0 : List VT) (hL : l = p ++ x :: s0) (hl : l.length < 1000) (n0 : Nat) (hR : ∀ n, n0 < n → F10_c0 n l key a (ofN (p ++ [x]).length) = some true) : ∀ (r q : List VT) (n : Nat), p = q ++ r → n0 + r.length + 1 < n →
    F10_c1 n l key a (ofN p.length) (ofN q.length) = some true
  | _, _, 0, _, h => by omega
  | [], q, n + 1, hp, h => by
    rw [List.append_nil] at hp
    rw [← hp]
    simp only [List.length_nil] at h
    have hlen : p.length < 1000 := by rw [hL] at hl; simp at hl; omega
    simp only [F10_c1, lt_out, cond_false]
    rw [add_in (x := x) (by omega)]
    exact hR n (by omega)
  | y :: r, q, n + 1, hp, h => by
    have hlen : p.length < 1000 := by rw [hL] at hl; simp at hl; omega
    simp only [List.length_cons] at h
    have e1 : ilt (ofN q.length) (ofN p.length) = true := by rw [hp]; exact lt_in
    have e2 : l = q ++ y :: (r ++ x :: s0) := by rw [hL, hp]; simp
    have e3 : inb (ofN q.length) l.length = true := by rw [e2]; exact inb_in
    have e4 : inb (ofN p.length) l.length = true := by rw [hL]; exact inb_in
    have e5 : ∀ d, l.getD (ofN q.length).toNat d = y := fun d => by rw [e2]; exact get_in
    have e6 : ∀ d, l.getD (ofN p.length).toNat d = x := fun d => by rw [hL]; exact get_in
    have hq : q.length < 1000 := by rw [hp] at hlen; simp at hlen; omega
    simp only [F10_c1, e1, e3, e4, e5, e6, cond_true]
    rw [add_in (x := y) (by omega), lcl_c1 a x p s0 hL hl n0 hR r (q ++ [y]) n (by rw [hp, in_eq]) (by omega), wakes18]
    cases ieq y.1 x.1 <;> rfl
theorem lcl_c0 (a : Int) (hl : l.length ≤ 8) (hne : l ≠ []) (hw : ∀ x ∈ l, x.2.2.1.length ≤ 9223372036854775807) : ∀ (r p : List VT) (n : Nat), l = p ++ r → (∀ x ∈ p, rightV (vwT x) = true) → r.length * 100 + 2000 < n →
    F10_c0 n l key a (ofN p.length) = some true
  | _, _, 0, _, _, h => by omega
  | [], p, n + 1, hp, hr, hn => by
    rw [List.append_nil] at hp
    rw [← hp] at hr ⊢
    have hpos : 0 < l.length := by
      cases l with
      | nil => exact absurd rfl hne
      | cons _ _ => simp
    have e1 : inz (ofN l.length) = true := decide_eq_true (by simp only [ofN]; omega)
    simp only [F10_c0, lt_out, cond_false, e1, cond_true]
    have b1 := Int.tmod_lt_of_pos a (b := (l.length : Int)) (by omega)
    have b2 := Int.lt_tmod_of_pos a (b := (l.length : Int)) (by omega)
    have ea : irem (iadd .i64 (irem a (ofN l.length)) (ofN l.length)) (ofN l.length) = ofN ((a.tmod (ofN l.length) + ofN l.length) % ofN l.length).toNat := by
      simp only [irem, iadd, ofN]
      rw [wrap_mid (by omega) (by omega), Int.tmod_eq_emod_of_nonneg (by omega)]
      have := Int.emod_nonneg (a.tmod (l.length : Int) + l.length) (b := (l.length : Int)) (by omega)
      omega
    have hlt : ((a.tmod (ofN l.length) + ofN l.length) % ofN l.length).toNat < l.length := by
      simp only [ofN]
      have h1 := Int.emod_nonneg (a.tmod (l.length : Int) + l.length) (b := (l.length : Int)) (by omega)
      have h2 := Int.emod_lt_of_pos (a.tmod (l.length : Int) + l.length) (b := (l.length : Int)) (by omega)
      omega
    obtain ⟨p', x, r', h1, h2⟩ := split_at hlt
    rw [ea, ← h2]
    have e2 : inb (ofN p'.length) l.length = true := by rw [h1]; exact inb_in
    have e5 : ∀ d, l.getD (ofN p'.length).toNat d = x := fun d => by rw [h1]; exact get_in
    simp only [e2, e5, cond_true]
    have hxr := hr x (by rw [h1]; simp)
    rw [begin_p, Option.bind_some]
    obtain ⟨g1, g2, g3, g4⟩ := begin_right (key := key) hxr
    have g5 : (beginV (vwT x) key).code = 0 ∧ (beginV (vwT x) key).slow = false := by unfold beginV; rw [hxr]; exact ⟨rfl, rfl⟩
    show F10_c2 n l key 0 x.1 x.2.1 x.2.2.1 x.2.2.2.1 x.2.2.2.2.1 x.2.2.2.2.2.1 x.2.2.2.2.2.2.1 x.2.2.2.2.2.2.2.1 x.2.2.2.2.2.2.2.2.1 x.2.2.2.2.2.2.2.2.2.1 x.2.2.2.2.2.2.2.2.2.2.1 x.2.2.2.2.2.2.2.2.2.2.2.1 x.2.2.2.2.2.2.2.2.2.2.2.2.1 x.2.2.2.2.2.2.2.2.2.2.2.2.2.1 x.2.2.2.2.2.2.2.2.2.2.2.2.2.2.1 x.2.2.2.2.2.2.2.2.2.2.2.2.2.2.2.1 x.2.2.2.2.2.2.2.2.2.2.2.2.2.2.2.2.1 x.2.2.2.2.2.2.2.2.2.2.2.2.2.2.2.2.2.1 x.2.2.2.2.2.2.2.2.2.2.2.2.2.2.2.2.2.2.1 x.2.2.2.2.2.2.2.2.2.2.2.2.2.2.2.2.2.2.2 (beginV (vwT x) key).key (beginV (vwT x) key).at' (beginV (vwT x) key).hops (beginV (vwT x) key).slow (beginV (vwT x) key).found (beginV (vwT x) key).code = some true
    generalize beginV (vwT x) key = X at *
    obtain ⟨Xk, Xt, Xh, Xs, Xf, Xc⟩ := X
    simp only at g1 g2 g3 g4 g5
    obtain ⟨g5, g6⟩ := g5
    subst g3; subst g4; subst g5; subst g6
    have h0 : (0 : Int) = ofN 0 := rfl
    have := lcl_c2 l key x.1 x.2.1 x.2.2.1 x.2.2.2.1 x.2.2.2.2.1 x.2.2.2.2.2.1 x.2.2.2.2.2.2.1 x.2.2.2.2.2.2.2.1 x.2.2.2.2.2.2.2.2.1 x.2.2.2.2.2.2.2.2.2.1 x.2.2.2.2.2.2.2.2.2.2.1 x.2.2.2.2.2.2.2.2.2.2.2.1 x.2.2.2.2.2.2.2.2.2.2.2.2.1 x.2.2.2.2.2.2.2.2.2.2.2.2.2.1 x.2.2.2.2.2.2.2.2.2.2.2.2.2.2.1 x.2.2.2.2.2.2.2.2.2.2.2.2.2.2.2.1 x.2.2.2.2.2.2.2.2.2.2.2.2.2.2.2.2.1 x.2.2.2.2.2.2.2.2.2.2.2.2.2.2.2.2.2.1 x.2.2.2.2.2.2.2.2.2.2.2.2.2.2.2.2.2.2.1 x.2.2.2.2.2.2.2.2.2.2.2.2.2.2.2.2.2.2.2 hxr hl hr (l.length + 1) 0 n Xt false Xf (by omega) (fun _ => by rw [Nat.zero_add]; exact List.countP_le_length) (Nat.zero_le _) g1 (fun _ => g2) (by simp only [List.length_nil] at hn; omega)
    exact this
  | x :: r, p, n + 1, hp, hr, hn => by
    have hf := fuel_big
    simp only [List.length_cons] at hn
    have e1 : ilt (ofN p.length) (ofN l.length) = true := by rw [hp]; exact lt_in
    have e2 : inb (ofN p.length) l.length = true := by rw [hp]; exact inb_in
    have e5 : ∀ d, l.getD (ofN p.length).toNat d = x := fun d => by rw [hp]; exact get_in
    have hplen : p.length ≤ 8 := by rw [hp] at hl; simp at hl; omega
    simp only [F10_c0, e1, e2, e5, cond_true]
    rw [viewR_r (show 70000 < FUEL by omega) x.1 x.2.1 x.2.2.1 x.2.2.2.1 x.2.2.2.2.1 x.2.2.2.2.2.1 x.2.2.2.2.2.2.1 x.2.2.2.2.2.2.2.1 x.2.2.2.2.2.2.2.2.1 x.2.2.2.2.2.2.2.2.2.1 x.2.2.2.2.2.2.2.2.2.2.1 x.2.2.2.2.2.2.2.2.2.2.2.1 x.2.2.2.2.2.2.2.2.2.2.2.2.1 x.2.2.2.2.2.2.2.2.2.2.2.2.2.1 x.2.2.2.2.2.2.2.2.2.2.2.2.2.2.1 x.2.2.2.2.2.2.2.2.2.2.2.2.2.2.2.1 x.2.2.2.2.2.2.2.2.2.2.2.2.2.2.2.2.1 x.2.2.2.2.2.2.2.2.2.2.2.2.2.2.2.2.2.1 x.2.2.2.2.2.2.2.2.2.2.2.2.2.2.2.2.2.2.1 x.2.2.2.2.2.2.2.2.2.2.2.2.2.2.2.2.2.2.2 (hw x (by rw [hp]; simp)), wakes18]
    show (Option.bind (some (rightV (vwT x))) _) = _
    rw [Option.bind_some]
    cases hx : rightV (vwT x)
    · rfl
    · simp only [Bool.not_true, cond_false]
      refine lcl_c1 l key a x p r hp (by omega) (r.length * 100 + 2000) (fun m hm => ?_) p [] n rfl (by omega)
      refine lcl_c0 a hl hne hw r (p ++ [x]) m (by rw [hp, in_eq]) (fun y hy => ?_) hm
      rcases List.mem_append.1 hy with hy | hy
      · exact hr y hy
      · rw [List.mem_singleton] at hy; rw [hy]; exact hx
end
theorem plain_LookCloser (n : Nat) (l : List VT) (key a : Int) (hw : ∀ x ∈ l, x.2.2.1.length ≤ 9223372036854775807) (hn : 100000 < n) : F10 n l key a = some true := by
  unfold F10
  rw [wakes18]
  by_cases hl : l.length ≤ 8
  · rw [show igt (ofN l.length) 8 = false from decide_eq_false (by simp only [ofN]; omega), cond_false]
    by_cases hne : l = []
    · subst hne; rfl
    · have hpos : ¬ l.length = 0 := fun h => hne (List.eq_nil_of_length_eq_zero h)
      rw [show ieq (ofN l.length) 0 = false by rw [ieq_dec]; exact decide_eq_false (by simp only [ofN]; omega), cond_false]
      have := lcl_c0 l key a hl hne hw l [] n rfl (fun x hx => by simp at hx) (by omega)
      simpa [ofN] using this
  · rw [show igt (ofN l.length) 8 = true from decide_eq_true (by simp only [ofN]; omega)]; rfl
end Go.Proofs.Ytlbdcdflffgehaa
