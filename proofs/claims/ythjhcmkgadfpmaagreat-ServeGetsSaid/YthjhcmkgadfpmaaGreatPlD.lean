/-
  What the functions compute, in plain words.
-/
import Derived.Test.YthjhcmkgadfpmaaGreatPlC
namespace Go.Proofs.YthjhcmkgadfpmaaGreat
open Go Go.RowKit
def t0 (m : MW) : MW := ⟨m.k + 6, m.c, m.t, m.f, 0, false, false, 0, 0, [], ByteArray.empty, 0, 0, false, 0⟩
def zM : MW := ⟨0, 0, 0, 0, 0, false, false, 0, 0, [], ByteArray.empty, 0, 0, false, 0⟩
def itm (m : MW) : IT := (m.ik, m.iv, m.ir, m.ig)
def tldN (x : NW) (m : MW) : MW :=
  if m.k = 1 then { t0 m with pr := x.v.pred, l := x.v.lst }
  else if m.k = 4 then { t0 m with d := (nextV x.v m.key m.s).2, p := (nextV x.v m.key m.s).1 }
  else if m.k = 5 then { t0 m with cd := (putV x.kp (itm m)).2 }
  else if m.k = 6 then { t0 m with ik := (getV x.kp m.ik).1.1, iv := (getV x.kp m.ik).1.2.1, ir := (getV x.kp m.ik).1.2.2.1, ig := (getV x.kp m.ik).1.2.2.2, cd := (getV x.kp m.ik).2 }
  else t0 m
def behN (x : NW) (m : MW) : NW :=
  if m.k = 3 then { x with v := { x.v with pred := ntf x.v.id x.v.pred [m.f] } }
  else if m.k = 5 then { x with kp := (putV x.kp (itm m)).1 } else x
def toT (m : MW) : MT := (m.k, m.c, m.f, m.t, m.key, m.s, m.d, m.p, m.pr, m.l, m.ik, m.iv, m.ir, m.ig, m.cd)
def servN (x : NW) (m : MW) : NW × MW :=
  bif servesN x m then (match x.sn.find? (isk m.f m.c) with
    | some p => (x, pm p)
    | none => ({ behN x m with sn := addA x.sn [toT (tldN x m)] }, tldN x m))
  else (x, zM)
theorem tellS_p (n : Nat) (m : MW) (h : askB m.k = true) : F111 n m.k m.c m.f m.t m.key m.s m.d m.p m.pr m.l m.ik m.iv m.ir m.ig m.cd = some ⟨m.k + 6, m.c, m.t, m.f, 0, false, false, 0, 0, ByteArray.empty, 0, 0, false, 0⟩ := by
  have := tell_p n m.k m.c m.f m.t m.key m.s m.d m.p m.pr m.l m.ik m.iv m.ir m.ig m.cd
  rw [h, cond_true] at this
  exact this
theorem servesN_iff {x : NW} {m : MW} (h : servesN x m = true) : askB m.k = true ∧ rightM m = true ∧ m.t = x.v.id ∧ rightN x = true := by
  unfold servesN at h
  simp only [Bool.and_eq_true, decide_eq_true_eq] at h
  exact h
theorem rightN_v {x : NW} (h : rightN x = true) : rightV x.v = true := by
  unfold rightN at h
  simp only [Bool.and_eq_true] at h
  exact h.2.2.2.2.2.1
theorem shortM_one {m : MW} (h : m.l.length < 1000) : shortM [toT m] := by
  intro y hy
  rw [List.mem_singleton.1 hy]; exact h
theorem hansS_p {n : Nat} (hn : 0 < n) (v : VW) (m : MW) (h : m.l.length < 1000) (ha : askedV v m = true) : F118 n v.id v.base v.lst v.pred v.f0 v.f1 v.f2 v.f3 v.f4 v.f5 v.f6 v.f7 v.f8 v.f9 v.f10 v.f11 v.f12 v.f13 v.f14 v.f15 m.k m.c m.f m.t m.key m.s m.d m.p m.pr m.l m.ik m.iv m.ir m.ig m.cd = some ⟨m.k + 6, m.c, m.t, m.f, 0, false, (nextV v m.key m.s).2, (nextV v m.key m.s).1, 0, ByteArray.empty, 0, 0, false, 0⟩ := by
  have := hanswer_p hn v.id v.base v.lst v.pred v.f0 v.f1 v.f2 v.f3 v.f4 v.f5 v.f6 v.f7 v.f8 v.f9 v.f10 v.f11 v.f12 v.f13 v.f14 v.f15 m.k m.c m.f m.t m.key m.s m.d m.p m.pr m.l m.ik m.iv m.ir m.ig m.cd h
  rw [show askedV ⟨v.id, v.base, v.lst, v.pred, v.f0, v.f1, v.f2, v.f3, v.f4, v.f5, v.f6, v.f7, v.f8, v.f9, v.f10, v.f11, v.f12, v.f13, v.f14, v.f15⟩ ⟨m.k, m.c, m.f, m.t, m.key, m.s, m.d, m.p, m.pr, m.l, m.ik, m.iv, m.ir, m.ig, m.cd⟩ = true from ha, cond_true] at this
  exact this
theorem ntfS_p {n : Nat} (hn : 2000 < n) (v : VW) (l : List Int) (h1 : v.base.length < 1000) (h2 : v.lst.length < 1000) (h3 : l.length < 1000) (hv : rightV v = true) :
    F116 n v.id v.base v.lst v.pred v.f0 v.f1 v.f2 v.f3 v.f4 v.f5 v.f6 v.f7 v.f8 v.f9 v.f10 v.f11 v.f12 v.f13 v.f14 v.f15 l = some ⟨v.id, ntf v.id v.pred l, v.f0, v.f1, v.f2, v.f3, v.f4, v.f5, v.f6, v.f7, v.f8, v.f9, v.f10, v.f11, v.f12, v.f13, v.f14, v.f15, v.base, v.lst⟩ := by
  have := notify_p hn v.id v.base v.lst v.pred v.f0 v.f1 v.f2 v.f3 v.f4 v.f5 v.f6 v.f7 v.f8 v.f9 v.f10 v.f11 v.f12 v.f13 v.f14 v.f15 l h1 h2 h3
  rw [show rightV ⟨v.id, v.base, v.lst, v.pred, v.f0, v.f1, v.f2, v.f3, v.f4, v.f5, v.f6, v.f7, v.f8, v.f9, v.f10, v.f11, v.f12, v.f13, v.f14, v.f15⟩ = true from hv] at this
  exact this
theorem nserve_p {n : Nat} (hn : 0 < n) (x : NW) (m : MW) (h : Sm x) (hm : m.l.length < 1000) (r : NW × MW) (hr : r = servN x m) :
    F11 n x.v.id x.v.base x.v.lst x.v.pred x.v.f0 x.v.f1 x.v.f2 x.v.f3 x.v.f4 x.v.f5 x.v.f6 x.v.f7 x.v.f8 x.v.f9 x.v.f10 x.v.f11 x.v.f12 x.v.f13 x.v.f14 x.v.f15 x.clk x.cid x.cmy x.op x.sn x.sp x.so x.fi.jw x.fi.jp x.fi.jk x.fi.ja x.fi.jh x.fi.js x.fi.jf x.fi.jc x.fi.jik x.fi.jiv x.fi.jir x.fi.jig x.fi.jo x.fi.jl x.fi.je x.mi.jw x.mi.jp x.mi.jk x.mi.ja x.mi.jh x.mi.js x.mi.jf x.mi.jc x.mi.jik x.mi.jiv x.mi.jir x.mi.jig x.mi.jo x.mi.jl x.mi.je x.cl.jw x.cl.jp x.cl.jk x.cl.ja x.cl.jh x.cl.js x.cl.jf x.cl.jc x.cl.jik x.cl.jiv x.cl.jir x.cl.jig x.cl.jo x.cl.jl x.cl.je x.nx x.la x.kp x.bd m.k m.c m.f m.t m.key m.s m.d m.p m.pr m.l m.ik m.iv m.ir m.ig m.cd = some ⟨r.1.v.id, r.1.v.base, r.1.v.lst, r.1.v.pred, r.1.v.f0, r.1.v.f1, r.1.v.f2, r.1.v.f3, r.1.v.f4, r.1.v.f5, r.1.v.f6, r.1.v.f7, r.1.v.f8, r.1.v.f9, r.1.v.f10, r.1.v.f11, r.1.v.f12, r.1.v.f13, r.1.v.f14, r.1.v.f15, r.1.clk, r.1.cid, r.1.cmy, r.1.sn, r.1.sp, r.1.so, r.1.fi.jw, r.1.fi.jp, r.1.fi.jk, r.1.fi.ja, r.1.fi.jh, r.1.fi.js, r.1.fi.jf, r.1.fi.jc, r.1.fi.jik, r.1.fi.jiv, r.1.fi.jir, r.1.fi.jig, r.1.fi.jo, r.1.fi.je, r.1.mi.jw, r.1.mi.jp, r.1.mi.jk, r.1.mi.ja, r.1.mi.jh, r.1.mi.js, r.1.mi.jf, r.1.mi.jc, r.1.mi.jik, r.1.mi.jiv, r.1.mi.jir, r.1.mi.jig, r.1.mi.jo, r.1.mi.je, r.1.cl.jw, r.1.cl.jp, r.1.cl.jk, r.1.cl.ja, r.1.cl.jh, r.1.cl.js, r.1.cl.jf, r.1.cl.jc, r.1.cl.jik, r.1.cl.jiv, r.1.cl.jir, r.1.cl.jig, r.1.cl.jo, r.1.cl.je, r.1.nx, r.1.la, r.1.kp, r.1.bd, r.2.k, r.2.c, r.2.f, r.2.t, r.2.key, r.2.s, r.2.d, r.2.p, r.2.pr, r.2.l, r.2.ik, r.2.iv, r.2.ir, r.2.ig, r.2.cd, r.1.op, r.1.fi.jl, r.1.mi.jl, r.1.cl.jl⟩ := by
  have hf := fuel_big
  have h1 := h.b
  have h2 := h.l
  have h4 := h.sn
  have h5 := h.kp
  obtain ⟨j, rfl⟩ : ∃ j, n = j + 1 := Nat.exists_eq_succ_of_ne_zero (by omega)
  unfold F11
  rw [nown_p FUEL x h, nserves_p FUEL x m h hm]
  simp only [Option.bind_some]
  cases hs : servesN x m
  · rw [hr]
    simp only [servN, hs, Bool.not_false, cond_true, cond_false, F11_c0]
    rw [mown_p FUEL 0 0 0 0 0 false false 0 0 [] ByteArray.empty 0 0 false 0 (by decide)]
    rfl
  · obtain ⟨ha, hrm, ht, hrn⟩ := servesN_iff hs
    rw [find_p x.sn m.f m.c (by omega) h.sns]
    simp only [servN, hs, cond_true] at hr
    cases hfd : x.sn.find? (isk m.f m.c) with
    | some p =>
      rw [hfd] at hr
      simp only [Bool.not_true, cond_false, Option.bind_some, mkF, cond_true, F11_c0]
      rw [mown_p FUEL (pm p).k (pm p).c (pm p).f (pm p).t (pm p).key (pm p).s (pm p).d (pm p).p (pm p).pr (pm p).l (pm p).ik (pm p).iv (pm p).ir (pm p).ig (pm p).cd (h.sns p (List.mem_of_find?_eq_some hfd)), hr]
      rfl
    | none =>
      rw [hfd] at hr
      simp only [Bool.not_true, cond_false, Option.bind_some, mkF]
      rw [tellS_p FUEL m ha]
      simp only [Option.bind_some, ieq_dec]
      simp only [askB, Bool.and_eq_true, decide_eq_true_eq] at ha
      rcases (show m.k = 1 ∨ m.k = 2 ∨ m.k = 3 ∨ m.k = 4 ∨ m.k = 5 ∨ m.k = 6 by omega) with hk | hk | hk | hk | hk | hk
      · have e : tldN x m = { t0 m with pr := x.v.pred, l := x.v.lst } := by unfold tldN; rw [if_pos hk]
        have e2 : behN x m = x := by unfold behN; rw [if_neg (by omega), if_neg (by omega)]
        have hadd := sadd_p hf x.sn [toT (tldN x m)] h4 h.sns (by simp) (shortM_one (by rw [e]; show x.v.lst.length < 1000; omega))
        rw [e] at hadd hr
        rw [e2] at hr
        simp only [toT, t0] at hadd
        rw [decide_eq_true hk, cond_true]
        rw [clone_p FUEL x.v.lst (by omega)]
        try simp only [Option.bind_some]
        rw [hadd]
        simp only [Option.bind_some]
        rw [mown_p]
        · rw [hr]; rfl
        · omega
      · have e : tldN x m = t0 m := by unfold tldN; rw [if_neg (by omega), if_neg (by omega), if_neg (by omega), if_neg (by omega)]
        have e2 : behN x m = x := by unfold behN; rw [if_neg (by omega), if_neg (by omega)]
        have hadd := sadd_p hf x.sn [toT (tldN x m)] h4 h.sns (by simp) (shortM_one (by rw [e]; show (0 : Nat) < 1000; omega))
        rw [e] at hadd hr
        rw [e2] at hr
        simp only [toT, t0] at hadd
        rw [decide_eq_false (show ¬ m.k = 1 by omega), cond_false, decide_eq_true hk, cond_true]
        try simp only [Option.bind_some]
        rw [hadd]
        simp only [Option.bind_some]
        rw [mown_p]
        · rw [hr]; rfl
        · decide
      · have e : tldN x m = t0 m := by unfold tldN; rw [if_neg (by omega), if_neg (by omega), if_neg (by omega), if_neg (by omega)]
        have e2 : behN x m = { x with v := { x.v with pred := ntf x.v.id x.v.pred [m.f] } } := by unfold behN; rw [if_pos hk]
        have hadd := sadd_p hf x.sn [toT (tldN x m)] h4 h.sns (by simp) (shortM_one (by rw [e]; show (0 : Nat) < 1000; omega))
        rw [e] at hadd hr
        rw [e2] at hr
        simp only [toT, t0] at hadd
        rw [decide_eq_false (show ¬ m.k = 1 by omega), cond_false, decide_eq_false (show ¬ m.k = 2 by omega), cond_false, decide_eq_true hk, cond_true]
        rw [ntfS_p (by omega) x.v [m.f] (by omega) (by omega) (by simp) (rightN_v hrn)]
        try simp only [Option.bind_some]
        rw [hadd]
        simp only [Option.bind_some]
        rw [mown_p]
        · rw [hr]; rfl
        · decide
      · have hak : askedV x.v m = true := by unfold askedV; rw [rightN_v hrn, decide_eq_true hk, decide_eq_true ht, hrm]; rfl
        have e : tldN x m = { t0 m with d := (nextV x.v m.key m.s).2, p := (nextV x.v m.key m.s).1 } := by unfold tldN; rw [if_neg (by omega), if_pos hk]
        have e2 : behN x m = x := by unfold behN; rw [if_neg (by omega), if_neg (by omega)]
        have hadd := sadd_p hf x.sn [toT (tldN x m)] h4 h.sns (by simp) (shortM_one (by rw [e]; show (0 : Nat) < 1000; omega))
        rw [e] at hadd hr
        rw [e2] at hr
        simp only [toT, t0] at hadd
        rw [decide_eq_false (show ¬ m.k = 1 by omega), cond_false, decide_eq_false (show ¬ m.k = 2 by omega), cond_false, decide_eq_false (show ¬ m.k = 3 by omega), cond_false, decide_eq_true hk, cond_true]
        rw [hansS_p (by omega) x.v m hm hak]
        try simp only [Option.bind_some]
        rw [hadd]
        simp only [Option.bind_some]
        rw [mown_p]
        · rw [hr]; rfl
        · decide
      · have e : tldN x m = { t0 m with cd := (putV x.kp (itm m)).2 } := by unfold tldN; rw [if_neg (by omega), if_neg (by omega), if_pos hk]
        have e2 : behN x m = { x with kp := (putV x.kp (itm m)).1 } := by unfold behN; rw [if_neg (by omega), if_pos hk]
        have hadd := sadd_p hf x.sn [toT (tldN x m)] h4 h.sns (by simp) (shortM_one (by rw [e]; show (0 : Nat) < 1000; omega))
        rw [e] at hadd hr
        rw [e2] at hr
        simp only [toT, t0] at hadd
        rw [decide_eq_false (show ¬ m.k = 1 by omega), cond_false, decide_eq_false (show ¬ m.k = 2 by omega), cond_false, decide_eq_false (show ¬ m.k = 3 by omega), cond_false, decide_eq_false (show ¬ m.k = 4 by omega), cond_false, decide_eq_true hk, cond_true]
        rw [kput_p (by omega) x.kp (by omega) m.ik m.iv m.ir m.ig]
        simp only [Option.bind_some, mkG, itm] at hadd ⊢
        rw [hadd]
        simp only [Option.bind_some]
        rw [mown_p]
        · rw [hr]; rfl
        · decide
      · have e : tldN x m = { t0 m with ik := (getV x.kp m.ik).1.1, iv := (getV x.kp m.ik).1.2.1, ir := (getV x.kp m.ik).1.2.2.1, ig := (getV x.kp m.ik).1.2.2.2, cd := (getV x.kp m.ik).2 } := by unfold tldN; rw [if_neg (by omega), if_neg (by omega), if_neg (by omega), if_pos hk]
        have e2 : behN x m = x := by unfold behN; rw [if_neg (by omega), if_neg (by omega)]
        have hadd := sadd_p hf x.sn [toT (tldN x m)] h4 h.sns (by simp) (shortM_one (by rw [e]; show (0 : Nat) < 1000; omega))
        rw [e] at hadd hr
        rw [e2] at hr
        simp only [toT, t0] at hadd
        rw [decide_eq_false (show ¬ m.k = 1 by omega), cond_false, decide_eq_false (show ¬ m.k = 2 by omega), cond_false, decide_eq_false (show ¬ m.k = 3 by omega), cond_false, decide_eq_false (show ¬ m.k = 4 by omega), cond_false, decide_eq_false (show ¬ m.k = 5 by omega), cond_false, decide_eq_true hk, cond_true]
        rw [kget_p FUEL x.kp (by omega) m.ik]
        simp only [Option.bind_some, mkG, itm] at hadd ⊢
        rw [hadd]
        simp only [Option.bind_some]
        rw [mown_p]
        · rw [hr]; rfl
        · decide
end Go.Proofs.YthjhcmkgadfpmaaGreat
namespace Go.Proofs.YthjhcmkgadfpmaaGreat
open Go Go.RowKit
theorem wakes22 : F10 FUEL = some true := by kernel_rfl
theorem mgreat22 (n : Nat) (m : MW) : ∃ g, F9 n m.k m.c m.f m.t m.key m.s m.d m.p m.pr m.l m.ik m.iv m.ir m.ig m.cd = some g ∧ (g = false → m.l.length ≤ 20) := by
  unfold F9
  rw [gt20]
  by_cases h : m.l.length ≤ 20
  · rw [decide_eq_true h]; exact ⟨_, rfl, fun _ => h⟩
  · rw [decide_eq_false h]; exact ⟨true, rfl, fun h => by cases h⟩
theorem servN_not {x : NW} {m : MW} (h : servesN x m = false) : servN x m = (x, zM) := by
  unfold servN; rw [h]; rfl
theorem servN_found {x : NW} {m : MW} {p : PT} (h : servesN x m = true) (hf : x.sn.find? (isk m.f m.c) = some p) : servN x m = (x, pm p) := by
  unfold servN; rw [h, hf]; rfl
theorem servN_fresh {x : NW} {m : MW} (h : servesN x m = true) (hf : x.sn.find? (isk m.f m.c) = none) : servN x m = ({ behN x m with sn := addS x.sn (tldN x m) }, tldN x m) := by
  unfold servN; rw [h, hf]; rfl
theorem behN_v (x : NW) (m : MW) : (behN x m).v.id = x.v.id ∧ (behN x m).v.base = x.v.base ∧ (behN x m).v.lst = x.v.lst := by
  unfold behN; split
  · exact ⟨rfl, rfl, rfl⟩
  · split <;> exact ⟨rfl, rfl, rfl⟩
theorem behN_f (x : NW) (m : MW) : (behN x m).op = x.op ∧ (behN x m).fi = x.fi ∧ (behN x m).mi = x.mi ∧ (behN x m).cl = x.cl := by
  unfold behN; split
  · exact ⟨rfl, rfl, rfl, rfl⟩
  · split <;> exact ⟨rfl, rfl, rfl, rfl⟩
theorem rightN_k {x : NW} (h : rightN x = true) : keepB x.kp = true := by
  unfold rightN at h
  simp only [Bool.and_eq_true] at h
  exact h.2.2.2.2.2.2.2.2.2.1
theorem keepB_len {k : List IT} (h : keepB k = true) : k.length ≤ 24 := ((keepB_iff k).1 h).1
theorem behN_k {x : NW} (m : MW) (h : keepB x.kp = true) : keepB (behN x m).kp = true := by
  unfold behN; split
  · exact h
  · split
    · exact putV_keep _ h
    · exact h
theorem tldN_len (x : NW) (m : MW) : (tldN x m).l.length ≤ x.v.lst.length := by
  unfold tldN; split
  · exact Nat.le_refl _
  · split
    · exact Nat.zero_le _
    · split
      · exact Nat.zero_le _
      · split <;> exact Nat.zero_le _
theorem servN_sm {x : NW} {m : MW} (h : Sm x) : Sm (servN x m).1 := by
  cases hs : servesN x m
  · rw [servN_not hs]; exact h
  · cases hf : x.sn.find? (isk m.f m.c) with
    | some p => rw [servN_found hs hf]; exact h
    | none =>
      rw [servN_fresh hs hf]
      obtain ⟨v1, v2, v3⟩ := behN_v x m
      obtain ⟨f1, f2, f3, f4⟩ := behN_f x m
      have hk := keepB_len (behN_k m (rightN_k (servesN_iff hs).2.2.2))
      have hl := tldN_len x m
      have ha := addS_len x.sn (tldN x m)
      obtain ⟨h1, h2, h3, h4, h5, h6, h7, h8, h9, h10⟩ := h
      exact ⟨by rw [v2]; exact h1, by rw [v3]; exact h2, by rw [f1]; exact h3, by rw [f1]; exact h4, by show (addS x.sn (tldN x m)).length ≤ 60; omega, shortP_addS h6 (by omega), by show (behN x m).kp.length ≤ 40; omega, by rw [f2]; exact h8, by rw [f3]; exact h9, by rw [f4]; exact h10⟩
end Go.Proofs.YthjhcmkgadfpmaaGreat
namespace Go.Proofs.YthjhcmkgadfpmaaGreat
open Go Go.RowKit
def okP (x : PT) : Bool := toldP (pm x) && (decide ((pm x).t = x.1) && decide ((pm x).c = x.2.1))
theorem rgP_iff : ∀ {l p : List PT}, rgP p l = true ↔ (∀ x ∈ l, okP x = true ∧ p.any (isk x.1 x.2.1) = false) ∧ l.Pairwise (fun a b => isk b.1 b.2.1 a = false)
  | [], p => by simp [rgP]
  | x :: r, p => by
    have ih := rgP_iff (l := r) (p := p ++ [x])
    unfold rgP
    simp only [Bool.and_eq_true, decide_eq_true_eq, Bool.not_eq_true', List.pairwise_cons]
    rw [ih]
    simp only [List.any_append, List.any_cons, List.any_nil, Bool.or_false, Bool.or_eq_false_iff]
    have hk : okP x = true ↔ toldP (pm x) = true ∧ (pm x).t = x.1 ∧ (pm x).c = x.2.1 := by
      unfold okP; simp only [Bool.and_eq_true, decide_eq_true_eq]
    constructor
    · rintro ⟨h1, h2, h3, h4, h5, h6⟩
      refine ⟨fun y hy => ?_, fun y hy => (h5 y hy).2.2, h6⟩
      rcases List.mem_cons.1 hy with rfl | hy
      · exact ⟨hk.2 ⟨h1, h2, h3⟩, h4⟩
      · exact ⟨(h5 y hy).1, (h5 y hy).2.1⟩
    · rintro ⟨h1, h2, h3⟩
      obtain ⟨k1, k2⟩ := h1 x (by simp)
      obtain ⟨a1, a2, a3⟩ := hk.1 k1
      exact ⟨a1, a2, a3, k2, fun y hy => ⟨(h1 y (by simp [hy])).1, (h1 y (by simp [hy])).2, h2 y hy⟩, h3⟩
theorem rightP_iff {l : List PT} : rightP l = true ↔ l.length ≤ 40 ∧ (∀ x ∈ l, okP x = true) ∧ l.Pairwise (fun a b => isk b.1 b.2.1 a = false) := by
  unfold rightP
  rw [Bool.and_eq_true, rgP_iff, decide_eq_true_eq]
  constructor
  · rintro ⟨⟨h1, h2⟩, h3⟩; exact ⟨h3, fun x hx => (h1 x hx).1, h2⟩
  · rintro ⟨h1, h2, h3⟩; exact ⟨⟨fun x hx => ⟨h2 x hx, rfl⟩, h3⟩, h1⟩
theorem isk_at {f c : Int} {x : PT} : isk f c x = true ↔ x.1 = f ∧ x.2.1 = c := by unfold isk; simp
theorem rightP_addS {l : List PT} (h : rightP l = true) (m : MW) : rightP (addS l m) = true := by
  unfold addS
  split
  · rename_i hc
    rw [Bool.and_eq_true] at hc
    obtain ⟨h1, h2⟩ := hc
    rw [rightP_iff] at h ⊢
    obtain ⟨k1, k2, k3⟩ := h
    refine ⟨by rw [l40_len]; omega, fun x hx => ?_, ?_⟩
    · rcases List.mem_append.1 (List.mem_of_mem_drop hx) with hx | hx
      · exact k2 x hx
      · simp only [List.mem_singleton] at hx
        subst hx
        show (toldP m && (decide (m.t = m.t) && decide (m.c = m.c))) = true
        rw [h1]; simp
    · refine List.Pairwise.sublist (List.drop_sublist _ _) ?_
      rw [List.pairwise_append]
      refine ⟨k3, by simp, fun a ha b hb => ?_⟩
      simp only [List.mem_singleton] at hb
      subst hb
      simp only [Bool.not_eq_true', List.any_eq_false] at h2
      have := h2 a ha
      show isk m.t m.c a = false
      simpa using this
  · exact h
def freshP (l : List PT) (m : MW) : Bool := rightM m && (askB m.k && !l.any (isk m.f m.c))
theorem fresh_r (n : Nat) (l : List PT) (m : MW) (h : l.length < 1000) (hs : shortP l) (hm : m.l.length < 1000) : F23 n l m.k m.c m.f m.t m.key m.s m.d m.p m.pr m.l m.ik m.iv m.ir m.ig m.cd = some (freshP l m) := by
  have hf := fuel_big
  unfold F23 freshP
  have hr : F21 FUEL m.k m.c m.f m.t m.key m.s m.d m.p m.pr m.l m.ik m.iv m.ir m.ig m.cd = some (rightM m) := mright_r FUEL m.k m.c m.f m.t m.key m.s m.d m.p m.pr m.l m.ik m.iv m.ir m.ig m.cd hm
  have ha : F22 FUEL m.k m.c m.f m.t m.key m.s m.d m.p m.pr m.l m.ik m.iv m.ir m.ig m.cd = some (askB m.k) := msgasks_r FUEL m.k m.c m.f m.t m.key m.s m.d m.p m.pr m.l m.ik m.iv m.ir m.ig m.cd
  rw [hr, ha, find_r (by omega) l m.f m.c h hs]
  simp only [Option.bind_some, mkF_q]
  cases rightM m
  · rfl
  · cases askB m.k <;> rfl
theorem tldN_f (x : NW) (m : MW) : (tldN x m).k = m.k + 6 ∧ (tldN x m).c = m.c ∧ (tldN x m).f = m.t ∧ (tldN x m).t = m.f := by
  unfold tldN; split
  · exact ⟨rfl, rfl, rfl, rfl⟩
  · split
    · exact ⟨rfl, rfl, rfl, rfl⟩
    · split
      · exact ⟨rfl, rfl, rfl, rfl⟩
      · split <;> exact ⟨rfl, rfl, rfl, rfl⟩
theorem behN_rv {x : NW} (m : MW) (h : rightV x.v = true) : rightV (behN x m).v = true := by
  unfold behN; split
  · show rightV { x.v with pred := ntf x.v.id x.v.pred [m.f] } = true
    simp only [ntf]
    split
    · rename_i hb; exact rightV_pred (p := x.v.pred) h (better_oth hb)
    · exact h
  · split <;> exact h
theorem behN_o (x : NW) (m : MW) : (behN x m).clk = x.clk ∧ (behN x m).bd = x.bd ∧ (behN x m).nx = x.nx ∧ (behN x m).cid = x.cid ∧ (behN x m).cmy = x.cmy ∧ (behN x m).sp = x.sp ∧ (behN x m).so = x.so ∧ (behN x m).la = x.la := by
  unfold behN; split
  · exact ⟨rfl, rfl, rfl, rfl, rfl, rfl, rfl, rfl⟩
  · split <;> exact ⟨rfl, rfl, rfl, rfl, rfl, rfl, rfl, rfl⟩
theorem rightN_iff (x : NW) : rightN x = true ↔ (ige x.clk 0 = true ∧ ile x.clk 1099511627776 = true ∧ ige x.bd 0 = true ∧ ige x.nx 0 = true ∧ ilt x.nx 16 = true) ∧ rightV x.v = true ∧ x.cid = x.v.id ∧ rightC x.cid x.cmy x.op = true ∧ rightS x.sp x.so = true ∧ keepB x.kp = true ∧ rightP x.sn = true ∧ ownB x.v.id x.sn = true := by
  unfold rightN
  simp only [Bool.and_eq_true, decide_eq_true_eq]
  grind
theorem ownB_addS {id : Int} {l : List PT} {T : MW} (h : ownB id l = true) (ht : T.f = id) : ownB id (addS l T) = true := by
  unfold ownB at h ⊢
  rw [List.all_eq_true] at h ⊢
  intro y hy
  unfold addS at hy
  split at hy
  · rcases List.mem_append.1 (List.mem_of_mem_drop hy) with hy | hy
    · exact h y hy
    · rw [List.mem_singleton.1 hy]; exact decide_eq_true ht
  · exact h y hy
theorem servN_right {x : NW} {m : MW} (h : rightN x = true) : rightN (servN x m).1 = true := by
  cases hs : servesN x m
  · rw [servN_not hs]; exact h
  · cases hf : x.sn.find? (isk m.f m.c) with
    | some p => rw [servN_found hs hf]; exact h
    | none =>
      rw [servN_fresh hs hf]
      rw [rightN_iff] at h ⊢
      obtain ⟨⟨a1, a2, a3, a4, a5⟩, b1, b2, b3, b4, b5, b6, b7⟩ := h
      obtain ⟨o1, o2, o3, o4, o5, o6, o7, o8⟩ := behN_o x m
      obtain ⟨v1, v2, v3⟩ := behN_v x m
      obtain ⟨f1, f2, f3, f4⟩ := behN_f x m
      refine ⟨⟨by rw [o1]; exact a1, by rw [o1]; exact a2, by rw [o2]; exact a3, by rw [o3]; exact a4, by rw [o3]; exact a5⟩, behN_rv m b1, by rw [o4, v1]; exact b2, by rw [o4, o5, f1]; exact b3, by rw [o6, o7]; exact b4, behN_k m b5, rightP_addS b6 _, ?_⟩
      show ownB (behN x m).v.id (addS x.sn (tldN x m)) = true
      rw [v1]
      exact ownB_addS b7 ((tldN_f x m).2.2.1.trans (servesN_iff hs).2.2.1)
theorem servN_id (x : NW) (m : MW) : (servN x m).1.v.id = x.v.id := by
  cases hs : servesN x m
  · rw [servN_not hs]
  · cases hf : x.sn.find? (isk m.f m.c) with
    | some p => rw [servN_found hs hf]
    | none => rw [servN_fresh hs hf]; exact (behN_v x m).1
end Go.Proofs.YthjhcmkgadfpmaaGreat
namespace Go.Proofs.YthjhcmkgadfpmaaGreat
open Go Go.RowKit
end Go.Proofs.YthjhcmkgadfpmaaGreat
namespace Go.Proofs.YthjhcmkgadfpmaaGreat
open Go Go.RowKit
end Go.Proofs.YthjhcmkgadfpmaaGreat
namespace Go.Proofs.YthjhcmkgadfpmaaGreat
open Go Go.RowKit
structure Btw (id fr cg : Int) (it : IT) (a : NW) : Prop where
  sm : Sm a
  rt : rightN a = true
  id : a.v.id = id
  fresh : a.sn.any (isk fr cg) = false
  kept : ∃ y, fnd a.kp it.1 = some y ∧ newI it y = false
theorem addS_any {l : List PT} {T : MW} {f c : Int} (h : l.any (isk f c) = false) (hn : ¬ (T.t = f ∧ T.c = c)) : (addS l T).any (isk f c) = false := by
  rw [List.any_eq_false] at h ⊢
  intro y hy
  unfold addS at hy
  split at hy
  · rcases List.mem_append.1 (List.mem_of_mem_drop hy) with hy | hy
    · exact h y hy
    · rw [List.mem_singleton.1 hy, isk_at]; exact hn
  · exact h y hy
theorem put_kept {k : List IT} (y : IT) (hk : keepB k = true) {it : IT} (h : ∃ z, fnd k it.1 = some z ∧ newI it z = false) : ∃ z, fnd (putV k y).1 it.1 = some z ∧ newI it z = false := by
  rcases putV_cases y hk with ⟨_, e⟩ | ⟨_, _, _, e⟩ | ⟨_, _, e⟩
  · rw [e]; exact h
  · rw [e]; exact h
  · rw [e]
    obtain ⟨z, h1, h2⟩ := h
    show ∃ w, fnd (ins y k) it.1 = some w ∧ newI it w = false
    rw [ins_fnd y ((keepB_iff k).1 hk).2.2]
    split
    · refine ⟨_, rfl, ?_⟩
      rw [h1]
      show newI it (bif newI y z then y else z) = false
      cases hn : newI y z
      · exact h2
      · rw [cond_true]
        cases h3 : newI it y
        · rfl
        · rw [newI_trans h3 hn] at h2; cases h2
    · exact ⟨z, h1, h2⟩
theorem btw_serve {id fr cg : Int} {it : IT} {a : NW} (h : Btw id fr cg it a) (m : MW) (hm : ¬ (m.f = fr ∧ m.c = cg)) : Btw id fr cg it (servN a m).1 := by
  refine ⟨servN_sm h.sm, servN_right h.rt, (servN_id a m).trans h.id, ?_, ?_⟩
  · cases hs : servesN a m
    · rw [servN_not hs]; exact h.fresh
    · cases hf : a.sn.find? (isk m.f m.c) with
      | some p => rw [servN_found hs hf]; exact h.fresh
      | none =>
        rw [servN_fresh hs hf]
        obtain ⟨_, k2, _, k4⟩ := tldN_f a m
        exact addS_any h.fresh (by rw [k2, k4]; exact hm)
  · cases hs : servesN a m
    · rw [servN_not hs]; exact h.kept
    · cases hf : a.sn.find? (isk m.f m.c) with
      | some p => rw [servN_found hs hf]; exact h.kept
      | none =>
        rw [servN_fresh hs hf]
        show ∃ y, fnd (behN a m).kp it.1 = some y ∧ newI it y = false
        unfold behN
        split
        · exact h.kept
        · split
          · exact put_kept _ (rightN_k h.rt) h.kept
          · exact h.kept
theorem fnd_none_any {l : List PT} {f c : Int} (h : l.any (isk f c) = false) : l.find? (isk f c) = none := by
  rw [List.find?_eq_none]; rw [List.any_eq_false] at h; exact h
theorem gets_c (id : Int) (G : MW) (hG : G.l = []) (hGr : rightM G = true) (hGk : G.k = 6) (hGt : G.t = id) (ik : ByteArray) (iv ir : Int) (ig : Bool) (hGi : G.ik = ik) :
    ∀ (r p : List MT) (n : Nat) (a : NW), Btw id G.f G.c (ik, iv, ir, ig) a → r.length < n → (p ++ r).length < 1000 → F7_c0 n G.f (p ++ r) (ofN p.length) ik iv ir ig G.k G.c G.f G.t G.key G.s G.d G.p G.pr G.ik G.iv G.ir G.ig G.cd a.v.id a.v.base a.v.lst a.v.pred a.v.f0 a.v.f1 a.v.f2 a.v.f3 a.v.f4 a.v.f5 a.v.f6 a.v.f7 a.v.f8 a.v.f9 a.v.f10 a.v.f11 a.v.f12 a.v.f13 a.v.f14 a.v.f15 a.clk a.cid a.cmy a.op a.sn a.sp a.so a.fi.jw a.fi.jp a.fi.jk a.fi.ja a.fi.jh a.fi.js a.fi.jf a.fi.jc a.fi.jik a.fi.jiv a.fi.jir a.fi.jig a.fi.jo a.fi.jl a.fi.je a.mi.jw a.mi.jp a.mi.jk a.mi.ja a.mi.jh a.mi.js a.mi.jf a.mi.jc a.mi.jik a.mi.jiv a.mi.jir a.mi.jig a.mi.jo a.mi.jl a.mi.je a.cl.jw a.cl.jp a.cl.jk a.cl.ja a.cl.jh a.cl.js a.cl.jf a.cl.jc a.cl.jik a.cl.jiv a.cl.jir a.cl.jig a.cl.jo a.cl.jl a.cl.je a.nx a.la a.kp a.bd = some true
  | _, _, 0, _, _, h, _ => by omega
  | [], p, n + 1, a, hb, _, _ => by
    have hf := fuel_big
    simp only [F7_c0, List.append_nil, lt_out, cond_false]
    have hsv : servesN a G = true := by
      unfold servesN
      rw [hGk, hGr, hGt, hb.id, hb.rt, decide_eq_true rfl]; rfl
    obtain ⟨r, hr⟩ : ∃ r, r = servN a G := ⟨_, rfl⟩
    have hp := nserve_p (n := FUEL) (by omega) a G hb.sm (by rw [hG]; decide) r hr
    rw [hG] at hp
    rw [hp]
    simp only [Option.bind_some]
    have e := servN_fresh hsv (fnd_none_any hb.fresh)
    have e1 : tldN a G = { t0 G with ik := (getV a.kp G.ik).1.1, iv := (getV a.kp G.ik).1.2.1, ir := (getV a.kp G.ik).1.2.2.1, ig := (getV a.kp G.ik).1.2.2.2, cd := (getV a.kp G.ik).2 } := by
      unfold tldN; rw [if_neg (by omega), if_neg (by omega), if_neg (by omega), if_pos hGk]
    obtain ⟨y, hy, hny⟩ := hb.kept
    have hg : getV a.kp G.ik = (y, 0) := by
      unfold getV; rw [rightN_k hb.rt, hGi, cond_true, show fnd a.kp ik = some y from hy]
    have p1 : r.2.cd = 0 ∧ r.2.ik = y.1 ∧ r.2.iv = y.2.1 ∧ r.2.ir = y.2.2.1 ∧ r.2.ig = y.2.2.2 := by
      rw [hr, e, e1, hg]; exact ⟨rfl, rfl, rfl, rfl, rfl⟩
    obtain ⟨p1, p2, p3, p4, p5⟩ := p1
    have hk : y.1 = ik := fnd_key hy
    rw [p1, p2, p3, p4, p5, hk, newer_r, show newI (ik, iv, ir, ig) (ik, y.2.1, y.2.2.1, y.2.2.2) = false by rw [← hk]; rw [← hk] at hny; exact hny, wakes22, steq_dec, decide_eq_true rfl]
    rfl
  | x :: r, p, n + 1, a, hb, h, hl => by
    have hf := fuel_big
    simp only [F7_c0, lt_in, inb_in, get_in, cond_true]
    simp only [List.length_append, List.length_cons] at h hl
    obtain ⟨g, hg, hm⟩ := mgreat22 FUEL (mw x)
    rw [show F9 FUEL x.1 x.2.1 x.2.2.1 x.2.2.2.1 x.2.2.2.2.1 x.2.2.2.2.2.1 x.2.2.2.2.2.2.1 x.2.2.2.2.2.2.2.1 x.2.2.2.2.2.2.2.2.1 x.2.2.2.2.2.2.2.2.2.1 x.2.2.2.2.2.2.2.2.2.2.1 x.2.2.2.2.2.2.2.2.2.2.2.1 x.2.2.2.2.2.2.2.2.2.2.2.2.1 x.2.2.2.2.2.2.2.2.2.2.2.2.2.1 x.2.2.2.2.2.2.2.2.2.2.2.2.2.2 = some g from hg, wakes22]
    simp only [Option.bind_some]
    cases g
    · rw [cond_false]
      cases hfr : ieq x.2.2.1 G.f
      · rw [cond_false]
        obtain ⟨s, hs⟩ : ∃ s, s = servN a (mw x) := ⟨_, rfl⟩
        rw [show F11 FUEL a.v.id a.v.base a.v.lst a.v.pred a.v.f0 a.v.f1 a.v.f2 a.v.f3 a.v.f4 a.v.f5 a.v.f6 a.v.f7 a.v.f8 a.v.f9 a.v.f10 a.v.f11 a.v.f12 a.v.f13 a.v.f14 a.v.f15 a.clk a.cid a.cmy a.op a.sn a.sp a.so a.fi.jw a.fi.jp a.fi.jk a.fi.ja a.fi.jh a.fi.js a.fi.jf a.fi.jc a.fi.jik a.fi.jiv a.fi.jir a.fi.jig a.fi.jo a.fi.jl a.fi.je a.mi.jw a.mi.jp a.mi.jk a.mi.ja a.mi.jh a.mi.js a.mi.jf a.mi.jc a.mi.jik a.mi.jiv a.mi.jir a.mi.jig a.mi.jo a.mi.jl a.mi.je a.cl.jw a.cl.jp a.cl.jk a.cl.ja a.cl.jh a.cl.js a.cl.jf a.cl.jc a.cl.jik a.cl.jiv a.cl.jir a.cl.jig a.cl.jo a.cl.jl a.cl.je a.nx a.la a.kp a.bd x.1 x.2.1 x.2.2.1 x.2.2.2.1 x.2.2.2.2.1 x.2.2.2.2.2.1 x.2.2.2.2.2.2.1 x.2.2.2.2.2.2.2.1 x.2.2.2.2.2.2.2.2.1 x.2.2.2.2.2.2.2.2.2.1 x.2.2.2.2.2.2.2.2.2.2.1 x.2.2.2.2.2.2.2.2.2.2.2.1 x.2.2.2.2.2.2.2.2.2.2.2.2.1 x.2.2.2.2.2.2.2.2.2.2.2.2.2.1 x.2.2.2.2.2.2.2.2.2.2.2.2.2.2 = _ from nserve_p (n := FUEL) (by omega) a (mw x) hb.sm (by have := hm rfl; omega) s hs]
        simp only [Option.bind_some]
        rw [add_in (x := x) (by omega)]
        have hn : ¬ ((mw x).f = G.f ∧ (mw x).c = G.c) := by
          rintro ⟨e1, _⟩
          rw [ieq_dec, decide_eq_true (show x.2.2.1 = G.f from e1)] at hfr; cases hfr
        have hb2 : Btw id G.f G.c (ik, iv, ir, ig) s.1 := by rw [hs]; exact btw_serve hb (mw x) hn
        have h1 := gets_c id G hG hGr hGk hGt ik iv ir ig hGi r (p ++ [x]) n s.1 hb2 (by omega) (by simp; omega)
        rw [← in_eq] at h1
        exact h1
      · rfl
    · rfl
theorem gets_x {n : Nat} (hn : 2000 < n) (x : NW) (ik : ByteArray) (iv ir : Int) (ig : Bool) (fr : Int) (l : List MT) : F7 n x.v.id x.v.base x.v.lst x.v.pred x.v.f0 x.v.f1 x.v.f2 x.v.f3 x.v.f4 x.v.f5 x.v.f6 x.v.f7 x.v.f8 x.v.f9 x.v.f10 x.v.f11 x.v.f12 x.v.f13 x.v.f14 x.v.f15 x.clk x.cid x.cmy x.op x.sn x.sp x.so x.fi.jw x.fi.jp x.fi.jk x.fi.ja x.fi.jh x.fi.js x.fi.jf x.fi.jc x.fi.jik x.fi.jiv x.fi.jir x.fi.jig x.fi.jo x.fi.jl x.fi.je x.mi.jw x.mi.jp x.mi.jk x.mi.ja x.mi.jh x.mi.js x.mi.jf x.mi.jc x.mi.jik x.mi.jiv x.mi.jir x.mi.jig x.mi.jo x.mi.jl x.mi.je x.cl.jw x.cl.jp x.cl.jk x.cl.ja x.cl.jh x.cl.js x.cl.jf x.cl.jc x.cl.jik x.cl.jiv x.cl.jir x.cl.jig x.cl.jo x.cl.jl x.cl.je x.nx x.la x.kp x.bd ik iv ir ig fr l = some true := by
  have hf := fuel_big
  unfold F7
  obtain ⟨g, hg, hs⟩ := ngreat (n := FUEL) (by omega) x
  rw [hg, wakes22]
  simp only [Option.bind_some]
  cases g
  · replace hs := hs rfl
    have h4 := hs.sn
    have h5 := hs.kp
    rw [rightN_r FUEL x hs, pair_r]
    simp only [Option.bind_some]
    cases hR : rightN x
    · rfl
    cases hP : pairB ik iv ir
    · rfl
    cases c1 : ilt fr 0
    case true => rfl
    cases c2 : ige fr 65536
    case true => rfl
    cases c3 : ieq fr x.v.id
    case true => rfl
    cases c4 : igt (ofN l.length) 10
    case true => rfl
    have d1 : 0 ≤ fr ∧ fr < 65536 ∧ fr ≠ x.v.id ∧ l.length ≤ 10 := by
      unfold ilt at c1; unfold ige at c2; rw [ieq_dec] at c3; unfold igt ofN at c4
      simp only [decide_eq_false_iff_not] at c1 c2 c3 c4
      exact ⟨by omega, by omega, c3, by omega⟩
    obtain ⟨d1, d2, d3, d4⟩ := d1
    have ep : iadd .i64 (imul .i64 fr 1048576) 1048575 = fr * 1048576 + 1048575 := by
      simp only [iadd, imul]; rw [wrap_mid (n := fr * 1048576) (by omega) (by omega), wrap_mid (by omega) (by omega)]
    have eg : iadd .i64 (imul .i64 fr 1048576) 1048576 = fr * 1048576 + 1048576 := by
      simp only [iadd, imul]; rw [wrap_mid (n := fr * 1048576) (by omega) (by omega), wrap_mid (by omega) (by omega)]
    simp only [cond_false, Bool.not_true, F30, Option.bind_some, ep, eg]
    obtain ⟨p, hp⟩ : ∃ p : MW, p = ⟨5, fr * 1048576 + 1048575, fr, x.v.id, 0, false, false, 0, 0, [], ik, iv, ir, ig, 0⟩ := ⟨_, rfl⟩
    obtain ⟨G, hG⟩ : ∃ p : MW, p = ⟨6, fr * 1048576 + 1048576, fr, x.v.id, 0, false, false, 0, 0, [], ik, 0, 0, false, 0⟩ := ⟨_, rfl⟩
    have f1 : F23 FUEL x.sn 5 (fr * 1048576 + 1048575) fr x.v.id 0 false false 0 0 [] ik iv ir ig 0 = some (freshP x.sn p) := by
      have := fresh_r FUEL x.sn p (by omega) hs.sns (by rw [hp]; show (0 : Nat) < 1000; omega)
      rw [hp] at this ⊢; exact this
    have f2 : F23 FUEL x.sn 6 (fr * 1048576 + 1048576) fr x.v.id 0 false false 0 0 [] ik 0 0 false 0 = some (freshP x.sn G) := by
      have := fresh_r FUEL x.sn G (by omega) hs.sns (by rw [hG]; show (0 : Nat) < 1000; omega)
      rw [hG] at this ⊢; exact this
    rw [f1, f2]
    simp only [Option.bind_some]
    cases q1 : freshP x.sn p
    · rfl
    cases q2 : freshP x.sn G
    · rfl
    unfold freshP at q1 q2
    simp only [Bool.and_eq_true, Bool.not_eq_true'] at q1 q2
    have hsv : servesN x p = true := by
      unfold servesN
      rw [q1.2.1, q1.1, hR, show p.t = x.v.id by rw [hp], decide_eq_true rfl]; rfl
    obtain ⟨r, hr⟩ : ∃ r, r = servN x p := ⟨_, rfl⟩
    have g1 := nserve_p (n := FUEL) (by omega) x p hs (by rw [hp]; show (0 : Nat) < 1000; omega) r hr
    rw [hp] at g1
    simp only at g1
    rw [g1]
    simp only [Option.bind_some, Bool.not_true, cond_false]
    have e := servN_fresh hsv (fnd_none_any q1.2.2)
    have pk : p.k = 5 := by rw [hp]
    have e1 : tldN x p = { t0 p with cd := (putV x.kp (itm p)).2 } := by
      unfold tldN; rw [if_neg (by omega), if_neg (by omega), if_pos pk]
    have e2 : behN x p = { x with kp := (putV x.kp (itm p)).1 } := by
      unfold behN; rw [if_neg (by omega), if_pos pk]
    have ei : itm p = (ik, iv, ir, ig) := by rw [hp]; rfl
    have p1 : r.2.cd = (putV x.kp (ik, iv, ir, ig)).2 := by rw [hr, e, e1, ei]
    have p2 : r.1.kp = (putV x.kp (ik, iv, ir, ig)).1 := by rw [hr, e, e2, ei]
    have p3 : r.1.sn = addS x.sn (tldN x p) := by rw [hr, e]
    rw [p1]
    rcases putV_cases (ik, iv, ir, ig) (rightN_k hR) with ⟨e3, _⟩ | ⟨_, _, e4, e5⟩ | ⟨_, _, e5⟩
    · rw [show pairI (ik, iv, ir, ig) = true from hP] at e3; cases e3
    · rw [e5, e4]; rfl
    · rw [e5] at p2
      rw [e5]
      have hb : Btw x.v.id G.f G.c (ik, iv, ir, ig) r.1 := by
        refine ⟨by rw [hr]; exact servN_sm hs, by rw [hr]; exact servN_right hR, by rw [hr]; exact servN_id x p, ?_, ?_⟩
        · rw [p3]
          obtain ⟨_, k2, _, k4⟩ := tldN_f x p
          refine addS_any q2.2.2 ?_
          rw [k2, k4, hp, hG]
          rintro ⟨_, h2⟩
          simp only at h2
          omega
        · rw [p2]
          show ∃ y, fnd (ins (ik, iv, ir, ig) x.kp) ik = some y ∧ newI (ik, iv, ir, ig) y = false
          rw [ins_fnd _ ((keepB_iff x.kp).1 (rightN_k hR)).2.2, if_pos rfl]
          refine ⟨_, rfl, ?_⟩
          unfold mx
          split
          · exact newI_irr _
          · rename_i z _
            cases hz : newI (ik, iv, ir, ig) z
            · exact hz
            · exact newI_irr _
      have h1 := gets_c x.v.id G (by rw [hG]) q2.1 (by rw [hG]) (by rw [hG]) ik iv ir ig (by rw [hG]) l [] n r.1 hb (by omega) (by simp; omega)
      rw [hG] at h1
      exact h1
  · rfl
end Go.Proofs.YthjhcmkgadfpmaaGreat
