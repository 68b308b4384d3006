/-
  What the functions compute, in plain words.
-/
import Derived.Test.YthjhcmkgadfpmaaGreatPlC
namespace Go.Proofs.YthjhcmkgadfpmaaGreat
open Go Go.RowKit
def t0 (m : MW) : MW := ⟨m.k + 6, m.c, m.t, m.f, 0, false, false, 0, 0, [], ByteArray.empty, 0, 0, false, 0⟩
def zM : MW := ⟨0, 0, 0, 0, 0, false, false, 0, 0, [], ByteArray.empty, 0, 0, false, 0⟩
def itm (m : MW) : IT := (m.ik, m.iv, m.ir, m.ig)
def tldN (x : NW) (m : MW) : MW :=
 if m.k = 1 then { t0 m with pr := x.v.pred, l := x.v.lst }
 else if m.k = 4 then { t0 m with d := (nextV x.v m.key m.s).2, p := (nextV x.v m.key m.s).1 }
 else if m.k = 5 then { t0 m with cd := (putV x.kp (itm m)).2 }
 else if m.k = 6 then { t0 m with ik := (getV x.kp m.ik).1.1, iv := (getV x.kp m.ik).1.2.1, ir := (getV x.kp m.ik).1.2.2.1, ig := (getV x.kp m.ik).1.2.2.2, cd := (getV x.kp m.ik).2 }
 else t0 m
def behN (x : NW) (m : MW) : NW :=
 if m.k = 3 then { x with v := { x.v with pred := ntf x.v.id x.v.pred [m.f] } }
 else if m.k = 5 then { x with kp := (putV x.kp (itm m)).1 } else x
def toT (m : MW) : MT := (m.k, m.c, m.f, m.t, m.key, m.s, m.d, m.p, m.pr, m.l, m.ik, m.iv, m.ir, m.ig, m.cd)
def servN (x : NW) (m : MW) : NW × MW :=
 bif servesN x m then (match x.sn.find? (isk m.f m.c) with
  | some p => (x, pm p)
  | none => ({ behN x m with sn := addA x.sn [toT (tldN x m)] }, tldN x m))
 else (x, zM)
theorem tellS_p (n : Nat) (m : MW) (h : askB m.k = true) : F111 n m.k m.c m.f m.t m.key m.s m.d m.p m.pr m.l m.ik m.iv m.ir m.ig m.cd = some ⟨m.k + 6, m.c, m.t, m.f, 0, false, false, 0, 0, ByteArray.empty, 0, 0, false, 0⟩ := by
 have := tell_p n m.k m.c m.f m.t m.key m.s m.d m.p m.pr m.l m.ik m.iv m.ir m.ig m.cd
 rw [h, cond_true] at this
 exact this
theorem servesN_iff {x : NW} {m : MW} (h : servesN x m = true) : askB m.k = true ∧ rightM m = true ∧ m.t = x.v.id ∧ rightN x = true := by
 unfold servesN at h
 simp only [Bool.and_eq_true, decide_eq_true_eq] at h
 exact h
theorem rightN_v {x : NW} (h : rightN x = true) : rightV x.v = true := by
 unfold rightN at h
 simp only [Bool.and_eq_true] at h
 exact h.2.2.2.2.2.1
theorem shortM_one {m : MW} (h : m.l.length < 1000) : shortM [toT m] := by
 intro y hy
 rw [List.mem_singleton.1 hy]; exact h
theorem hansS_p {n : Nat} (hn : 0 < n) (v : VW) (m : MW) (h : m.l.length < 1000) (ha : askedV v m = true) : F118 n v.id v.base v.lst v.pred v.f0 v.f1 v.f2 v.f3 v.f4 v.f5 v.f6 v.f7 v.f8 v.f9 v.f10 v.f11 v.f12 v.f13 v.f14 v.f15 m.k m.c m.f m.t m.key m.s m.d m.p m.pr m.l m.ik m.iv m.ir m.ig m.cd = some ⟨m.k + 6, m.c, m.t, m.f, 0, false, (nextV v m.key m.s).2, (nextV v m.key m.s).1, 0, ByteArray.empty, 0, 0, false, 0⟩ := by
 have := hanswer_p hn v.id v.base v.lst v.pred v.f0 v.f1 v.f2 v.f3 v.f4 v.f5 v.f6 v.f7 v.f8 v.f9 v.f10 v.f11 v.f12 v.f13 v.f14 v.f15 m.k m.c m.f m.t m.key m.s m.d m.p m.pr m.l m.ik m.iv m.ir m.ig m.cd h
 rw [show askedV ⟨v.id, v.base, v.lst, v.pred, v.f0, v.f1, v.f2, v.f3, v.f4, v.f5, v.f6, v.f7, v.f8, v.f9, v.f10, v.f11, v.f12, v.f13, v.f14, v.f15⟩ ⟨m.k, m.c, m.f, m.t, m.key, m.s, m.d, m.p, m.pr, m.l, m.ik, m.iv, m.ir, m.ig, m.cd⟩ = true from ha, cond_true] at this
 exact this
theorem ntfS_p {n : Nat} (hn : 2000 < n) (v : VW) (l : List Int) (h1 : v.base.length < 1000) (h2 : v.lst.length < 1000) (h3 : l.length < 1000) (hv : rightV v = true) :
  F116 n v.id v.base v.lst v.pred v.f0 v.f1 v.f2 v.f3 v.f4 v.f5 v.f6 v.f7 v.f8 v.f9 v.f10 v.f11 v.f12 v.f13 v.f14 v.f15 l = some ⟨v.id, ntf v.id v.pred l, v.f0, v.f1, v.f2, v.f3, v.f4, v.f5, v.f6, v.f7, v.f8, v.f9, v.f10, v.f11, v.f12, v.f13, v.f14, v.f15, v.base, v.lst⟩ := by
 have := notify_p hn v.id v.base v.lst v.pred v.f0 v.f1 v.f2 v.f3 v.f4 v.f5 v.f6 v.f7 v.f8 v.f9 v.f10 v.f11 v.f12 v.f13 v.f14 v.f15 l h1 h2 h3
 rw [show rightV ⟨v.id, v.base, v.lst, v.pred, v.f0, v.f1, v.f2, v.f3, v.f4, v.f5, v.f6, v.f7, v.f8, v.f9, v.f10, v.f11, v.f12, v.f13, v.f14, v.f15⟩ = true from hv] at this
 exact this
theorem ntfS_r {n : Nat} (hn : 2000 < n) (v : VW) (l : List Int) (h1 : v.base.length < 1000) (h2 : v.lst.length < 1000) (h3 : l.length < 1000) (hv : rightV v = true) :
  F25 n v.id v.base v.lst v.pred v.f0 v.f1 v.f2 v.f3 v.f4 v.f5 v.f6 v.f7 v.f8 v.f9 v.f10 v.f11 v.f12 v.f13 v.f14 v.f15 l = some ⟨v.id, ntf v.id v.pred l, v.f0, v.f1, v.f2, v.f3, v.f4, v.f5, v.f6, v.f7, v.f8, v.f9, v.f10, v.f11, v.f12, v.f13, v.f14, v.f15, v.base, v.lst⟩ := by
 have := notify_r hn v.id v.base v.lst v.pred v.f0 v.f1 v.f2 v.f3 v.f4 v.f5 v.f6 v.f7 v.f8 v.f9 v.f10 v.f11 v.f12 v.f13 v.f14 v.f15 l h1 h2 h3
 rw [show rightV ⟨v.id, v.base, v.lst, v.pred, v.f0, v.f1, v.f2, v.f3, v.f4, v.f5, v.f6, v.f7, v.f8, v.f9, v.f10, v.f11, v.f12, v.f13, v.f14, v.f15⟩ = true from hv] at this
 exact this
theorem nserve_p {n : Nat} (hn : 0 < n) (x : NW) (m : MW) (h : Sm x) (hm : m.l.length < 1000) (r : NW × MW) (hr : r = servN x m) :
  F11 n x.v.id x.v.base x.v.lst x.v.pred x.v.f0 x.v.f1 x.v.f2 x.v.f3 x.v.f4 x.v.f5 x.v.f6 x.v.f7 x.v.f8 x.v.f9 x.v.f10 x.v.f11 x.v.f12 x.v.f13 x.v.f14 x.v.f15 x.clk x.cid x.cmy x.op x.sn x.sp x.so x.fi.jw x.fi.jp x.fi.jk x.fi.ja x.fi.jh x.fi.js x.fi.jf x.fi.jc x.fi.jik x.fi.jiv x.fi.jir x.fi.jig x.fi.jo x.fi.jl x.fi.je x.mi.jw x.mi.jp x.mi.jk x.mi.ja x.mi.jh x.mi.js x.mi.jf x.mi.jc x.mi.jik x.mi.jiv x.mi.jir x.mi.jig x.mi.jo x.mi.jl x.mi.je x.cl.jw x.cl.jp x.cl.jk x.cl.ja x.cl.jh x.cl.js x.cl.jf x.cl.jc x.cl.jik x.cl.jiv x.cl.jir x.cl.jig x.cl.jo x.cl.jl x.cl.je x.nx x.la x.kp x.bd m.k m.c m.f m.t m.key m.s m.d m.p m.pr m.l m.ik m.iv m.ir m.ig m.cd = some ⟨r.1.v.id, r.1.v.base, r.1.v.lst, r.1.v.pred, r.1.v.f0, r.1.v.f1, r.1.v.f2, r.1.v.f3, r.1.v.f4, r.1.v.f5, r.1.v.f6, r.1.v.f7, r.1.v.f8, r.1.v.f9, r.1.v.f10, r.1.v.f11, r.1.v.f12, r.1.v.f13, r.1.v.f14, r.1.v.f15, r.1.clk, r.1.cid, r.1.cmy, r.1.sn, r.1.sp, r.1.so, r.1.fi.jw, r.1.fi.jp, r.1.fi.jk, r.1.fi.ja, r.1.fi.jh, r.1.fi.js, r.1.fi.jf, r.1.fi.jc, r.1.fi.jik, r.1.fi.jiv, r.1.fi.jir, r.1.fi.jig, r.1.fi.jo, r.1.fi.je, r.1.mi.jw, r.1.mi.jp, r.1.mi.jk, r.1.mi.ja, r.1.mi.jh, r.1.mi.js, r.1.mi.jf, r.1.mi.jc, r.1.mi.jik, r.1.mi.jiv, r.1.mi.jir, r.1.mi.jig, r.1.mi.jo, r.1.mi.je, r.1.cl.jw, r.1.cl.jp, r.1.cl.jk, r.1.cl.ja, r.1.cl.jh, r.1.cl.js, r.1.cl.jf, r.1.cl.jc, r.1.cl.jik, r.1.cl.jiv, r.1.cl.jir, r.1.cl.jig, r.1.cl.jo, r.1.cl.je, r.1.nx, r.1.la, r.1.kp, r.1.bd, r.2.k, r.2.c, r.2.f, r.2.t, r.2.key, r.2.s, r.2.d, r.2.p, r.2.pr, r.2.l, r.2.ik, r.2.iv, r.2.ir, r.2.ig, r.2.cd, r.1.op, r.1.fi.jl, r.1.mi.jl, r.1.cl.jl⟩ := by
 have hf := fuel_big
 have h1 := h.b
 have h2 := h.l
 have h4 := h.sn
 have h5 := h.kp
 obtain ⟨j, rfl⟩ : ∃ j, n = j + 1 := Nat.exists_eq_succ_of_ne_zero (by omega)
 unfold F11
 rw [nown_p FUEL x h, nserves_p FUEL x m h hm]
 simp only [Option.bind_some]
 cases hs : servesN x m
 ·rw [hr]
  simp only [servN, hs, Bool.not_false, cond_true, cond_false, F11_c0]
  rw [mown_p FUEL 0 0 0 0 0 false false 0 0 [] ByteArray.empty 0 0 false 0 (by decide)]
  rfl
 ·obtain ⟨ha, hrm, ht, hrn⟩ := servesN_iff hs
  rw [find_p x.sn m.f m.c (by omega) h.sns]
  simp only [servN, hs, cond_true] at hr
  cases hfd : x.sn.find? (isk m.f m.c) with
  | some p =>
   rw [hfd] at hr
   simp only [Bool.not_true, cond_false, Option.bind_some, mkF, cond_true, F11_c0]
   rw [mown_p FUEL (pm p).k (pm p).c (pm p).f (pm p).t (pm p).key (pm p).s (pm p).d (pm p).p (pm p).pr (pm p).l (pm p).ik (pm p).iv (pm p).ir (pm p).ig (pm p).cd (h.sns p (List.mem_of_find?_eq_some hfd)), hr]
   rfl
  | none =>
   rw [hfd] at hr
   simp only [Bool.not_true, cond_false, Option.bind_some, mkF]
   rw [tellS_p FUEL m ha]
   simp only [Option.bind_some, ieq_dec]
   simp only [askB, Bool.and_eq_true, decide_eq_true_eq] at ha
   rcases (show m.k = 1 ∨ m.k = 2 ∨ m.k = 3 ∨ m.k = 4 ∨ m.k = 5 ∨ m.k = 6 by omega) with hk | hk | hk | hk | hk | hk
   ·have e : tldN x m = { t0 m with pr := x.v.pred, l := x.v.lst } := by unfold tldN; rw [if_pos hk]
    have e2 : behN x m = x := by unfold behN; rw [if_neg (by omega), if_neg (by omega)]
    have hadd := sadd_p hf x.sn [toT (tldN x m)] h4 h.sns (by simp) (shortM_one (by rw [e]; show x.v.lst.length < 1000; omega))
    rw [e] at hadd hr
    rw [e2] at hr
    simp only [toT, t0] at hadd
    rw [decide_eq_true hk, cond_true]
    rw [clone_p FUEL x.v.lst (by omega)]
    try simp only [Option.bind_some]
    rw [hadd]
    simp only [Option.bind_some]
    rw [mown_p]
    ·rw [hr]; rfl
    ·omega
   ·have e : tldN x m = t0 m := by unfold tldN; rw [if_neg (by omega), if_neg (by omega), if_neg (by omega), if_neg (by omega)]
    have e2 : behN x m = x := by unfold behN; rw [if_neg (by omega), if_neg (by omega)]
    have hadd := sadd_p hf x.sn [toT (tldN x m)] h4 h.sns (by simp) (shortM_one (by rw [e]; show (0 : Nat) < 1000; omega))
    rw [e] at hadd hr
    rw [e2] at hr
    simp only [toT, t0] at hadd
    rw [decide_eq_false (show ¬ m.k = 1 by omega), cond_false, decide_eq_true hk, cond_true]
    try simp only [Option.bind_some]
    rw [hadd]
    simp only [Option.bind_some]
    rw [mown_p]
    ·rw [hr]; rfl
    ·decide
   ·have e : tldN x m = t0 m := by unfold tldN; rw [if_neg (by omega), if_neg (by omega), if_neg (by omega), if_neg (by omega)]
    have e2 : behN x m = { x with v := { x.v with pred := ntf x.v.id x.v.pred [m.f] } } := by unfold behN; rw [if_pos hk]
    have hadd := sadd_p hf x.sn [toT (tldN x m)] h4 h.sns (by simp) (shortM_one (by rw [e]; show (0 : Nat) < 1000; omega))
    rw [e] at hadd hr
    rw [e2] at hr
    simp only [toT, t0] at hadd
    rw [decide_eq_false (show ¬ m.k = 1 by omega), cond_false, decide_eq_false (show ¬ m.k = 2 by omega), cond_false, decide_eq_true hk, cond_true]
    rw [ntfS_p (by omega) x.v [m.f] (by omega) (by omega) (by simp) (rightN_v hrn)]
    try simp only [Option.bind_some]
    rw [hadd]
    simp only [Option.bind_some]
    rw [mown_p]
    ·rw [hr]; rfl
    ·decide
   ·have hak : askedV x.v m = true := by unfold askedV; rw [rightN_v hrn, decide_eq_true hk, decide_eq_true ht, hrm]; rfl
    have e : tldN x m = { t0 m with d := (nextV x.v m.key m.s).2, p := (nextV x.v m.key m.s).1 } := by unfold tldN; rw [if_neg (by omega), if_pos hk]
    have e2 : behN x m = x := by unfold behN; rw [if_neg (by omega), if_neg (by omega)]
    have hadd := sadd_p hf x.sn [toT (tldN x m)] h4 h.sns (by simp) (shortM_one (by rw [e]; show (0 : Nat) < 1000; omega))
    rw [e] at hadd hr
    rw [e2] at hr
    simp only [toT, t0] at hadd
    rw [decide_eq_false (show ¬ m.k = 1 by omega), cond_false, decide_eq_false (show ¬ m.k = 2 by omega), cond_false, decide_eq_false (show ¬ m.k = 3 by omega), cond_false, decide_eq_true hk, cond_true]
    rw [hansS_p (by omega) x.v m hm hak]
    try simp only [Option.bind_some]
    rw [hadd]
    simp only [Option.bind_some]
    rw [mown_p]
    ·rw [hr]; rfl
    ·decide
   ·have e : tldN x m = { t0 m with cd := (putV x.kp (itm m)).2 } := by unfold tldN; rw [if_neg (by omega), if_neg (by omega), if_pos hk]
    have e2 : behN x m = { x with kp := (putV x.kp (itm m)).1 } := by unfold behN; rw [if_neg (by omega), if_pos hk]
    have hadd := sadd_p hf x.sn [toT (tldN x m)] h4 h.sns (by simp) (shortM_one (by rw [e]; show (0 : Nat) < 1000; omega))
    rw [e] at hadd hr
    rw [e2] at hr
    simp only [toT, t0] at hadd
    rw [decide_eq_false (show ¬ m.k = 1 by omega), cond_false, decide_eq_false (show ¬ m.k = 2 by omega), cond_false, decide_eq_false (show ¬ m.k = 3 by omega), cond_false, decide_eq_false (show ¬ m.k = 4 by omega), cond_false, decide_eq_true hk, cond_true]
    rw [kput_p (by omega) x.kp (by omega) m.ik m.iv m.ir m.ig]
    simp only [Option.bind_some, mkG, itm] at hadd ⊢
    rw [hadd]
    simp only [Option.bind_some]
    rw [mown_p]
    ·rw [hr]; rfl
    ·decide
   ·have e : tldN x m = { t0 m with ik := (getV x.kp m.ik).1.1, iv := (getV x.kp m.ik).1.2.1, ir := (getV x.kp m.ik).1.2.2.1, ig := (getV x.kp m.ik).1.2.2.2, cd := (getV x.kp m.ik).2 } := by unfold tldN; rw [if_neg (by omega), if_neg (by omega), if_neg (by omega), if_pos hk]
    have e2 : behN x m = x := by unfold behN; rw [if_neg (by omega), if_neg (by omega)]
    have hadd := sadd_p hf x.sn [toT (tldN x m)] h4 h.sns (by simp) (shortM_one (by rw [e]; show (0 : Nat) < 1000; omega))
    rw [e] at hadd hr
    rw [e2] at hr
    simp only [toT, t0] at hadd
    rw [decide_eq_false (show ¬ m.k = 1 by omega), cond_false, decide_eq_false (show ¬ m.k = 2 by omega), cond_false, decide_eq_false (show ¬ m.k = 3 by omega), cond_false, decide_eq_false (show ¬ m.k = 4 by omega), cond_false, decide_eq_false (show ¬ m.k = 5 by omega), cond_false, decide_eq_true hk, cond_true]
    rw [kget_p FUEL x.kp (by omega) m.ik]
    simp only [Option.bind_some, mkG, itm] at hadd ⊢
    rw [hadd]
    simp only [Option.bind_some]
    rw [mown_p]
    ·rw [hr]; rfl
    ·decide
end Go.Proofs.YthjhcmkgadfpmaaGreat
namespace Go.Proofs.YthjhcmkgadfpmaaGreat
open Go Go.RowKit
theorem wakes22 : F10 FUEL = some true := by kernel_rfl
theorem mgreat22 (n : Nat) (m : MW) : ∃ g, F9 n m.k m.c m.f m.t m.key m.s m.d m.p m.pr m.l m.ik m.iv m.ir m.ig m.cd = some g ∧ (g = false → m.l.length ≤ 20) := by
 unfold F9
 rw [gt20]
 by_cases h : m.l.length ≤ 20
 ·rw [decide_eq_true h]; exact ⟨_, rfl, fun _ => h⟩
 ·rw [decide_eq_false h]; exact ⟨true, rfl, fun h => by cases h⟩
theorem msameS_r (n : Nat) (hn : 2000 < n) (a b : MW) (h : a.l.length < 1000) : F14 n a.k a.c a.f a.t a.key a.s a.d a.p a.pr a.l a.ik a.iv a.ir a.ig a.cd b.k b.c b.f b.t b.key b.s b.d b.p b.pr b.l b.ik b.iv b.ir b.ig b.cd = some (sameM a b) := msame_r (by omega) (by omega)
theorem servN_not {x : NW} {m : MW} (h : servesN x m = false) : servN x m = (x, zM) := by
 unfold servN; rw [h]; rfl
theorem servN_found {x : NW} {m : MW} {p : PT} (h : servesN x m = true) (hf : x.sn.find? (isk m.f m.c) = some p) : servN x m = (x, pm p) := by
 unfold servN; rw [h, hf]; rfl
theorem servN_fresh {x : NW} {m : MW} (h : servesN x m = true) (hf : x.sn.find? (isk m.f m.c) = none) : servN x m = ({ behN x m with sn := addS x.sn (tldN x m) }, tldN x m) := by
 unfold servN; rw [h, hf]; rfl
theorem behN_v (x : NW) (m : MW) : (behN x m).v.id = x.v.id ∧ (behN x m).v.base = x.v.base ∧ (behN x m).v.lst = x.v.lst := by
 unfold behN; split
 ·exact ⟨rfl, rfl, rfl⟩
 ·split <;> exact ⟨rfl, rfl, rfl⟩
theorem behN_f (x : NW) (m : MW) : (behN x m).op = x.op ∧ (behN x m).fi = x.fi ∧ (behN x m).mi = x.mi ∧ (behN x m).cl = x.cl := by
 unfold behN; split
 ·exact ⟨rfl, rfl, rfl, rfl⟩
 ·split <;> exact ⟨rfl, rfl, rfl, rfl⟩
theorem rightN_k {x : NW} (h : rightN x = true) : keepB x.kp = true := by
 unfold rightN at h
 simp only [Bool.and_eq_true] at h
 exact h.2.2.2.2.2.2.2.2.2.1
theorem keepB_len {k : List IT} (h : keepB k = true) : k.length ≤ 24 := ((keepB_iff k).1 h).1
theorem behN_k {x : NW} (m : MW) (h : keepB x.kp = true) : keepB (behN x m).kp = true := by
 unfold behN; split
 ·exact h
 ·split
  ·exact putV_keep _ h
  ·exact h
theorem tldN_len (x : NW) (m : MW) : (tldN x m).l.length ≤ x.v.lst.length := by
 unfold tldN; split
 ·exact Nat.le_refl _
 ·split
  ·exact Nat.zero_le _
  ·split
   ·exact Nat.zero_le _
   ·split <;> exact Nat.zero_le _
theorem servN_sm {x : NW} {m : MW} (h : Sm x) : Sm (servN x m).1 := by
 cases hs : servesN x m
 ·rw [servN_not hs]; exact h
 ·cases hf : x.sn.find? (isk m.f m.c) with
  | some p => rw [servN_found hs hf]; exact h
  | none =>
   rw [servN_fresh hs hf]
   obtain ⟨v1, v2, v3⟩ := behN_v x m
   obtain ⟨f1, f2, f3, f4⟩ := behN_f x m
   have hk := keepB_len (behN_k m (rightN_k (servesN_iff hs).2.2.2))
   have hl := tldN_len x m
   have ha := addS_len x.sn (tldN x m)
   obtain ⟨h1, h2, h3, h4, h5, h6, h7, h8, h9, h10⟩ := h
   exact ⟨by rw [v2]; exact h1, by rw [v3]; exact h2, by rw [f1]; exact h3, by rw [f1]; exact h4, by show (addS x.sn (tldN x m)).length ≤ 60; omega, shortP_addS h6 (by omega), by show (behN x m).kp.length ≤ 40; omega, by rw [f2]; exact h8, by rw [f3]; exact h9, by rw [f4]; exact h10⟩
theorem bneb_self (b : Bool) : bneb b b = false := by cases b <;> rfl
theorem beqb_self (b : Bool) : beqb b b = true := by cases b <;> rfl
end Go.Proofs.YthjhcmkgadfpmaaGreat
namespace Go.Proofs.YthjhcmkgadfpmaaGreat
open Go Go.RowKit
def okP (x : PT) : Bool := toldP (pm x) && (decide ((pm x).t = x.1) && decide ((pm x).c = x.2.1))
theorem rgP_iff : ∀ {l p : List PT}, rgP p l = true ↔ (∀ x ∈ l, okP x = true ∧ p.any (isk x.1 x.2.1) = false) ∧ l.Pairwise (fun a b => isk b.1 b.2.1 a = false)
 | [], p => by simp [rgP]
 | x :: r, p => by
  have ih := rgP_iff (l := r) (p := p ++ [x])
  unfold rgP
  simp only [Bool.and_eq_true, decide_eq_true_eq, Bool.not_eq_true', List.pairwise_cons]
  rw [ih]
  simp only [List.any_append, List.any_cons, List.any_nil, Bool.or_false, Bool.or_eq_false_iff]
  have hk : okP x = true ↔ toldP (pm x) = true ∧ (pm x).t = x.1 ∧ (pm x).c = x.2.1 := by
   unfold okP; simp only [Bool.and_eq_true, decide_eq_true_eq]
  constructor
  ·rintro ⟨h1, h2, h3, h4, h5, h6⟩
   refine ⟨fun y hy => ?_, fun y hy => (h5 y hy).2.2, h6⟩
   rcases List.mem_cons.1 hy with rfl | hy
   ·exact ⟨hk.2 ⟨h1, h2, h3⟩, h4⟩
   ·exact ⟨(h5 y hy).1, (h5 y hy).2.1⟩
  ·rintro ⟨h1, h2, h3⟩
   obtain ⟨k1, k2⟩ := h1 x (by simp)
   obtain ⟨a1, a2, a3⟩ := hk.1 k1
   exact ⟨a1, a2, a3, k2, fun y hy => ⟨(h1 y (by simp [hy])).1, (h1 y (by simp [hy])).2, h2 y hy⟩, h3⟩
theorem rightP_iff {l : List PT} : rightP l = true ↔ l.length ≤ 40 ∧ (∀ x ∈ l, okP x = true) ∧ l.Pairwise (fun a b => isk b.1 b.2.1 a = false) := by
 unfold rightP
 rw [Bool.and_eq_true, rgP_iff, decide_eq_true_eq]
 constructor
 ·rintro ⟨⟨h1, h2⟩, h3⟩; exact ⟨h3, fun x hx => (h1 x hx).1, h2⟩
 ·rintro ⟨h1, h2, h3⟩; exact ⟨⟨fun x hx => ⟨h2 x hx, rfl⟩, h3⟩, h1⟩
theorem isk_at {f c : Int} {x : PT} : isk f c x = true ↔ x.1 = f ∧ x.2.1 = c := by unfold isk; simp
theorem rightP_addS {l : List PT} (h : rightP l = true) (m : MW) : rightP (addS l m) = true := by
 unfold addS
 split
 ·rename_i hc
  rw [Bool.and_eq_true] at hc
  obtain ⟨h1, h2⟩ := hc
  rw [rightP_iff] at h ⊢
  obtain ⟨k1, k2, k3⟩ := h
  refine ⟨by rw [l40_len]; omega, fun x hx => ?_, ?_⟩
  ·rcases List.mem_append.1 (List.mem_of_mem_drop hx) with hx | hx
   ·exact k2 x hx
   ·simp only [List.mem_singleton] at hx
    subst hx
    show (toldP m && (decide (m.t = m.t) && decide (m.c = m.c))) = true
    rw [h1]; simp
  ·refine List.Pairwise.sublist (List.drop_sublist _ _) ?_
   rw [List.pairwise_append]
   refine ⟨k3, by simp, fun a ha b hb => ?_⟩
   simp only [List.mem_singleton] at hb
   subst hb
   simp only [Bool.not_eq_true', List.any_eq_false] at h2
   have := h2 a ha
   show isk m.t m.c a = false
   simpa using this
 ·exact h
theorem find_at {q s : List PT} {y : PT} (hr : rightP (q ++ y :: s) = true) : (q ++ y :: s).find? (isk y.1 y.2.1) = some y := by
 have hp := (rightP_iff.1 hr).2.2
 rw [List.pairwise_append] at hp
 obtain ⟨_, _, h⟩ := hp
 rw [List.find?_append]
 have e : q.find? (isk y.1 y.2.1) = none := by
  rw [List.find?_eq_none]; intro a ha
  rw [h a ha y (by simp)]; simp
 rw [e]
 have : isk y.1 y.2.1 y = true := isk_at.2 ⟨rfl, rfl⟩
 simp [this]
def freshP (l : List PT) (m : MW) : Bool := rightM m && (askB m.k && !l.any (isk m.f m.c))
theorem fresh_r (n : Nat) (l : List PT) (m : MW) (h : l.length < 1000) (hs : shortP l) (hm : m.l.length < 1000) : F23 n l m.k m.c m.f m.t m.key m.s m.d m.p m.pr m.l m.ik m.iv m.ir m.ig m.cd = some (freshP l m) := by
 have hf := fuel_big
 unfold F23 freshP
 have hr : F21 FUEL m.k m.c m.f m.t m.key m.s m.d m.p m.pr m.l m.ik m.iv m.ir m.ig m.cd = some (rightM m) := mright_r FUEL m.k m.c m.f m.t m.key m.s m.d m.p m.pr m.l m.ik m.iv m.ir m.ig m.cd hm
 have ha : F22 FUEL m.k m.c m.f m.t m.key m.s m.d m.p m.pr m.l m.ik m.iv m.ir m.ig m.cd = some (askB m.k) := msgasks_r FUEL m.k m.c m.f m.t m.key m.s m.d m.p m.pr m.l m.ik m.iv m.ir m.ig m.cd
 rw [hr, ha, find_r (by omega) l m.f m.c h hs]
 simp only [Option.bind_some, mkF_q]
 cases rightM m
 ·rfl
 ·cases askB m.k <;> rfl
theorem told_right {k c f t cd : Int} {ik : ByteArray} {iv ir : Int} {ig : Bool} (hk : askB k = true) (hf : isP f = true) (ht : isP t = true) (hn : f ≠ t) (hc : callB f c = true) :
  rightM ⟨k + 6, c, t, f, 0, false, false, 0, 0, [], ik, iv, ir, ig, cd⟩ = (restM ⟨k + 6, c, t, f, 0, false, false, 0, 0, [], ik, iv, ir, ig, cd⟩ && hasM ⟨k + 6, c, t, f, 0, false, false, 0, 0, [], ik, iv, ir, ig, cd⟩) := by
 have hk' := hk
 unfold askB at hk
 simp only [Bool.and_eq_true, decide_eq_true_eq] at hk
 have e : askB (k + 6) = false := by
  unfold askB; rw [decide_eq_false (by omega : ¬ k + 6 ≤ 6), Bool.and_false]
 have hn' : ¬ t = f := fun h => hn h.symm
 unfold rightM
 simp only [askerV, e, Bool.false_eq_true, if_false, hf, ht, hc, decide_eq_false hn', Bool.not_false, Bool.true_and]
 rw [decide_eq_true (by omega : 1 ≤ k + 6), decide_eq_true (by omega : k + 6 < 13)]; rfl
theorem hop_right {c t f p : Int} {d : Bool} (hf : isP f = true) (ht : isP t = true) (hn : t ≠ f) (hp : isP p = true) (hc : callB f c = true) : rightM ⟨10, c, t, f, 0, false, d, p, 0, [], ByteArray.empty, 0, 0, false, 0⟩ = true := by
 have e : askB 10 = false := by decide
 unfold rightM
 simp only [askerV, e, Bool.false_eq_true, if_false, hf, ht, decide_eq_false hn, restM, hasM, noIt, hc, hp]
 simp
theorem once_fnd {l : List PT} {T : MW} (hr : rightP l = true) (hT : toldP T = true) (ha : l.any (isk T.t T.c) = false) : (addS l T).find? (isk T.t T.c) = some (mkP T) ∧ ∃ q, addS l T = q ++ [mkP T] := by
 have hra := rightP_addS hr T
 have e : ∃ q, addS l T = q ++ mkP T :: [] := by
  unfold addS; rw [hT, ha]
  have hl := (rightP_iff.1 hr).1
  refine ⟨l.drop (l.length + 1 - 40), ?_⟩
  simp only [Bool.not_false, Bool.and_self, if_true]
  unfold l40
  rw [List.length_append, List.length_cons, List.length_nil, List.drop_append_of_le_length (by omega)]
 obtain ⟨q, e⟩ := e
 rw [e] at hra
 exact ⟨by rw [e]; exact find_at hra, q, e⟩
theorem lstB_rgt {w : Int} (hw : isP w = true) : ∀ (r p : List Int) (d : Int), 0 ≤ d → rgt w d r = true → (∀ y ∈ p, fr w y ≤ d) → lstB w p r = true
 | [], _, _, _, _, _ => rfl
 | x :: r, p, d, h0, h, hp => by
  unfold rgt at h
  simp only [Bool.and_eq_true, decide_eq_true_eq] at h
  obtain ⟨h1, h2, h3⟩ := h
  have hx : x ≠ w := (fr_pos hw h1).1 (by omega)
  have hn : ¬ x ∈ p := fun hm => by have := hp x hm; omega
  unfold lstB
  rw [h1, decide_eq_true hx, decide_eq_false hn, lstB_rgt hw r (p ++ [x]) (fr w x) (by omega) h3 fun y hy => by
   rcases List.mem_append.1 hy with hy | hy
   ·have := hp y hy; omega
   ·rw [List.mem_singleton.1 hy]; exact Int.le_refl _]
  rfl
theorem state7_right {c t f pr : Int} {l : List Int} (hf : isP f = true) (ht : isP t = true) (hn : t ≠ f) (hc : callB f c = true) (hp : (decide (pr = -1) || isP pr) = true) (hl : lstB t [] l = true) (h3 : l.length ≤ 3) : rightM ⟨7, c, t, f, 0, false, false, 0, pr, l, ByteArray.empty, 0, 0, false, 0⟩ = true := by
 have e : askB 7 = false := by decide
 unfold rightM
 simp only [askerV, e, Bool.false_eq_true, if_false, hf, ht, decide_eq_false hn, restM, hasM, noIt, hc, hl, decide_eq_true h3]
 simpa using hp
theorem tldN_f (x : NW) (m : MW) : (tldN x m).k = m.k + 6 ∧ (tldN x m).c = m.c ∧ (tldN x m).f = m.t ∧ (tldN x m).t = m.f := by
 unfold tldN; split
 ·exact ⟨rfl, rfl, rfl, rfl⟩
 ·split
  ·exact ⟨rfl, rfl, rfl, rfl⟩
  ·split
   ·exact ⟨rfl, rfl, rfl, rfl⟩
   ·split <;> exact ⟨rfl, rfl, rfl, rfl⟩
theorem rightM_told {m : MW} (h : rightM m = true) (hk : askB m.k = true) : isP m.f = true ∧ isP m.t = true ∧ m.f ≠ m.t ∧ callB m.f m.c = true ∧ hasM m = true := by
 unfold rightM at h
 simp only [Bool.and_eq_true, askerV, hk, if_true] at h
 obtain ⟨_, h2, h3, h4, h5, _, h7⟩ := h
 exact ⟨h2, h3, by simpa using h4, h5, h7⟩
theorem tldN_right {x : NW} {m : MW} (hs : servesN x m = true) : rightM (tldN x m) = true := by
 obtain ⟨ha, hm, ht, hn⟩ := servesN_iff hs
 obtain ⟨h1, h2, h3, h4, h5⟩ := rightM_told hm ha
 have hv := rightN_v hn
 have hk := rightN_k hn
 have hn2 : m.t ≠ m.f := fun h => h3 h.symm
 have ha' := ha
 unfold askB at ha'
 simp only [Bool.and_eq_true, decide_eq_true_eq] at ha'
 unfold tldN
 obtain ⟨k, c, f, t, key, s, d, p, pr, l, ik, iv, ir, ig, cd⟩ := m
 simp only at h1 h2 h3 h4 h5 hn2 ht ha ha' ⊢
 rcases (show k = 1 ∨ k = 2 ∨ k = 3 ∨ k = 4 ∨ k = 5 ∨ k = 6 by omega) with e | e | e | e | e | e <;> subst e
 ·obtain ⟨r1, r2⟩ := rightV_len hv
  obtain ⟨v1, _, v3, v4, _⟩ := rightV_parts hv
  have hp : (decide (x.v.pred = -1) || isP x.v.pred) = true := by
   unfold oth at v4
   simp only [Bool.or_eq_true, Bool.and_eq_true] at v4 ⊢
   exact v4.imp id fun h => h.1
  have hl : lstB t [] x.v.lst = true := by
   rw [ht]
   unfold good at v3
   simp only [Bool.and_eq_true] at v3
   exact lstB_rgt v1 x.v.lst [] 0 (by omega) v3.1 fun y hy => by cases hy
  exact state7_right h1 h2 hn2 h4 hp hl r2
 ·exact (told_right (k := 2) (by decide) h1 h2 h3 h4).trans rfl
 ·exact (told_right (k := 3) (by decide) h1 h2 h3 h4).trans rfl
 ·exact hop_right h1 h2 hn2 (nextV_ok hv).1 h4
 ·have hp : pairI (ik, iv, ir, ig) = true := h5
  refine (told_right (k := 5) (by decide) h1 h2 h3 h4).trans ?_
  rcases putV_cases (ik, iv, ir, ig) hk with ⟨e, _⟩ | ⟨_, _, _, e⟩ | ⟨_, _, e⟩
  ·rw [hp] at e; cases e
  ·show (restM ⟨5 + 6, c, t, f, 0, false, false, 0, 0, [], ByteArray.empty, 0, 0, false, (putV x.kp (ik, iv, ir, ig)).2⟩ && hasM ⟨5 + 6, c, t, f, 0, false, false, 0, 0, [], ByteArray.empty, 0, 0, false, (putV x.kp (ik, iv, ir, ig)).2⟩) = true
   rw [e]; rfl
  ·show (restM ⟨5 + 6, c, t, f, 0, false, false, 0, 0, [], ByteArray.empty, 0, 0, false, (putV x.kp (ik, iv, ir, ig)).2⟩ && hasM ⟨5 + 6, c, t, f, 0, false, false, 0, 0, [], ByteArray.empty, 0, 0, false, (putV x.kp (ik, iv, ir, ig)).2⟩) = true
   rw [e]; rfl
 ·refine (told_right (k := 6) (by decide) h1 h2 h3 h4).trans ?_
  obtain ⟨_, hpair, _⟩ := (keepB_iff x.kp).1 hk
  have hg : getV x.kp ik = match fnd x.kp ik with | some y => (y, 0) | none => (zIT, 201) := by unfold getV; rw [hk]; rfl
  show (restM ⟨6 + 6, c, t, f, 0, false, false, 0, 0, [], (getV x.kp ik).1.1, (getV x.kp ik).1.2.1, (getV x.kp ik).1.2.2.1, (getV x.kp ik).1.2.2.2, (getV x.kp ik).2⟩ && hasM ⟨6 + 6, c, t, f, 0, false, false, 0, 0, [], (getV x.kp ik).1.1, (getV x.kp ik).1.2.1, (getV x.kp ik).1.2.2.1, (getV x.kp ik).1.2.2.2, (getV x.kp ik).2⟩) = true
  rw [hg]
  cases hf : fnd x.kp ik with
  | none => rfl
  | some y =>
   have hy : pairI y = true := hpair y (fnd_mem hf)
   have hy' : pairB y.1 y.2.1 y.2.2.1 = true := hy
   simp [restM, hasM, hy']
theorem tldN_told {x : NW} {m : MW} (hs : servesN x m = true) : toldP (tldN x m) = true := by
 unfold toldP
 rw [tldN_right hs, (tldN_f x m).1]
 have ha := (servesN_iff hs).1
 unfold askB at ha ⊢
 simp only [Bool.and_eq_true, decide_eq_true_eq] at ha
 rw [decide_eq_false (show ¬ m.k + 6 ≤ 6 by omega), Bool.and_false]; rfl
theorem rightN_iff (x : NW) : rightN x = true ↔ (ige x.clk 0 = true ∧ ile x.clk 1099511627776 = true ∧ ige x.bd 0 = true ∧ ige x.nx 0 = true ∧ ilt x.nx 16 = true) ∧ rightV x.v = true ∧ x.cid = x.v.id ∧ rightC x.cid x.cmy x.op = true ∧ rightS x.sp x.so = true ∧ keepB x.kp = true ∧ rightP x.sn = true ∧ ownB x.v.id x.sn = true := by
 unfold rightN
 simp only [Bool.and_eq_true, decide_eq_true_eq]
 grind
end Go.Proofs.YthjhcmkgadfpmaaGreat
namespace Go.Proofs.YthjhcmkgadfpmaaGreat
open Go Go.RowKit
theorem ine_self (a : Int) : ine a a = false := by rw [ine_dec, decide_eq_true rfl]; rfl
end Go.Proofs.YthjhcmkgadfpmaaGreat
namespace Go.Proofs.YthjhcmkgadfpmaaGreat
open Go Go.RowKit
theorem only_x (n : Nat) (x : NW) (m : MW) : F5 n x.v.id x.v.base x.v.lst x.v.pred x.v.f0 x.v.f1 x.v.f2 x.v.f3 x.v.f4 x.v.f5 x.v.f6 x.v.f7 x.v.f8 x.v.f9 x.v.f10 x.v.f11 x.v.f12 x.v.f13 x.v.f14 x.v.f15 x.clk x.cid x.cmy x.op x.sn x.sp x.so x.fi.jw x.fi.jp x.fi.jk x.fi.ja x.fi.jh x.fi.js x.fi.jf x.fi.jc x.fi.jik x.fi.jiv x.fi.jir x.fi.jig x.fi.jo x.fi.jl x.fi.je x.mi.jw x.mi.jp x.mi.jk x.mi.ja x.mi.jh x.mi.js x.mi.jf x.mi.jc x.mi.jik x.mi.jiv x.mi.jir x.mi.jig x.mi.jo x.mi.jl x.mi.je x.cl.jw x.cl.jp x.cl.jk x.cl.ja x.cl.jh x.cl.js x.cl.jf x.cl.jc x.cl.jik x.cl.jiv x.cl.jir x.cl.jig x.cl.jo x.cl.jl x.cl.je x.nx x.la x.kp x.bd m.k m.c m.f m.t m.key m.s m.d m.p m.pr m.l m.ik m.iv m.ir m.ig m.cd = some true := by
 have hf := fuel_big
 unfold F5
 obtain ⟨g, hg, hs⟩ := ngreat (n := FUEL) (by omega) x
 obtain ⟨g2, hg2, hm⟩ := mgreat22 FUEL m
 rw [hg, hg2, wakes22]
 simp only [Option.bind_some]
 cases g
 ·cases g2
  ·replace hs := hs rfl
   replace hm := hm rfl
   have h1 := hs.b
   have h2 := hs.l
   have h4 := hs.sn
   have h5 := hs.kp
   rw [nserves_r FUEL x m hs (by omega), fresh_r FUEL x.sn m (by omega) hs.sns (by omega)]
   cases hsv : servesN x m
   ·rfl
   cases hfr : freshP x.sn m
   ·rfl
   ·obtain ⟨ha, hrm, ht, hn⟩ := servesN_iff hsv
    have hany : x.sn.any (isk m.f m.c) = false := by
     unfold freshP at hfr
     simp only [Bool.and_eq_true] at hfr
     simpa using hfr.2.2
    have hfd : x.sn.find? (isk m.f m.c) = none := by
     rw [List.find?_eq_none]; rw [List.any_eq_false] at hany; exact hany
    have es := servN_fresh hsv hfd
    obtain ⟨k1, k2, k3, k4⟩ := tldN_f x m
    obtain ⟨_, q, hq⟩ := once_fnd ((rightN_iff x).1 hn).2.2.2.2.2.2.1 (tldN_told hsv) (by rw [k2, k4]; exact hany)
    have hlen := addS_len x.sn (tldN x m)
    rw [hq, List.length_append] at hlen
    have hl2 := tldN_len x m
    obtain ⟨T, hT⟩ : ∃ T, T = tldN x m := ⟨_, rfl⟩
    obtain ⟨P, hP⟩ : ∃ P, P = mkP T := ⟨_, rfl⟩
    rw [← hT, ← hP] at hq
    rw [← hT] at k1 hl2
    have hk6 : T.k = m.k + 6 := k1
    have e8 : F14 FUEL P.2.2.1 P.2.2.2.1 P.2.2.2.2.1 P.2.2.2.2.2.1 P.2.2.2.2.2.2.1 P.2.2.2.2.2.2.2.1 P.2.2.2.2.2.2.2.2.1 P.2.2.2.2.2.2.2.2.2.1 P.2.2.2.2.2.2.2.2.2.2.1 P.2.2.2.2.2.2.2.2.2.2.2.1 P.2.2.2.2.2.2.2.2.2.2.2.2.1 P.2.2.2.2.2.2.2.2.2.2.2.2.2.1 P.2.2.2.2.2.2.2.2.2.2.2.2.2.2.1 P.2.2.2.2.2.2.2.2.2.2.2.2.2.2.2.1 P.2.2.2.2.2.2.2.2.2.2.2.2.2.2.2.2 T.k T.c T.f T.t T.key T.s T.d T.p T.pr T.l T.ik T.iv T.ir T.ig T.cd = some true := by
     have := msameS_r FUEL (by omega) T T (by omega)
     rw [sameM_self] at this
     rw [hP]; exact this
    simp only [Option.bind_some, Bool.not_true, cond_false]
    have ha' := ha
    unfold askB at ha'
    simp only [Bool.and_eq_true, decide_eq_true_eq] at ha'
    rcases (show m.k = 1 ∨ m.k = 2 ∨ m.k = 3 ∨ m.k = 4 ∨ m.k = 5 ∨ m.k = 6 by omega) with hk | hk | hk | hk | hk | hk
    ·have e : tldN x m = { t0 m with pr := x.v.pred, l := x.v.lst } := by unfold tldN; rw [if_pos hk]
     have e2 : behN x m = x := by unfold behN; rw [if_neg (by omega), if_neg (by omega)]
     have hr : (({ x with sn := q ++ [P] } : NW), T) = servN x m := by rw [es, e2, ← hT, hq]
     have sw : Sm ({ x with sn := q ++ [P] } : NW) := by have := servN_sm (m := m) hs; rw [← hr] at this; exact this
     have e9 := nsame_r (n := FUEL) (by omega) ({ x with sn := q ++ [P] } : NW) ({ x with sn := q ++ [P] } : NW) sw
     rw [sameN_self] at e9
     simp only at e9
     rw [nserve_p (n := FUEL) (by omega) x m hs (by omega) (({ x with sn := q ++ [P] } : NW), T) hr]
     simp only [Option.bind_some]
     rw [sub_in (by omega), show ilt (ofN q.length) 0 = false from decide_eq_false (by simp only [ofN]; omega), show inb (ofN q.length) (q ++ [P]).length = true from inb_in]
     simp only [cond_false, cond_true, show ∀ d, (q ++ [P]).getD (ofN q.length).toNat d = P from fun d => get_in]
     rw [e8, Option.bind_some, Bool.not_true, cond_false, hk6, told_k ha, ine_self, cond_false, nown_r FUEL x hs]
     simp only [Option.bind_some, ieq_dec]
     rw [decide_eq_true hk, cond_true]
     have p1 : T.pr = x.v.pred := by rw [hT, e]
     have p2 : T.l = x.v.lst := by rw [hT, e]
     rw [p1, p2, ine_self, cond_false, ine_self, cond_false, e9]
     cases hl : x.v.lst with
     | nil => rfl
     | cons y l =>
      rw [show igt (ofN (y :: l).length) 0 = true from decide_eq_true (by simp only [ofN, List.length_cons]; omega), cond_true, show inb 0 (y :: l).length = true by simp [inb], cond_true, cond_true, ine_self]
      rfl
    ·have e : tldN x m = t0 m := by unfold tldN; rw [if_neg (by omega), if_neg (by omega), if_neg (by omega), if_neg (by omega)]
     have e2 : behN x m = x := by unfold behN; rw [if_neg (by omega), if_neg (by omega)]
     have hr : (({ x with sn := q ++ [P] } : NW), T) = servN x m := by rw [es, e2, ← hT, hq]
     have sw : Sm ({ x with sn := q ++ [P] } : NW) := by have := servN_sm (m := m) hs; rw [← hr] at this; exact this
     have e9 := nsame_r (n := FUEL) (by omega) ({ x with sn := q ++ [P] } : NW) ({ x with sn := q ++ [P] } : NW) sw
     rw [sameN_self] at e9
     simp only at e9
     rw [nserve_p (n := FUEL) (by omega) x m hs (by omega) (({ x with sn := q ++ [P] } : NW), T) hr]
     simp only [Option.bind_some]
     rw [sub_in (by omega), show ilt (ofN q.length) 0 = false from decide_eq_false (by simp only [ofN]; omega), show inb (ofN q.length) (q ++ [P]).length = true from inb_in]
     simp only [cond_false, cond_true, show ∀ d, (q ++ [P]).getD (ofN q.length).toNat d = P from fun d => get_in]
     rw [e8, Option.bind_some, Bool.not_true, cond_false, hk6, told_k ha, ine_self, cond_false, nown_r FUEL x hs]
     simp only [Option.bind_some, ieq_dec]
     rw [decide_eq_false (show ¬ m.k = 1 by omega), cond_false, decide_eq_false (show ¬ m.k = 3 by omega), cond_false, decide_eq_false (show ¬ m.k = 4 by omega), cond_false, decide_eq_false (show ¬ m.k = 5 by omega), cond_false, decide_eq_false (show ¬ m.k = 6 by omega), cond_false]
     rw [e9]
     rfl
    ·have e : tldN x m = t0 m := by unfold tldN; rw [if_neg (by omega), if_neg (by omega), if_neg (by omega), if_neg (by omega)]
     have e2 : behN x m = { x with v := { x.v with pred := ntf x.v.id x.v.pred [m.f] } } := by unfold behN; rw [if_pos hk]
     have hr : (({ x with v := { x.v with pred := ntf x.v.id x.v.pred [m.f] }, sn := q ++ [P] } : NW), T) = servN x m := by rw [es, e2, ← hT, hq]
     have sw : Sm ({ x with v := { x.v with pred := ntf x.v.id x.v.pred [m.f] }, sn := q ++ [P] } : NW) := by have := servN_sm (m := m) hs; rw [← hr] at this; exact this
     have e9 := nsame_r (n := FUEL) (by omega) ({ x with v := { x.v with pred := ntf x.v.id x.v.pred [m.f] }, sn := q ++ [P] } : NW) ({ x with v := { x.v with pred := ntf x.v.id x.v.pred [m.f] }, sn := q ++ [P] } : NW) sw
     rw [sameN_self] at e9
     simp only at e9
     rw [nserve_p (n := FUEL) (by omega) x m hs (by omega) (({ x with v := { x.v with pred := ntf x.v.id x.v.pred [m.f] }, sn := q ++ [P] } : NW), T) hr]
     simp only [Option.bind_some]
     rw [sub_in (by omega), show ilt (ofN q.length) 0 = false from decide_eq_false (by simp only [ofN]; omega), show inb (ofN q.length) (q ++ [P]).length = true from inb_in]
     simp only [cond_false, cond_true, show ∀ d, (q ++ [P]).getD (ofN q.length).toNat d = P from fun d => get_in]
     rw [e8, Option.bind_some, Bool.not_true, cond_false, hk6, told_k ha, ine_self, cond_false, nown_r FUEL x hs]
     simp only [Option.bind_some, ieq_dec]
     rw [decide_eq_false (show ¬ m.k = 1 by omega), cond_false, decide_eq_true hk, cond_true]
     rw [ntfS_r (by omega) x.v [m.f] (by omega) (by omega) (by simp) (rightN_v hn)]
     simp only [Option.bind_some]
     rw [e9]
     rfl
    ·have e : tldN x m = { t0 m with d := (nextV x.v m.key m.s).2, p := (nextV x.v m.key m.s).1 } := by unfold tldN; rw [if_neg (by omega), if_pos hk]
     have e2 : behN x m = x := by unfold behN; rw [if_neg (by omega), if_neg (by omega)]
     have hr : (({ x with sn := q ++ [P] } : NW), T) = servN x m := by rw [es, e2, ← hT, hq]
     have sw : Sm ({ x with sn := q ++ [P] } : NW) := by have := servN_sm (m := m) hs; rw [← hr] at this; exact this
     have e9 := nsame_r (n := FUEL) (by omega) ({ x with sn := q ++ [P] } : NW) ({ x with sn := q ++ [P] } : NW) sw
     rw [sameN_self] at e9
     simp only at e9
     rw [nserve_p (n := FUEL) (by omega) x m hs (by omega) (({ x with sn := q ++ [P] } : NW), T) hr]
     simp only [Option.bind_some]
     rw [sub_in (by omega), show ilt (ofN q.length) 0 = false from decide_eq_false (by simp only [ofN]; omega), show inb (ofN q.length) (q ++ [P]).length = true from inb_in]
     simp only [cond_false, cond_true, show ∀ d, (q ++ [P]).getD (ofN q.length).toNat d = P from fun d => get_in]
     rw [e8, Option.bind_some, Bool.not_true, cond_false, hk6, told_k ha, ine_self, cond_false, nown_r FUEL x hs]
     simp only [Option.bind_some, ieq_dec]
     rw [decide_eq_false (show ¬ m.k = 1 by omega), cond_false, decide_eq_false (show ¬ m.k = 3 by omega), cond_false, decide_eq_true hk, cond_true]
     have p1 : T.p = (nextV x.v m.key m.s).1 := by rw [hT, e]
     have p2 : T.d = (nextV x.v m.key m.s).2 := by rw [hT, e]
     rw [show F26 FUEL x.v.id x.v.base x.v.lst x.v.pred x.v.f0 x.v.f1 x.v.f2 x.v.f3 x.v.f4 x.v.f5 x.v.f6 x.v.f7 x.v.f8 x.v.f9 x.v.f10 x.v.f11 x.v.f12 x.v.f13 x.v.f14 x.v.f15 m.key m.s = some (nextV x.v m.key m.s) from rnext_r (by omega) x.v.id x.v.base x.v.lst x.v.pred x.v.f0 x.v.f1 x.v.f2 x.v.f3 x.v.f4 x.v.f5 x.v.f6 x.v.f7 x.v.f8 x.v.f9 x.v.f10 x.v.f11 x.v.f12 x.v.f13 x.v.f14 x.v.f15 m.key m.s (by omega), Option.bind_some, p1, p2, ine_self, cond_false, bneb_self, cond_false, e9]
     rfl
    ·have e : tldN x m = { t0 m with cd := (putV x.kp (itm m)).2 } := by unfold tldN; rw [if_neg (by omega), if_neg (by omega), if_pos hk]
     have e2 : behN x m = { x with kp := (putV x.kp (itm m)).1 } := by unfold behN; rw [if_neg (by omega), if_pos hk]
     have hr : (({ x with kp := (putV x.kp (m.ik, m.iv, m.ir, m.ig)).1, sn := q ++ [P] } : NW), T) = servN x m := by rw [es, e2, ← hT, hq]; rfl
     have sw : Sm ({ x with kp := (putV x.kp (m.ik, m.iv, m.ir, m.ig)).1, sn := q ++ [P] } : NW) := by have := servN_sm (m := m) hs; rw [← hr] at this; exact this
     have e9 := nsame_r (n := FUEL) (by omega) ({ x with kp := (putV x.kp (m.ik, m.iv, m.ir, m.ig)).1, sn := q ++ [P] } : NW) ({ x with kp := (putV x.kp (m.ik, m.iv, m.ir, m.ig)).1, sn := q ++ [P] } : NW) sw
     rw [sameN_self] at e9
     simp only at e9
     rw [nserve_p (n := FUEL) (by omega) x m hs (by omega) (({ x with kp := (putV x.kp (m.ik, m.iv, m.ir, m.ig)).1, sn := q ++ [P] } : NW), T) hr]
     simp only [Option.bind_some]
     rw [sub_in (by omega), show ilt (ofN q.length) 0 = false from decide_eq_false (by simp only [ofN]; omega), show inb (ofN q.length) (q ++ [P]).length = true from inb_in]
     simp only [cond_false, cond_true, show ∀ d, (q ++ [P]).getD (ofN q.length).toNat d = P from fun d => get_in]
     rw [e8, Option.bind_some, Bool.not_true, cond_false, hk6, told_k ha, ine_self, cond_false, nown_r FUEL x hs]
     simp only [Option.bind_some, ieq_dec]
     rw [decide_eq_false (show ¬ m.k = 1 by omega), cond_false, decide_eq_false (show ¬ m.k = 3 by omega), cond_false, decide_eq_false (show ¬ m.k = 4 by omega), cond_false, decide_eq_true hk, cond_true]
     have p1 : T.cd = (putV x.kp (m.ik, m.iv, m.ir, m.ig)).2 := by rw [hT, e]; rfl
     rw [kput_r (by omega) x.kp (by omega) m.ik m.iv m.ir m.ig]
     simp only [Option.bind_some]
     rw [p1, ine_self, cond_false, e9]
     rfl
    ·have e : tldN x m = { t0 m with ik := (getV x.kp m.ik).1.1, iv := (getV x.kp m.ik).1.2.1, ir := (getV x.kp m.ik).1.2.2.1, ig := (getV x.kp m.ik).1.2.2.2, cd := (getV x.kp m.ik).2 } := by unfold tldN; rw [if_neg (by omega), if_neg (by omega), if_neg (by omega), if_pos hk]
     have e2 : behN x m = x := by unfold behN; rw [if_neg (by omega), if_neg (by omega)]
     have hr : (({ x with sn := q ++ [P] } : NW), T) = servN x m := by rw [es, e2, ← hT, hq]
     have sw : Sm ({ x with sn := q ++ [P] } : NW) := by have := servN_sm (m := m) hs; rw [← hr] at this; exact this
     have e9 := nsame_r (n := FUEL) (by omega) ({ x with sn := q ++ [P] } : NW) ({ x with sn := q ++ [P] } : NW) sw
     rw [sameN_self] at e9
     simp only at e9
     rw [nserve_p (n := FUEL) (by omega) x m hs (by omega) (({ x with sn := q ++ [P] } : NW), T) hr]
     simp only [Option.bind_some]
     rw [sub_in (by omega), show ilt (ofN q.length) 0 = false from decide_eq_false (by simp only [ofN]; omega), show inb (ofN q.length) (q ++ [P]).length = true from inb_in]
     simp only [cond_false, cond_true, show ∀ d, (q ++ [P]).getD (ofN q.length).toNat d = P from fun d => get_in]
     rw [e8, Option.bind_some, Bool.not_true, cond_false, hk6, told_k ha, ine_self, cond_false, nown_r FUEL x hs]
     simp only [Option.bind_some, ieq_dec]
     rw [decide_eq_false (show ¬ m.k = 1 by omega), cond_false, decide_eq_false (show ¬ m.k = 3 by omega), cond_false, decide_eq_false (show ¬ m.k = 4 by omega), cond_false, decide_eq_false (show ¬ m.k = 5 by omega), cond_false, decide_eq_true hk, cond_true]
     have p1 : T.cd = (getV x.kp m.ik).2 ∧ T.ik = (getV x.kp m.ik).1.1 ∧ T.iv = (getV x.kp m.ik).1.2.1 ∧ T.ir = (getV x.kp m.ik).1.2.2.1 ∧ T.ig = (getV x.kp m.ik).1.2.2.2 := by rw [hT, e]; exact ⟨rfl, rfl, rfl, rfl, rfl⟩
     obtain ⟨p1, p2, p3, p4, p5⟩ := p1
     rw [kget_r (by omega) x.kp (by omega) m.ik]
     simp only [Option.bind_some, mkG]
     rw [p1, p2, p3, p4, p5, ine_self, cond_false, e9]
     simp only [steq_dec, beqb_self, decide_true]
     rfl
  ·rfl
 ·rfl
end Go.Proofs.YthjhcmkgadfpmaaGreat
