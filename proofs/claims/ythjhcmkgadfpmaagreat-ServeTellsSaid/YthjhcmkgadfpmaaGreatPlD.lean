/-
  What the functions compute, in plain words.
-/
import Derived.Test.YthjhcmkgadfpmaaGreatPlC
namespace Go.Proofs.YthjhcmkgadfpmaaGreat
open Go Go.RowKit
def t0 (m : MW) : MW := ⟨m.k + 6, m.c, m.t, m.f, 0, false, false, 0, 0, [], ByteArray.empty, 0, 0, false, 0⟩
def zM : MW := ⟨0, 0, 0, 0, 0, false, false, 0, 0, [], ByteArray.empty, 0, 0, false, 0⟩
def itm (m : MW) : IT := (m.ik, m.iv, m.ir, m.ig)
def tldN (x : NW) (m : MW) : MW :=
 if m.k = 1 then { t0 m with pr := x.v.pred, l := x.v.lst }
 else if m.k = 4 then { t0 m with d := (jat x.v m.key m.s).2, p := (jat x.v m.key m.s).1 }
 else if m.k = 5 then { t0 m with cd := (putV x.kp (itm m)).2 }
 else if m.k = 6 then { t0 m with ik := (getV x.kp m.ik).1.1, iv := (getV x.kp m.ik).1.2.1, ir := (getV x.kp m.ik).1.2.2.1, ig := (getV x.kp m.ik).1.2.2.2, cd := (getV x.kp m.ik).2 }
 else t0 m
def behN (x : NW) (m : MW) : NW :=
 if m.k = 3 then { x with v := { x.v with pred := ntf x.v.id x.v.pred [m.f] } }
 else if m.k = 5 then { x with kp := (putV x.kp (itm m)).1 } else x
def toT (m : MW) : MT := (m.k, m.c, m.f, m.t, m.key, m.s, m.d, m.p, m.pr, m.l, m.ik, m.iv, m.ir, m.ig, m.cd)
def jcb (x : NW) (m : MW) : NW × MW :=
 bif vh x m then (match x.sn.find? (isk m.f m.c) with
  | some p => (x, pm p)
  | none => ({ behN x m with sn := addA x.sn [toT (tldN x m)] }, tldN x m))
 else (x, zM)
theorem tellS_p (n : Nat) (m : MW) (h : askB m.k = true) : F111 n m.k m.c m.f m.t m.key m.s m.d m.p m.pr m.l m.ik m.iv m.ir m.ig m.cd = some ⟨m.k + 6, m.c, m.t, m.f, 0, false, false, 0, 0, ByteArray.empty, 0, 0, false, 0⟩ := by
 have := tell_p n m.k m.c m.f m.t m.key m.s m.d m.p m.pr m.l m.ik m.iv m.ir m.ig m.cd
 rw [h, cond_true] at this
 exact this
theorem tellS_r (n : Nat) (m : MW) (h : askB m.k = true) : F41 n m.k m.c m.f m.t m.key m.s m.d m.p m.pr m.l m.ik m.iv m.ir m.ig m.cd = some ⟨m.k + 6, m.c, m.t, m.f, 0, false, false, 0, 0, ByteArray.empty, 0, 0, false, 0⟩ := by
 have := tell_r n m.k m.c m.f m.t m.key m.s m.d m.p m.pr m.l m.ik m.iv m.ir m.ig m.cd
 rw [h, cond_true] at this
 exact this
theorem jca {x : NW} {m : MW} (h : vh x m = true) : askB m.k = true ∧ qx m = true ∧ m.t = x.v.id ∧ jbs x = true := by
 unfold vh at h
 simp only [Bool.and_eq_true, decide_eq_true_eq] at h
 exact h
theorem jfa {x : NW} (h : jbs x = true) : ql x.v = true := by
 unfold jbs at h
 simp only [Bool.and_eq_true] at h
 exact h.2.2.2.2.2.1
theorem qu {m : MW} (h : m.l.length < 1000) : jkq [toT m] := by
 intro y hy
 rw [List.mem_singleton.1 hy]; exact h
theorem hansS_p {n : Nat} (hn : 0 < n) (v : VW) (m : MW) (h : m.l.length < 1000) (ha : jar v m = true) : F118 n v.id v.base v.lst v.pred v.f0 v.f1 v.f2 v.f3 v.f4 v.f5 v.f6 v.f7 v.f8 v.f9 v.f10 v.f11 v.f12 v.f13 v.f14 v.f15 m.k m.c m.f m.t m.key m.s m.d m.p m.pr m.l m.ik m.iv m.ir m.ig m.cd = some ⟨m.k + 6, m.c, m.t, m.f, 0, false, (jat v m.key m.s).2, (jat v m.key m.s).1, 0, ByteArray.empty, 0, 0, false, 0⟩ := by
 have := jwb hn v.id v.base v.lst v.pred v.f0 v.f1 v.f2 v.f3 v.f4 v.f5 v.f6 v.f7 v.f8 v.f9 v.f10 v.f11 v.f12 v.f13 v.f14 v.f15 m.k m.c m.f m.t m.key m.s m.d m.p m.pr m.l m.ik m.iv m.ir m.ig m.cd h
 rw [show jar ⟨v.id, v.base, v.lst, v.pred, v.f0, v.f1, v.f2, v.f3, v.f4, v.f5, v.f6, v.f7, v.f8, v.f9, v.f10, v.f11, v.f12, v.f13, v.f14, v.f15⟩ ⟨m.k, m.c, m.f, m.t, m.key, m.s, m.d, m.p, m.pr, m.l, m.ik, m.iv, m.ir, m.ig, m.cd⟩ = true from ha, cond_true] at this
 exact this
theorem hansS_r (n : Nat) (v : VW) (m : MW) (h : m.l.length < 1000) (hl : v.lst.length ≤ 20) (ha : jar v m = true) : F42 n v.id v.base v.lst v.pred v.f0 v.f1 v.f2 v.f3 v.f4 v.f5 v.f6 v.f7 v.f8 v.f9 v.f10 v.f11 v.f12 v.f13 v.f14 v.f15 m.k m.c m.f m.t m.key m.s m.d m.p m.pr m.l m.ik m.iv m.ir m.ig m.cd = some ⟨m.k + 6, m.c, m.t, m.f, 0, false, (jat v m.key m.s).2, (jat v m.key m.s).1, 0, ByteArray.empty, 0, 0, false, 0⟩ := by
 have := jwa n v.id v.base v.lst v.pred v.f0 v.f1 v.f2 v.f3 v.f4 v.f5 v.f6 v.f7 v.f8 v.f9 v.f10 v.f11 v.f12 v.f13 v.f14 v.f15 m.k m.c m.f m.t m.key m.s m.d m.p m.pr m.l m.ik m.iv m.ir m.ig m.cd h (by omega)
 rw [show jar ⟨v.id, v.base, v.lst, v.pred, v.f0, v.f1, v.f2, v.f3, v.f4, v.f5, v.f6, v.f7, v.f8, v.f9, v.f10, v.f11, v.f12, v.f13, v.f14, v.f15⟩ ⟨m.k, m.c, m.f, m.t, m.key, m.s, m.d, m.p, m.pr, m.l, m.ik, m.iv, m.ir, m.ig, m.cd⟩ = true from ha, cond_true] at this
 exact this
theorem ntfS_p {n : Nat} (hn : 2000 < n) (v : VW) (l : List Int) (h1 : v.base.length < 1000) (h2 : v.lst.length < 1000) (h3 : l.length < 1000) (hv : ql v = true) :
  F116 n v.id v.base v.lst v.pred v.f0 v.f1 v.f2 v.f3 v.f4 v.f5 v.f6 v.f7 v.f8 v.f9 v.f10 v.f11 v.f12 v.f13 v.f14 v.f15 l = some ⟨v.id, ntf v.id v.pred l, v.f0, v.f1, v.f2, v.f3, v.f4, v.f5, v.f6, v.f7, v.f8, v.f9, v.f10, v.f11, v.f12, v.f13, v.f14, v.f15, v.base, v.lst⟩ := by
 have := wam hn v.id v.base v.lst v.pred v.f0 v.f1 v.f2 v.f3 v.f4 v.f5 v.f6 v.f7 v.f8 v.f9 v.f10 v.f11 v.f12 v.f13 v.f14 v.f15 l h1 h2 h3
 rw [show ql ⟨v.id, v.base, v.lst, v.pred, v.f0, v.f1, v.f2, v.f3, v.f4, v.f5, v.f6, v.f7, v.f8, v.f9, v.f10, v.f11, v.f12, v.f13, v.f14, v.f15⟩ = true from hv] at this
 exact this
theorem ntfS_r {n : Nat} (hn : 2000 < n) (v : VW) (l : List Int) (h1 : v.base.length < 1000) (h2 : v.lst.length < 1000) (h3 : l.length < 1000) (hv : ql v = true) :
  F25 n v.id v.base v.lst v.pred v.f0 v.f1 v.f2 v.f3 v.f4 v.f5 v.f6 v.f7 v.f8 v.f9 v.f10 v.f11 v.f12 v.f13 v.f14 v.f15 l = some ⟨v.id, ntf v.id v.pred l, v.f0, v.f1, v.f2, v.f3, v.f4, v.f5, v.f6, v.f7, v.f8, v.f9, v.f10, v.f11, v.f12, v.f13, v.f14, v.f15, v.base, v.lst⟩ := by
 have := wal hn v.id v.base v.lst v.pred v.f0 v.f1 v.f2 v.f3 v.f4 v.f5 v.f6 v.f7 v.f8 v.f9 v.f10 v.f11 v.f12 v.f13 v.f14 v.f15 l h1 h2 h3
 rw [show ql ⟨v.id, v.base, v.lst, v.pred, v.f0, v.f1, v.f2, v.f3, v.f4, v.f5, v.f6, v.f7, v.f8, v.f9, v.f10, v.f11, v.f12, v.f13, v.f14, v.f15⟩ = true from hv] at this
 exact this
theorem wak {n : Nat} (hn : 0 < n) (x : NW) (m : MW) (h : Sm x) (hm : m.l.length < 1000) (r : NW × MW) (hr : r = jcb x m) :
  F11 n x.v.id x.v.base x.v.lst x.v.pred x.v.f0 x.v.f1 x.v.f2 x.v.f3 x.v.f4 x.v.f5 x.v.f6 x.v.f7 x.v.f8 x.v.f9 x.v.f10 x.v.f11 x.v.f12 x.v.f13 x.v.f14 x.v.f15 x.clk x.cid x.cmy x.op x.sn x.sp x.so x.fi.jw x.fi.jp x.fi.jk x.fi.ja x.fi.jh x.fi.js x.fi.jf x.fi.jc x.fi.jik x.fi.jiv x.fi.jir x.fi.jig x.fi.jo x.fi.jl x.fi.je x.mi.jw x.mi.jp x.mi.jk x.mi.ja x.mi.jh x.mi.js x.mi.jf x.mi.jc x.mi.jik x.mi.jiv x.mi.jir x.mi.jig x.mi.jo x.mi.jl x.mi.je x.cl.jw x.cl.jp x.cl.jk x.cl.ja x.cl.jh x.cl.js x.cl.jf x.cl.jc x.cl.jik x.cl.jiv x.cl.jir x.cl.jig x.cl.jo x.cl.jl x.cl.je x.nx x.la x.kp x.bd m.k m.c m.f m.t m.key m.s m.d m.p m.pr m.l m.ik m.iv m.ir m.ig m.cd = some ⟨r.1.v.id, r.1.v.base, r.1.v.lst, r.1.v.pred, r.1.v.f0, r.1.v.f1, r.1.v.f2, r.1.v.f3, r.1.v.f4, r.1.v.f5, r.1.v.f6, r.1.v.f7, r.1.v.f8, r.1.v.f9, r.1.v.f10, r.1.v.f11, r.1.v.f12, r.1.v.f13, r.1.v.f14, r.1.v.f15, r.1.clk, r.1.cid, r.1.cmy, r.1.sn, r.1.sp, r.1.so, r.1.fi.jw, r.1.fi.jp, r.1.fi.jk, r.1.fi.ja, r.1.fi.jh, r.1.fi.js, r.1.fi.jf, r.1.fi.jc, r.1.fi.jik, r.1.fi.jiv, r.1.fi.jir, r.1.fi.jig, r.1.fi.jo, r.1.fi.je, r.1.mi.jw, r.1.mi.jp, r.1.mi.jk, r.1.mi.ja, r.1.mi.jh, r.1.mi.js, r.1.mi.jf, r.1.mi.jc, r.1.mi.jik, r.1.mi.jiv, r.1.mi.jir, r.1.mi.jig, r.1.mi.jo, r.1.mi.je, r.1.cl.jw, r.1.cl.jp, r.1.cl.jk, r.1.cl.ja, r.1.cl.jh, r.1.cl.js, r.1.cl.jf, r.1.cl.jc, r.1.cl.jik, r.1.cl.jiv, r.1.cl.jir, r.1.cl.jig, r.1.cl.jo, r.1.cl.je, r.1.nx, r.1.la, r.1.kp, r.1.bd, r.2.k, r.2.c, r.2.f, r.2.t, r.2.key, r.2.s, r.2.d, r.2.p, r.2.pr, r.2.l, r.2.ik, r.2.iv, r.2.ir, r.2.ig, r.2.cd, r.1.op, r.1.fi.jl, r.1.mi.jl, r.1.cl.jl⟩ := by
 have hf := jn
 have h1 := h.b
 have h2 := h.l
 have h4 := h.sn
 have h5 := h.kp
 obtain ⟨j, rfl⟩ : ∃ j, n = j + 1 := Nat.exists_eq_succ_of_ne_zero (by omega)
 unfold F11
 rw [nown_p FUEL x h, jlg FUEL x m h hm]
 simp only [Option.bind_some]
 cases hs : vh x m
 ·rw [hr]
  simp only [jcb, hs, Bool.not_false, cond_true, cond_false, jmo]
  rw [jan FUEL 0 0 0 0 0 false false 0 0 [] ByteArray.empty 0 0 false 0 (by decide)]
  rfl
 ·obtain ⟨ha, hrm, ht, hrn⟩ := jca hs
  rw [find_p x.sn m.f m.c (by omega) h.sns]
  simp only [jcb, hs, cond_true] at hr
  cases hfd : x.sn.find? (isk m.f m.c) with
  | some p =>
   rw [hfd] at hr
   simp only [Bool.not_true, cond_false, Option.bind_some, mkF, cond_true, jmo]
   rw [jan FUEL (pm p).k (pm p).c (pm p).f (pm p).t (pm p).key (pm p).s (pm p).d (pm p).p (pm p).pr (pm p).l (pm p).ik (pm p).iv (pm p).ir (pm p).ig (pm p).cd (h.sns p (List.mem_of_find?_eq_some hfd)), hr]
   rfl
  | none =>
   rw [hfd] at hr
   simp only [Bool.not_true, cond_false, Option.bind_some, mkF]
   rw [tellS_p FUEL m ha]
   simp only [Option.bind_some, ju]
   simp only [askB, Bool.and_eq_true, decide_eq_true_eq] at ha
   rcases (show m.k = 1 ∨ m.k = 2 ∨ m.k = 3 ∨ m.k = 4 ∨ m.k = 5 ∨ m.k = 6 by omega) with hk | hk | hk | hk | hk | hk
   ·have e : tldN x m = { t0 m with pr := x.v.pred, l := x.v.lst } := by unfold tldN; rw [if_pos hk]
    have e2 : behN x m = x := by unfold behN; rw [if_neg (by omega), if_neg (by omega)]
    have hadd := jht hf x.sn [toT (tldN x m)] h4 h.sns (by simp) (qu (by rw [e]; show x.v.lst.length < 1000; omega))
    rw [e] at hadd hr
    rw [e2] at hr
    simp only [toT, t0] at hadd
    rw [decide_eq_true hk, cond_true]
    rw [jke FUEL x.v.lst (by omega)]
    try simp only [Option.bind_some]
    rw [hadd]
    simp only [Option.bind_some]
    rw [jan]
    ·rw [hr]; rfl
    ·omega
   ·have e : tldN x m = t0 m := by unfold tldN; rw [if_neg (by omega), if_neg (by omega), if_neg (by omega), if_neg (by omega)]
    have e2 : behN x m = x := by unfold behN; rw [if_neg (by omega), if_neg (by omega)]
    have hadd := jht hf x.sn [toT (tldN x m)] h4 h.sns (by simp) (qu (by rw [e]; show (0 : Nat) < 1000; omega))
    rw [e] at hadd hr
    rw [e2] at hr
    simp only [toT, t0] at hadd
    rw [decide_eq_false (show ¬ m.k = 1 by omega), cond_false, decide_eq_true hk, cond_true]
    try simp only [Option.bind_some]
    rw [hadd]
    simp only [Option.bind_some]
    rw [jan]
    ·rw [hr]; rfl
    ·decide
   ·have e : tldN x m = t0 m := by unfold tldN; rw [if_neg (by omega), if_neg (by omega), if_neg (by omega), if_neg (by omega)]
    have e2 : behN x m = { x with v := { x.v with pred := ntf x.v.id x.v.pred [m.f] } } := by unfold behN; rw [if_pos hk]
    have hadd := jht hf x.sn [toT (tldN x m)] h4 h.sns (by simp) (qu (by rw [e]; show (0 : Nat) < 1000; omega))
    rw [e] at hadd hr
    rw [e2] at hr
    simp only [toT, t0] at hadd
    rw [decide_eq_false (show ¬ m.k = 1 by omega), cond_false, decide_eq_false (show ¬ m.k = 2 by omega), cond_false, decide_eq_true hk, cond_true]
    rw [ntfS_p (by omega) x.v [m.f] (by omega) (by omega) (by simp) (jfa hrn)]
    try simp only [Option.bind_some]
    rw [hadd]
    simp only [Option.bind_some]
    rw [jan]
    ·rw [hr]; rfl
    ·decide
   ·have hak : jar x.v m = true := by unfold jar; rw [jfa hrn, decide_eq_true hk, decide_eq_true ht, hrm]; rfl
    have e : tldN x m = { t0 m with d := (jat x.v m.key m.s).2, p := (jat x.v m.key m.s).1 } := by unfold tldN; rw [if_neg (by omega), if_pos hk]
    have e2 : behN x m = x := by unfold behN; rw [if_neg (by omega), if_neg (by omega)]
    have hadd := jht hf x.sn [toT (tldN x m)] h4 h.sns (by simp) (qu (by rw [e]; show (0 : Nat) < 1000; omega))
    rw [e] at hadd hr
    rw [e2] at hr
    simp only [toT, t0] at hadd
    rw [decide_eq_false (show ¬ m.k = 1 by omega), cond_false, decide_eq_false (show ¬ m.k = 2 by omega), cond_false, decide_eq_false (show ¬ m.k = 3 by omega), cond_false, decide_eq_true hk, cond_true]
    rw [hansS_p (by omega) x.v m hm hak]
    try simp only [Option.bind_some]
    rw [hadd]
    simp only [Option.bind_some]
    rw [jan]
    ·rw [hr]; rfl
    ·decide
   ·have e : tldN x m = { t0 m with cd := (putV x.kp (itm m)).2 } := by unfold tldN; rw [if_neg (by omega), if_neg (by omega), if_pos hk]
    have e2 : behN x m = { x with kp := (putV x.kp (itm m)).1 } := by unfold behN; rw [if_neg (by omega), if_pos hk]
    have hadd := jht hf x.sn [toT (tldN x m)] h4 h.sns (by simp) (qu (by rw [e]; show (0 : Nat) < 1000; omega))
    rw [e] at hadd hr
    rw [e2] at hr
    simp only [toT, t0] at hadd
    rw [decide_eq_false (show ¬ m.k = 1 by omega), cond_false, decide_eq_false (show ¬ m.k = 2 by omega), cond_false, decide_eq_false (show ¬ m.k = 3 by omega), cond_false, decide_eq_false (show ¬ m.k = 4 by omega), cond_false, decide_eq_true hk, cond_true]
    rw [kput_p (by omega) x.kp (by omega) m.ik m.iv m.ir m.ig]
    simp only [Option.bind_some, mkG, itm] at hadd ⊢
    rw [hadd]
    simp only [Option.bind_some]
    rw [jan]
    ·rw [hr]; rfl
    ·decide
   ·have e : tldN x m = { t0 m with ik := (getV x.kp m.ik).1.1, iv := (getV x.kp m.ik).1.2.1, ir := (getV x.kp m.ik).1.2.2.1, ig := (getV x.kp m.ik).1.2.2.2, cd := (getV x.kp m.ik).2 } := by unfold tldN; rw [if_neg (by omega), if_neg (by omega), if_neg (by omega), if_pos hk]
    have e2 : behN x m = x := by unfold behN; rw [if_neg (by omega), if_neg (by omega)]
    have hadd := jht hf x.sn [toT (tldN x m)] h4 h.sns (by simp) (qu (by rw [e]; show (0 : Nat) < 1000; omega))
    rw [e] at hadd hr
    rw [e2] at hr
    simp only [toT, t0] at hadd
    rw [decide_eq_false (show ¬ m.k = 1 by omega), cond_false, decide_eq_false (show ¬ m.k = 2 by omega), cond_false, decide_eq_false (show ¬ m.k = 3 by omega), cond_false, decide_eq_false (show ¬ m.k = 4 by omega), cond_false, decide_eq_false (show ¬ m.k = 5 by omega), cond_false, decide_eq_true hk, cond_true]
    rw [kget_p FUEL x.kp (by omega) m.ik]
    simp only [Option.bind_some, mkG, itm] at hadd ⊢
    rw [hadd]
    simp only [Option.bind_some]
    rw [jan]
    ·rw [hr]; rfl
    ·decide
theorem waj (n : Nat) (x : NW) (m : MW) (h : Sm x) (hm : m.l.length < 1000) (r : NW × MW) (hr : r = jcb x m) :
  F12 n x.v.id x.v.base x.v.lst x.v.pred x.v.f0 x.v.f1 x.v.f2 x.v.f3 x.v.f4 x.v.f5 x.v.f6 x.v.f7 x.v.f8 x.v.f9 x.v.f10 x.v.f11 x.v.f12 x.v.f13 x.v.f14 x.v.f15 x.clk x.cid x.cmy x.op x.sn x.sp x.so x.fi.jw x.fi.jp x.fi.jk x.fi.ja x.fi.jh x.fi.js x.fi.jf x.fi.jc x.fi.jik x.fi.jiv x.fi.jir x.fi.jig x.fi.jo x.fi.jl x.fi.je x.mi.jw x.mi.jp x.mi.jk x.mi.ja x.mi.jh x.mi.js x.mi.jf x.mi.jc x.mi.jik x.mi.jiv x.mi.jir x.mi.jig x.mi.jo x.mi.jl x.mi.je x.cl.jw x.cl.jp x.cl.jk x.cl.ja x.cl.jh x.cl.js x.cl.jf x.cl.jc x.cl.jik x.cl.jiv x.cl.jir x.cl.jig x.cl.jo x.cl.jl x.cl.je x.nx x.la x.kp x.bd m.k m.c m.f m.t m.key m.s m.d m.p m.pr m.l m.ik m.iv m.ir m.ig m.cd = some ⟨r.1.v.id, r.1.v.pred, r.1.v.f0, r.1.v.f1, r.1.v.f2, r.1.v.f3, r.1.v.f4, r.1.v.f5, r.1.v.f6, r.1.v.f7, r.1.v.f8, r.1.v.f9, r.1.v.f10, r.1.v.f11, r.1.v.f12, r.1.v.f13, r.1.v.f14, r.1.v.f15, r.1.clk, r.1.cid, r.1.cmy, r.1.sn, r.1.sp, r.1.so, r.1.fi.jw, r.1.fi.jp, r.1.fi.jk, r.1.fi.ja, r.1.fi.jh, r.1.fi.js, r.1.fi.jf, r.1.fi.jc, r.1.fi.jik, r.1.fi.jiv, r.1.fi.jir, r.1.fi.jig, r.1.fi.jo, r.1.fi.je, r.1.mi.jw, r.1.mi.jp, r.1.mi.jk, r.1.mi.ja, r.1.mi.jh, r.1.mi.js, r.1.mi.jf, r.1.mi.jc, r.1.mi.jik, r.1.mi.jiv, r.1.mi.jir, r.1.mi.jig, r.1.mi.jo, r.1.mi.je, r.1.cl.jw, r.1.cl.jp, r.1.cl.jk, r.1.cl.ja, r.1.cl.jh, r.1.cl.js, r.1.cl.jf, r.1.cl.jc, r.1.cl.jik, r.1.cl.jiv, r.1.cl.jir, r.1.cl.jig, r.1.cl.jo, r.1.cl.je, r.1.nx, r.1.la, r.1.bd, r.2.k, r.2.c, r.2.f, r.2.t, r.2.key, r.2.s, r.2.d, r.2.p, r.2.pr, r.2.l, r.2.ik, r.2.iv, r.2.ir, r.2.ig, r.2.cd, r.1.v.base, r.1.v.lst, r.1.op, r.1.fi.jl, r.1.mi.jl, r.1.cl.jl, r.1.kp⟩ := by
 have hf := jn
 have h1 := h.b
 have h2 := h.l
 have h4 := h.sn
 have h5 := h.kp
 unfold F12
 rw [nown_r FUEL x h]
 simp only [Option.bind_some]
 rw [jlf FUEL x m h hm]
 simp only [Option.bind_some]
 cases hs : vh x m
 ·rw [hr]
  simp only [jcb, hs, Bool.not_false, cond_true, cond_false]
  rfl
 ·obtain ⟨ha, hrm, ht, hrn⟩ := jca hs
  rw [jwo (by omega) x.sn m.f m.c (by omega) h.sns]
  simp only [jcb, hs, cond_true] at hr
  cases hfd : x.sn.find? (isk m.f m.c) with
  | some p =>
   rw [hfd] at hr
   simp only [Bool.not_true, cond_false, Option.bind_some, mkF, cond_true]
   rw [jbc FUEL (pm p).k (pm p).c (pm p).f (pm p).t (pm p).key (pm p).s (pm p).d (pm p).p (pm p).pr (pm p).l (pm p).ik (pm p).iv (pm p).ir (pm p).ig (pm p).cd (h.sns p (List.mem_of_find?_eq_some hfd)), hr]
   rfl
  | none =>
   rw [hfd] at hr
   simp only [Bool.not_true, cond_false, Option.bind_some, mkF]
   rw [tellS_r FUEL m ha]
   simp only [Option.bind_some, ju]
   simp only [askB, Bool.and_eq_true, decide_eq_true_eq] at ha
   rcases (show m.k = 1 ∨ m.k = 2 ∨ m.k = 3 ∨ m.k = 4 ∨ m.k = 5 ∨ m.k = 6 by omega) with hk | hk | hk | hk | hk | hk
   ·have e : tldN x m = { t0 m with pr := x.v.pred, l := x.v.lst } := by unfold tldN; rw [if_pos hk]
    have e2 : behN x m = x := by unfold behN; rw [if_neg (by omega), if_neg (by omega)]
    have hadd := jhs hf x.sn [toT (tldN x m)] h4 h.sns (by simp) (qu (by rw [e]; show x.v.lst.length < 1000; omega))
    rw [e] at hadd hr
    rw [e2] at hr
    simp only [toT, t0] at hadd
    rw [decide_eq_true hk, cond_true]
    rw [qh (by omega) (by decide), cond_true]
    simp only [List.nil_append]
    try simp only [Option.bind_some]
    rw [hadd]
    simp only [Option.bind_some]
    rw [jbc]
    ·rw [hr]; rfl
    ·omega
   ·have e : tldN x m = t0 m := by unfold tldN; rw [if_neg (by omega), if_neg (by omega), if_neg (by omega), if_neg (by omega)]
    have e2 : behN x m = x := by unfold behN; rw [if_neg (by omega), if_neg (by omega)]
    have hadd := jhs hf x.sn [toT (tldN x m)] h4 h.sns (by simp) (qu (by rw [e]; show (0 : Nat) < 1000; omega))
    rw [e] at hadd hr
    rw [e2] at hr
    simp only [toT, t0] at hadd
    rw [decide_eq_false (show ¬ m.k = 1 by omega), cond_false, decide_eq_false (show ¬ m.k = 3 by omega), cond_false, decide_eq_false (show ¬ m.k = 4 by omega), cond_false, decide_eq_false (show ¬ m.k = 5 by omega), cond_false, decide_eq_false (show ¬ m.k = 6 by omega), cond_false]
    try simp only [Option.bind_some]
    rw [hadd]
    simp only [Option.bind_some]
    rw [jbc]
    ·rw [hr]; rfl
    ·decide
   ·have e : tldN x m = t0 m := by unfold tldN; rw [if_neg (by omega), if_neg (by omega), if_neg (by omega), if_neg (by omega)]
    have e2 : behN x m = { x with v := { x.v with pred := ntf x.v.id x.v.pred [m.f] } } := by unfold behN; rw [if_pos hk]
    have hadd := jhs hf x.sn [toT (tldN x m)] h4 h.sns (by simp) (qu (by rw [e]; show (0 : Nat) < 1000; omega))
    rw [e] at hadd hr
    rw [e2] at hr
    simp only [toT, t0] at hadd
    rw [decide_eq_false (show ¬ m.k = 1 by omega), cond_false, decide_eq_true hk, cond_true]
    rw [ntfS_r (by omega) x.v [m.f] (by omega) (by omega) (by simp) (jfa hrn)]
    try simp only [Option.bind_some]
    rw [hadd]
    simp only [Option.bind_some]
    rw [jbc]
    ·rw [hr]; rfl
    ·decide
   ·have hak : jar x.v m = true := by unfold jar; rw [jfa hrn, decide_eq_true hk, decide_eq_true ht, hrm]; rfl
    have e : tldN x m = { t0 m with d := (jat x.v m.key m.s).2, p := (jat x.v m.key m.s).1 } := by unfold tldN; rw [if_neg (by omega), if_pos hk]
    have e2 : behN x m = x := by unfold behN; rw [if_neg (by omega), if_neg (by omega)]
    have hadd := jhs hf x.sn [toT (tldN x m)] h4 h.sns (by simp) (qu (by rw [e]; show (0 : Nat) < 1000; omega))
    rw [e] at hadd hr
    rw [e2] at hr
    simp only [toT, t0] at hadd
    rw [decide_eq_false (show ¬ m.k = 1 by omega), cond_false, decide_eq_false (show ¬ m.k = 3 by omega), cond_false, decide_eq_true hk, cond_true]
    rw [hansS_r FUEL x.v m hm h2 hak]
    try simp only [Option.bind_some]
    rw [hadd]
    simp only [Option.bind_some]
    rw [jbc]
    ·rw [hr]; rfl
    ·decide
   ·have e : tldN x m = { t0 m with cd := (putV x.kp (itm m)).2 } := by unfold tldN; rw [if_neg (by omega), if_neg (by omega), if_pos hk]
    have e2 : behN x m = { x with kp := (putV x.kp (itm m)).1 } := by unfold behN; rw [if_neg (by omega), if_pos hk]
    have hadd := jhs hf x.sn [toT (tldN x m)] h4 h.sns (by simp) (qu (by rw [e]; show (0 : Nat) < 1000; omega))
    rw [e] at hadd hr
    rw [e2] at hr
    simp only [toT, t0] at hadd
    rw [decide_eq_false (show ¬ m.k = 1 by omega), cond_false, decide_eq_false (show ¬ m.k = 3 by omega), cond_false, decide_eq_false (show ¬ m.k = 4 by omega), cond_false, decide_eq_true hk, cond_true]
    rw [kput_r (by omega) x.kp (by omega) m.ik m.iv m.ir m.ig]
    simp only [Option.bind_some, mkG, itm] at hadd ⊢
    rw [hadd]
    simp only [Option.bind_some]
    rw [jbc]
    ·rw [hr]; rfl
    ·decide
   ·have e : tldN x m = { t0 m with ik := (getV x.kp m.ik).1.1, iv := (getV x.kp m.ik).1.2.1, ir := (getV x.kp m.ik).1.2.2.1, ig := (getV x.kp m.ik).1.2.2.2, cd := (getV x.kp m.ik).2 } := by unfold tldN; rw [if_neg (by omega), if_neg (by omega), if_neg (by omega), if_pos hk]
    have e2 : behN x m = x := by unfold behN; rw [if_neg (by omega), if_neg (by omega)]
    have hadd := jhs hf x.sn [toT (tldN x m)] h4 h.sns (by simp) (qu (by rw [e]; show (0 : Nat) < 1000; omega))
    rw [e] at hadd hr
    rw [e2] at hr
    simp only [toT, t0] at hadd
    rw [decide_eq_false (show ¬ m.k = 1 by omega), cond_false, decide_eq_false (show ¬ m.k = 3 by omega), cond_false, decide_eq_false (show ¬ m.k = 4 by omega), cond_false, decide_eq_false (show ¬ m.k = 5 by omega), cond_false, decide_eq_true hk, cond_true]
    rw [kget_r (by omega) x.kp (by omega) m.ik]
    simp only [Option.bind_some, mkG, itm] at hadd ⊢
    rw [hadd]
    simp only [Option.bind_some]
    rw [jbc]
    ·rw [hr]; rfl
    ·decide
end Go.Proofs.YthjhcmkgadfpmaaGreat
namespace Go.Proofs.YthjhcmkgadfpmaaGreat
open Go Go.RowKit
theorem wakes22 : F10 FUEL = some true := by kernel_rfl
theorem wao (n : Nat) (m : MW) : ∃ g, F9 n m.k m.c m.f m.t m.key m.s m.d m.p m.pr m.l m.ik m.iv m.ir m.ig m.cd = some g ∧ (g = false → m.l.length ≤ 20) := by
 unfold F9
 rw [gt20]
 by_cases h : m.l.length ≤ 20
 ·rw [decide_eq_true h]; exact ⟨_, rfl, fun _ => h⟩
 ·rw [decide_eq_false h]; exact ⟨true, rfl, fun h => by cases h⟩
theorem wan (n : Nat) (hn : 2000 < n) (a b : MW) (h : a.l.length < 1000) : F14 n a.k a.c a.f a.t a.key a.s a.d a.p a.pr a.l a.ik a.iv a.ir a.ig a.cd b.k b.c b.f b.t b.key b.s b.d b.p b.pr b.l b.ik b.iv b.ir b.ig b.cd = some (ud a b) := vy (by omega) (by omega)
theorem jkr {x : NW} {m : MW} (h : vh x m = false) : jcb x m = (x, zM) := by
 unfold jcb; rw [h]; rfl
theorem jfq {x : NW} {m : MW} {p : PT} (h : vh x m = true) (hf : x.sn.find? (isk m.f m.c) = some p) : jcb x m = (x, pm p) := by
 unfold jcb; rw [h, hf]; rfl
theorem jfp {x : NW} {m : MW} (h : vh x m = true) (hf : x.sn.find? (isk m.f m.c) = none) : jcb x m = ({ behN x m with sn := addS x.sn (tldN x m) }, tldN x m) := by
 unfold jcb; rw [h, hf]; rfl
theorem behN_v (x : NW) (m : MW) : (behN x m).v.id = x.v.id ∧ (behN x m).v.base = x.v.base ∧ (behN x m).v.lst = x.v.lst := by
 unfold behN; split
 ·exact ⟨rfl, rfl, rfl⟩
 ·split <;> exact ⟨rfl, rfl, rfl⟩
theorem behN_f (x : NW) (m : MW) : (behN x m).op = x.op ∧ (behN x m).fi = x.fi ∧ (behN x m).mi = x.mi ∧ (behN x m).cl = x.cl := by
 unfold behN; split
 ·exact ⟨rfl, rfl, rfl, rfl⟩
 ·split <;> exact ⟨rfl, rfl, rfl, rfl⟩
theorem jzx {x : NW} (h : jbs x = true) : zi x.kp = true := by
 unfold jbs at h
 simp only [Bool.and_eq_true] at h
 exact h.2.2.2.2.2.2.2.2.2.1
theorem jvn {k : List IT} (h : zi k = true) : k.length ≤ 24 := ((wd k).1 h).1
theorem behN_k {x : NW} (m : MW) (h : zi x.kp = true) : zi (behN x m).kp = true := by
 unfold behN; split
 ·exact h
 ·split
  ·exact jup _ h
  ·exact h
theorem jpj (x : NW) (m : MW) : (tldN x m).l.length ≤ x.v.lst.length := by
 unfold tldN; split
 ·exact Nat.le_refl _
 ·split
  ·exact Nat.zero_le _
  ·split
   ·exact Nat.zero_le _
   ·split <;> exact Nat.zero_le _
theorem jzo {x : NW} {m : MW} (h : Sm x) : Sm (jcb x m).1 := by
 cases hs : vh x m
 ·rw [jkr hs]; exact h
 ·cases hf : x.sn.find? (isk m.f m.c) with
  | some p => rw [jfq hs hf]; exact h
  | none =>
   rw [jfp hs hf]
   obtain ⟨v1, v2, v3⟩ := behN_v x m
   obtain ⟨f1, f2, f3, f4⟩ := behN_f x m
   have hk := jvn (behN_k m (jzx (jca hs).2.2.2))
   have hl := jpj x m
   have ha := wby x.sn (tldN x m)
   obtain ⟨h1, h2, h3, h4, h5, h6, h7, h8, h9, h10⟩ := h
   exact ⟨by rw [v2]; exact h1, by rw [v3]; exact h2, by rw [f1]; exact h3, by rw [f1]; exact h4, by show (addS x.sn (tldN x m)).length ≤ 60; omega, jby h6 (by omega), by show (behN x m).kp.length ≤ 40; omega, by rw [f2]; exact h8, by rw [f3]; exact h9, by rw [f4]; exact h10⟩
theorem jtm {x : NW} {m : MW} (h : Sm x) : (jcb x m).2.l.length < 1000 := by
 cases hs : vh x m
 ·rw [jkr hs]; show (0 : Nat) < 1000; omega
 ·cases hf : x.sn.find? (isk m.f m.c) with
  | some p => rw [jfq hs hf]; exact h.sns p (List.mem_of_find?_eq_some hf)
  | none =>
   rw [jfp hs hf]
   have hl := jpj x m
   have h2 := h.l
   show (tldN x m).l.length < 1000
   omega
theorem jyq (b : Bool) : beqb b b = true := by cases b <;> rfl
theorem tells_x (n : Nat) (x y : NW) (m : MW) : F3 n x.v.id x.v.base x.v.lst x.v.pred x.v.f0 x.v.f1 x.v.f2 x.v.f3 x.v.f4 x.v.f5 x.v.f6 x.v.f7 x.v.f8 x.v.f9 x.v.f10 x.v.f11 x.v.f12 x.v.f13 x.v.f14 x.v.f15 x.clk x.cid x.cmy x.op x.sn x.sp x.so x.fi.jw x.fi.jp x.fi.jk x.fi.ja x.fi.jh x.fi.js x.fi.jf x.fi.jc x.fi.jik x.fi.jiv x.fi.jir x.fi.jig x.fi.jo x.fi.jl x.fi.je x.mi.jw x.mi.jp x.mi.jk x.mi.ja x.mi.jh x.mi.js x.mi.jf x.mi.jc x.mi.jik x.mi.jiv x.mi.jir x.mi.jig x.mi.jo x.mi.jl x.mi.je x.cl.jw x.cl.jp x.cl.jk x.cl.ja x.cl.jh x.cl.js x.cl.jf x.cl.jc x.cl.jik x.cl.jiv x.cl.jir x.cl.jig x.cl.jo x.cl.jl x.cl.je x.nx x.la x.kp x.bd y.v.id y.v.base y.v.lst y.v.pred y.v.f0 y.v.f1 y.v.f2 y.v.f3 y.v.f4 y.v.f5 y.v.f6 y.v.f7 y.v.f8 y.v.f9 y.v.f10 y.v.f11 y.v.f12 y.v.f13 y.v.f14 y.v.f15 y.clk y.cid y.cmy y.op y.sn y.sp y.so y.fi.jw y.fi.jp y.fi.jk y.fi.ja y.fi.jh y.fi.js y.fi.jf y.fi.jc y.fi.jik y.fi.jiv y.fi.jir y.fi.jig y.fi.jo y.fi.jl y.fi.je y.mi.jw y.mi.jp y.mi.jk y.mi.ja y.mi.jh y.mi.js y.mi.jf y.mi.jc y.mi.jik y.mi.jiv y.mi.jir y.mi.jig y.mi.jo y.mi.jl y.mi.je y.cl.jw y.cl.jp y.cl.jk y.cl.ja y.cl.jh y.cl.js y.cl.jf y.cl.jc y.cl.jik y.cl.jiv y.cl.jir y.cl.jig y.cl.jo y.cl.jl y.cl.je y.nx y.la y.kp y.bd m.k m.c m.f m.t m.key m.s m.d m.p m.pr m.l m.ik m.iv m.ir m.ig m.cd = some true := by
 have hf := jn
 unfold F3
 obtain ⟨g, hg, hs⟩ := ngreat (n := FUEL) (by omega) x
 obtain ⟨g1, hg1, hs1⟩ := ngreat (n := FUEL) (by omega) y
 obtain ⟨g2, hg2, hm⟩ := wao FUEL m
 rw [hg, hg1, hg2, wakes22]
 simp only [Option.bind_some]
 cases g
 ·cases g1
  ·cases g2
   ·replace hs := hs rfl
    replace hm := hm rfl
    obtain ⟨r, hr⟩ : ∃ r, r = jcb x m := ⟨_, rfl⟩
    have sm : Sm r.1 := by rw [hr]; exact jzo hs
    have sl : r.2.l.length < 1000 := by rw [hr]; exact jtm hs
    simp only [cond_false, jqa FUEL x hs, wak (n := FUEL) (by omega) x m hs (by omega) r hr, waj FUEL x m hs (by omega) r hr, jlg FUEL x m hs (by omega), jlf FUEL x m hs (by omega), jqb (n := FUEL) (by omega) x hs, nsame_p FUEL x y hs, jnk (n := FUEL) (by omega) x y hs, nown_p FUEL x hs, Option.bind_some, jyq, cond_true]
    rw [show F13 FUEL r.1.v.id r.1.v.base r.1.v.lst r.1.v.pred r.1.v.f0 r.1.v.f1 r.1.v.f2 r.1.v.f3 r.1.v.f4 r.1.v.f5 r.1.v.f6 r.1.v.f7 r.1.v.f8 r.1.v.f9 r.1.v.f10 r.1.v.f11 r.1.v.f12 r.1.v.f13 r.1.v.f14 r.1.v.f15 r.1.clk r.1.cid r.1.cmy r.1.op r.1.sn r.1.sp r.1.so r.1.fi.jw r.1.fi.jp r.1.fi.jk r.1.fi.ja r.1.fi.jh r.1.fi.js r.1.fi.jf r.1.fi.jc r.1.fi.jik r.1.fi.jiv r.1.fi.jir r.1.fi.jig r.1.fi.jo r.1.fi.jl r.1.fi.je r.1.mi.jw r.1.mi.jp r.1.mi.jk r.1.mi.ja r.1.mi.jh r.1.mi.js r.1.mi.jf r.1.mi.jc r.1.mi.jik r.1.mi.jiv r.1.mi.jir r.1.mi.jig r.1.mi.jo r.1.mi.jl r.1.mi.je r.1.cl.jw r.1.cl.jp r.1.cl.jk r.1.cl.ja r.1.cl.jh r.1.cl.js r.1.cl.jf r.1.cl.jc r.1.cl.jik r.1.cl.jiv r.1.cl.jir r.1.cl.jig r.1.cl.jo r.1.cl.jl r.1.cl.je r.1.nx r.1.la r.1.kp r.1.bd r.1.v.id r.1.v.base r.1.v.lst r.1.v.pred r.1.v.f0 r.1.v.f1 r.1.v.f2 r.1.v.f3 r.1.v.f4 r.1.v.f5 r.1.v.f6 r.1.v.f7 r.1.v.f8 r.1.v.f9 r.1.v.f10 r.1.v.f11 r.1.v.f12 r.1.v.f13 r.1.v.f14 r.1.v.f15 r.1.clk r.1.cid r.1.cmy r.1.op r.1.sn r.1.sp r.1.so r.1.fi.jw r.1.fi.jp r.1.fi.jk r.1.fi.ja r.1.fi.jh r.1.fi.js r.1.fi.jf r.1.fi.jc r.1.fi.jik r.1.fi.jiv r.1.fi.jir r.1.fi.jig r.1.fi.jo r.1.fi.jl r.1.fi.je r.1.mi.jw r.1.mi.jp r.1.mi.jk r.1.mi.ja r.1.mi.jh r.1.mi.js r.1.mi.jf r.1.mi.jc r.1.mi.jik r.1.mi.jiv r.1.mi.jir r.1.mi.jig r.1.mi.jo r.1.mi.jl r.1.mi.je r.1.cl.jw r.1.cl.jp r.1.cl.jk r.1.cl.ja r.1.cl.jh r.1.cl.js r.1.cl.jf r.1.cl.jc r.1.cl.jik r.1.cl.jiv r.1.cl.jir r.1.cl.jig r.1.cl.jo r.1.cl.jl r.1.cl.je r.1.nx r.1.la r.1.kp r.1.bd = _ from jnk (by omega) _ _ sm, jhq, show F14 FUEL r.2.k r.2.c r.2.f r.2.t r.2.key r.2.s r.2.d r.2.p r.2.pr r.2.l r.2.ik r.2.iv r.2.ir r.2.ig r.2.cd r.2.k r.2.c r.2.f r.2.t r.2.key r.2.s r.2.d r.2.p r.2.pr r.2.l r.2.ik r.2.iv r.2.ir r.2.ig r.2.cd = _ from wan FUEL (by omega) _ _ sl, jhr, jnk (by omega) x x hs, jhq]
    rfl
   ·rfl
  ·rfl
 ·rfl
end Go.Proofs.YthjhcmkgadfpmaaGreat
