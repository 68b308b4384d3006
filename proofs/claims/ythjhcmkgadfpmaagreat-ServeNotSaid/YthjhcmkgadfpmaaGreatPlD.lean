/-
  What the functions compute, in plain words.
-/
import Derived.Test.YthjhcmkgadfpmaaGreatPlC
namespace Go.Proofs.YthjhcmkgadfpmaaGreat
open Go Go.RowKit
def t0 (m : MW) : MW := ⟨m.k + 6, m.c, m.t, m.f, 0, false, false, 0, 0, [], ByteArray.empty, 0, 0, false, 0⟩
def zM : MW := ⟨0, 0, 0, 0, 0, false, false, 0, 0, [], ByteArray.empty, 0, 0, false, 0⟩
def itm (m : MW) : IT := (m.ik, m.iv, m.ir, m.ig)
def tldN (x : NW) (m : MW) : MW :=
  if m.k = 1 then { t0 m with pr := x.v.pred, l := x.v.lst }
  else if m.k = 4 then { t0 m with d := (nextV x.v m.key m.s).2, p := (nextV x.v m.key m.s).1 }
  else if m.k = 5 then { t0 m with cd := (putV x.kp (itm m)).2 }
  else if m.k = 6 then { t0 m with ik := (getV x.kp m.ik).1.1, iv := (getV x.kp m.ik).1.2.1, ir := (getV x.kp m.ik).1.2.2.1, ig := (getV x.kp m.ik).1.2.2.2, cd := (getV x.kp m.ik).2 }
  else t0 m
def behN (x : NW) (m : MW) : NW :=
  if m.k = 3 then { x with v := { x.v with pred := ntf x.v.id x.v.pred [m.f] } }
  else if m.k = 5 then { x with kp := (putV x.kp (itm m)).1 } else x
def toT (m : MW) : MT := (m.k, m.c, m.f, m.t, m.key, m.s, m.d, m.p, m.pr, m.l, m.ik, m.iv, m.ir, m.ig, m.cd)
def servN (x : NW) (m : MW) : NW × MW :=
  bif servesN x m then (match x.sn.find? (isk m.f m.c) with
    | some p => (x, pm p)
    | none => ({ behN x m with sn := addA x.sn [toT (tldN x m)] }, tldN x m))
  else (x, zM)
theorem tellS_p (n : Nat) (m : MW) (h : askB m.k = true) : F111 n m.k m.c m.f m.t m.key m.s m.d m.p m.pr m.l m.ik m.iv m.ir m.ig m.cd = some ⟨m.k + 6, m.c, m.t, m.f, 0, false, false, 0, 0, ByteArray.empty, 0, 0, false, 0⟩ := by
  have := tell_p n m.k m.c m.f m.t m.key m.s m.d m.p m.pr m.l m.ik m.iv m.ir m.ig m.cd
  rw [h, cond_true] at this
  exact this
theorem servesN_iff {x : NW} {m : MW} (h : servesN x m = true) : askB m.k = true ∧ rightM m = true ∧ m.t = x.v.id ∧ rightN x = true := by
  unfold servesN at h
  simp only [Bool.and_eq_true, decide_eq_true_eq] at h
  exact h
theorem rightN_v {x : NW} (h : rightN x = true) : rightV x.v = true := by
  unfold rightN at h
  simp only [Bool.and_eq_true] at h
  exact h.2.2.2.2.2.1
theorem shortM_one {m : MW} (h : m.l.length < 1000) : shortM [toT m] := by
  intro y hy
  rw [List.mem_singleton.1 hy]; exact h
theorem hansS_p {n : Nat} (hn : 0 < n) (v : VW) (m : MW) (h : m.l.length < 1000) (ha : askedV v m = true) : F118 n v.id v.base v.lst v.pred v.f0 v.f1 v.f2 v.f3 v.f4 v.f5 v.f6 v.f7 v.f8 v.f9 v.f10 v.f11 v.f12 v.f13 v.f14 v.f15 m.k m.c m.f m.t m.key m.s m.d m.p m.pr m.l m.ik m.iv m.ir m.ig m.cd = some ⟨m.k + 6, m.c, m.t, m.f, 0, false, (nextV v m.key m.s).2, (nextV v m.key m.s).1, 0, ByteArray.empty, 0, 0, false, 0⟩ := by
  have := hanswer_p hn v.id v.base v.lst v.pred v.f0 v.f1 v.f2 v.f3 v.f4 v.f5 v.f6 v.f7 v.f8 v.f9 v.f10 v.f11 v.f12 v.f13 v.f14 v.f15 m.k m.c m.f m.t m.key m.s m.d m.p m.pr m.l m.ik m.iv m.ir m.ig m.cd h
  rw [show askedV ⟨v.id, v.base, v.lst, v.pred, v.f0, v.f1, v.f2, v.f3, v.f4, v.f5, v.f6, v.f7, v.f8, v.f9, v.f10, v.f11, v.f12, v.f13, v.f14, v.f15⟩ ⟨m.k, m.c, m.f, m.t, m.key, m.s, m.d, m.p, m.pr, m.l, m.ik, m.iv, m.ir, m.ig, m.cd⟩ = true from ha, cond_true] at this
  exact this
theorem ntfS_p {n : Nat} (hn : 2000 < n) (v : VW) (l : List Int) (h1 : v.base.length < 1000) (h2 : v.lst.length < 1000) (h3 : l.length < 1000) (hv : rightV v = true) :
    F116 n v.id v.base v.lst v.pred v.f0 v.f1 v.f2 v.f3 v.f4 v.f5 v.f6 v.f7 v.f8 v.f9 v.f10 v.f11 v.f12 v.f13 v.f14 v.f15 l = some ⟨v.id, ntf v.id v.pred l, v.f0, v.f1, v.f2, v.f3, v.f4, v.f5, v.f6, v.f7, v.f8, v.f9, v.f10, v.f11, v.f12, v.f13, v.f14, v.f15, v.base, v.lst⟩ := by
  have := notify_p hn v.id v.base v.lst v.pred v.f0 v.f1 v.f2 v.f3 v.f4 v.f5 v.f6 v.f7 v.f8 v.f9 v.f10 v.f11 v.f12 v.f13 v.f14 v.f15 l h1 h2 h3
  rw [show rightV ⟨v.id, v.base, v.lst, v.pred, v.f0, v.f1, v.f2, v.f3, v.f4, v.f5, v.f6, v.f7, v.f8, v.f9, v.f10, v.f11, v.f12, v.f13, v.f14, v.f15⟩ = true from hv] at this
  exact this
theorem nserve_p {n : Nat} (hn : 0 < n) (x : NW) (m : MW) (h : Sm x) (hm : m.l.length < 1000) (r : NW × MW) (hr : r = servN x m) :
    F11 n x.v.id x.v.base x.v.lst x.v.pred x.v.f0 x.v.f1 x.v.f2 x.v.f3 x.v.f4 x.v.f5 x.v.f6 x.v.f7 x.v.f8 x.v.f9 x.v.f10 x.v.f11 x.v.f12 x.v.f13 x.v.f14 x.v.f15 x.clk x.cid x.cmy x.op x.sn x.sp x.so x.fi.jw x.fi.jp x.fi.jk x.fi.ja x.fi.jh x.fi.js x.fi.jf x.fi.jc x.fi.jik x.fi.jiv x.fi.jir x.fi.jig x.fi.jo x.fi.jl x.fi.je x.mi.jw x.mi.jp x.mi.jk x.mi.ja x.mi.jh x.mi.js x.mi.jf x.mi.jc x.mi.jik x.mi.jiv x.mi.jir x.mi.jig x.mi.jo x.mi.jl x.mi.je x.cl.jw x.cl.jp x.cl.jk x.cl.ja x.cl.jh x.cl.js x.cl.jf x.cl.jc x.cl.jik x.cl.jiv x.cl.jir x.cl.jig x.cl.jo x.cl.jl x.cl.je x.nx x.la x.kp x.bd m.k m.c m.f m.t m.key m.s m.d m.p m.pr m.l m.ik m.iv m.ir m.ig m.cd = some ⟨r.1.v.id, r.1.v.base, r.1.v.lst, r.1.v.pred, r.1.v.f0, r.1.v.f1, r.1.v.f2, r.1.v.f3, r.1.v.f4, r.1.v.f5, r.1.v.f6, r.1.v.f7, r.1.v.f8, r.1.v.f9, r.1.v.f10, r.1.v.f11, r.1.v.f12, r.1.v.f13, r.1.v.f14, r.1.v.f15, r.1.clk, r.1.cid, r.1.cmy, r.1.sn, r.1.sp, r.1.so, r.1.fi.jw, r.1.fi.jp, r.1.fi.jk, r.1.fi.ja, r.1.fi.jh, r.1.fi.js, r.1.fi.jf, r.1.fi.jc, r.1.fi.jik, r.1.fi.jiv, r.1.fi.jir, r.1.fi.jig, r.1.fi.jo, r.1.fi.je, r.1.mi.jw, r.1.mi.jp, r.1.mi.jk, r.1.mi.ja, r.1.mi.jh, r.1.mi.js, r.1.mi.jf, r.1.mi.jc, r.1.mi.jik, r.1.mi.jiv, r.1.mi.jir, r.1.mi.jig, r.1.mi.jo, r.1.mi.je, r.1.cl.jw, r.1.cl.jp, r.1.cl.jk, r.1.cl.ja, r.1.cl.jh, r.1.cl.js, r.1.cl.jf, r.1.cl.jc, r.1.cl.jik, r.1.cl.jiv, r.1.cl.jir, r.1.cl.jig, r.1.cl.jo, r.1.cl.je, r.1.nx, r.1.la, r.1.kp, r.1.bd, r.2.k, r.2.c, r.2.f, r.2.t, r.2.key, r.2.s, r.2.d, r.2.p, r.2.pr, r.2.l, r.2.ik, r.2.iv, r.2.ir, r.2.ig, r.2.cd, r.1.op, r.1.fi.jl, r.1.mi.jl, r.1.cl.jl⟩ := by
  have hf := fuel_big
  have h1 := h.b
  have h2 := h.l
  have h4 := h.sn
  have h5 := h.kp
  obtain ⟨j, rfl⟩ : ∃ j, n = j + 1 := Nat.exists_eq_succ_of_ne_zero (by omega)
  unfold F11
  rw [nown_p FUEL x h, nserves_p FUEL x m h hm]
  simp only [Option.bind_some]
  cases hs : servesN x m
  · rw [hr]
    simp only [servN, hs, Bool.not_false, cond_true, cond_false, F11_c0]
    rw [mown_p FUEL 0 0 0 0 0 false false 0 0 [] ByteArray.empty 0 0 false 0 (by decide)]
    rfl
  · obtain ⟨ha, hrm, ht, hrn⟩ := servesN_iff hs
    rw [find_p x.sn m.f m.c (by omega) h.sns]
    simp only [servN, hs, cond_true] at hr
    cases hfd : x.sn.find? (isk m.f m.c) with
    | some p =>
      rw [hfd] at hr
      simp only [Bool.not_true, cond_false, Option.bind_some, mkF, cond_true, F11_c0]
      rw [mown_p FUEL (pm p).k (pm p).c (pm p).f (pm p).t (pm p).key (pm p).s (pm p).d (pm p).p (pm p).pr (pm p).l (pm p).ik (pm p).iv (pm p).ir (pm p).ig (pm p).cd (h.sns p (List.mem_of_find?_eq_some hfd)), hr]
      rfl
    | none =>
      rw [hfd] at hr
      simp only [Bool.not_true, cond_false, Option.bind_some, mkF]
      rw [tellS_p FUEL m ha]
      simp only [Option.bind_some, ieq_dec]
      simp only [askB, Bool.and_eq_true, decide_eq_true_eq] at ha
      rcases (show m.k = 1 ∨ m.k = 2 ∨ m.k = 3 ∨ m.k = 4 ∨ m.k = 5 ∨ m.k = 6 by omega) with hk | hk | hk | hk | hk | hk
      · have e : tldN x m = { t0 m with pr := x.v.pred, l := x.v.lst } := by unfold tldN; rw [if_pos hk]
        have e2 : behN x m = x := by unfold behN; rw [if_neg (by omega), if_neg (by omega)]
        have hadd := sadd_p hf x.sn [toT (tldN x m)] h4 h.sns (by simp) (shortM_one (by rw [e]; show x.v.lst.length < 1000; omega))
        rw [e] at hadd hr
        rw [e2] at hr
        simp only [toT, t0] at hadd
        rw [decide_eq_true hk, cond_true]
        rw [clone_p FUEL x.v.lst (by omega)]
        try simp only [Option.bind_some]
        rw [hadd]
        simp only [Option.bind_some]
        rw [mown_p]
        · rw [hr]; rfl
        · omega
      · have e : tldN x m = t0 m := by unfold tldN; rw [if_neg (by omega), if_neg (by omega), if_neg (by omega), if_neg (by omega)]
        have e2 : behN x m = x := by unfold behN; rw [if_neg (by omega), if_neg (by omega)]
        have hadd := sadd_p hf x.sn [toT (tldN x m)] h4 h.sns (by simp) (shortM_one (by rw [e]; show (0 : Nat) < 1000; omega))
        rw [e] at hadd hr
        rw [e2] at hr
        simp only [toT, t0] at hadd
        rw [decide_eq_false (show ¬ m.k = 1 by omega), cond_false, decide_eq_true hk, cond_true]
        try simp only [Option.bind_some]
        rw [hadd]
        simp only [Option.bind_some]
        rw [mown_p]
        · rw [hr]; rfl
        · decide
      · have e : tldN x m = t0 m := by unfold tldN; rw [if_neg (by omega), if_neg (by omega), if_neg (by omega), if_neg (by omega)]
        have e2 : behN x m = { x with v := { x.v with pred := ntf x.v.id x.v.pred [m.f] } } := by unfold behN; rw [if_pos hk]
        have hadd := sadd_p hf x.sn [toT (tldN x m)] h4 h.sns (by simp) (shortM_one (by rw [e]; show (0 : Nat) < 1000; omega))
        rw [e] at hadd hr
        rw [e2] at hr
        simp only [toT, t0] at hadd
        rw [decide_eq_false (show ¬ m.k = 1 by omega), cond_false, decide_eq_false (show ¬ m.k = 2 by omega), cond_false, decide_eq_true hk, cond_true]
        rw [ntfS_p (by omega) x.v [m.f] (by omega) (by omega) (by simp) (rightN_v hrn)]
        try simp only [Option.bind_some]
        rw [hadd]
        simp only [Option.bind_some]
        rw [mown_p]
        · rw [hr]; rfl
        · decide
      · have hak : askedV x.v m = true := by unfold askedV; rw [rightN_v hrn, decide_eq_true hk, decide_eq_true ht, hrm]; rfl
        have e : tldN x m = { t0 m with d := (nextV x.v m.key m.s).2, p := (nextV x.v m.key m.s).1 } := by unfold tldN; rw [if_neg (by omega), if_pos hk]
        have e2 : behN x m = x := by unfold behN; rw [if_neg (by omega), if_neg (by omega)]
        have hadd := sadd_p hf x.sn [toT (tldN x m)] h4 h.sns (by simp) (shortM_one (by rw [e]; show (0 : Nat) < 1000; omega))
        rw [e] at hadd hr
        rw [e2] at hr
        simp only [toT, t0] at hadd
        rw [decide_eq_false (show ¬ m.k = 1 by omega), cond_false, decide_eq_false (show ¬ m.k = 2 by omega), cond_false, decide_eq_false (show ¬ m.k = 3 by omega), cond_false, decide_eq_true hk, cond_true]
        rw [hansS_p (by omega) x.v m hm hak]
        try simp only [Option.bind_some]
        rw [hadd]
        simp only [Option.bind_some]
        rw [mown_p]
        · rw [hr]; rfl
        · decide
      · have e : tldN x m = { t0 m with cd := (putV x.kp (itm m)).2 } := by unfold tldN; rw [if_neg (by omega), if_neg (by omega), if_pos hk]
        have e2 : behN x m = { x with kp := (putV x.kp (itm m)).1 } := by unfold behN; rw [if_neg (by omega), if_pos hk]
        have hadd := sadd_p hf x.sn [toT (tldN x m)] h4 h.sns (by simp) (shortM_one (by rw [e]; show (0 : Nat) < 1000; omega))
        rw [e] at hadd hr
        rw [e2] at hr
        simp only [toT, t0] at hadd
        rw [decide_eq_false (show ¬ m.k = 1 by omega), cond_false, decide_eq_false (show ¬ m.k = 2 by omega), cond_false, decide_eq_false (show ¬ m.k = 3 by omega), cond_false, decide_eq_false (show ¬ m.k = 4 by omega), cond_false, decide_eq_true hk, cond_true]
        rw [kput_p (by omega) x.kp (by omega) m.ik m.iv m.ir m.ig]
        simp only [Option.bind_some, mkG, itm] at hadd ⊢
        rw [hadd]
        simp only [Option.bind_some]
        rw [mown_p]
        · rw [hr]; rfl
        · decide
      · have e : tldN x m = { t0 m with ik := (getV x.kp m.ik).1.1, iv := (getV x.kp m.ik).1.2.1, ir := (getV x.kp m.ik).1.2.2.1, ig := (getV x.kp m.ik).1.2.2.2, cd := (getV x.kp m.ik).2 } := by unfold tldN; rw [if_neg (by omega), if_neg (by omega), if_neg (by omega), if_pos hk]
        have e2 : behN x m = x := by unfold behN; rw [if_neg (by omega), if_neg (by omega)]
        have hadd := sadd_p hf x.sn [toT (tldN x m)] h4 h.sns (by simp) (shortM_one (by rw [e]; show (0 : Nat) < 1000; omega))
        rw [e] at hadd hr
        rw [e2] at hr
        simp only [toT, t0] at hadd
        rw [decide_eq_false (show ¬ m.k = 1 by omega), cond_false, decide_eq_false (show ¬ m.k = 2 by omega), cond_false, decide_eq_false (show ¬ m.k = 3 by omega), cond_false, decide_eq_false (show ¬ m.k = 4 by omega), cond_false, decide_eq_false (show ¬ m.k = 5 by omega), cond_false, decide_eq_true hk, cond_true]
        rw [kget_p FUEL x.kp (by omega) m.ik]
        simp only [Option.bind_some, mkG, itm] at hadd ⊢
        rw [hadd]
        simp only [Option.bind_some]
        rw [mown_p]
        · rw [hr]; rfl
        · decide
end Go.Proofs.YthjhcmkgadfpmaaGreat
namespace Go.Proofs.YthjhcmkgadfpmaaGreat
open Go Go.RowKit
theorem wakes22 : F10 FUEL = some true := by kernel_rfl
theorem mgreat22 (n : Nat) (m : MW) : ∃ g, F9 n m.k m.c m.f m.t m.key m.s m.d m.p m.pr m.l m.ik m.iv m.ir m.ig m.cd = some g ∧ (g = false → m.l.length ≤ 20) := by
  unfold F9
  rw [gt20]
  by_cases h : m.l.length ≤ 20
  · rw [decide_eq_true h]; exact ⟨_, rfl, fun _ => h⟩
  · rw [decide_eq_false h]; exact ⟨true, rfl, fun h => by cases h⟩
theorem msameS_r (n : Nat) (hn : 2000 < n) (a b : MW) (h : a.l.length < 1000) : F14 n a.k a.c a.f a.t a.key a.s a.d a.p a.pr a.l a.ik a.iv a.ir a.ig a.cd b.k b.c b.f b.t b.key b.s b.d b.p b.pr b.l b.ik b.iv b.ir b.ig b.cd = some (sameM a b) := msame_r (by omega) (by omega)
theorem servN_not {x : NW} {m : MW} (h : servesN x m = false) : servN x m = (x, zM) := by
  unfold servN; rw [h]; rfl
theorem zsame : F14 FUEL zM.k zM.c zM.f zM.t zM.key zM.s zM.d zM.p zM.pr zM.l zM.ik zM.iv zM.ir zM.ig zM.cd 0 0 0 0 0 false false 0 0 [] ByteArray.empty 0 0 false 0 = some true := by
  have hf := fuel_big
  have := msameS_r FUEL (by omega) zM zM (by decide)
  rw [sameM_self] at this
  exact this
theorem bneb_self (b : Bool) : bneb b b = false := by cases b <;> rfl
theorem not_x (n : Nat) (x : NW) (m : MW) : F6 n x.v.id x.v.base x.v.lst x.v.pred x.v.f0 x.v.f1 x.v.f2 x.v.f3 x.v.f4 x.v.f5 x.v.f6 x.v.f7 x.v.f8 x.v.f9 x.v.f10 x.v.f11 x.v.f12 x.v.f13 x.v.f14 x.v.f15 x.clk x.cid x.cmy x.op x.sn x.sp x.so x.fi.jw x.fi.jp x.fi.jk x.fi.ja x.fi.jh x.fi.js x.fi.jf x.fi.jc x.fi.jik x.fi.jiv x.fi.jir x.fi.jig x.fi.jo x.fi.jl x.fi.je x.mi.jw x.mi.jp x.mi.jk x.mi.ja x.mi.jh x.mi.js x.mi.jf x.mi.jc x.mi.jik x.mi.jiv x.mi.jir x.mi.jig x.mi.jo x.mi.jl x.mi.je x.cl.jw x.cl.jp x.cl.jk x.cl.ja x.cl.jh x.cl.js x.cl.jf x.cl.jc x.cl.jik x.cl.jiv x.cl.jir x.cl.jig x.cl.jo x.cl.jl x.cl.je x.nx x.la x.kp x.bd m.k m.c m.f m.t m.key m.s m.d m.p m.pr m.l m.ik m.iv m.ir m.ig m.cd = some true := by
  have hf := fuel_big
  unfold F6
  obtain ⟨g, hg, hs⟩ := ngreat (n := FUEL) (by omega) x
  obtain ⟨g2, hg2, hm⟩ := mgreat22 FUEL m
  rw [hg, hg2, wakes22]
  simp only [Option.bind_some]
  cases g
  · cases g2
    · replace hs := hs rfl
      replace hm := hm rfl
      obtain ⟨r, hr⟩ : ∃ r, r = servN x m := ⟨_, rfl⟩
      simp only [cond_false, rightN_r FUEL x hs, mrightS_r FUEL m (by omega), nserve_p (n := FUEL) (by omega) x m hs (by omega) r hr, nserves_p FUEL x m hs (by omega), rightN_p (n := FUEL) (by omega) x hs, Option.bind_some, bneb_self]
      have same : servesN x m = false → F13 FUEL r.1.v.id r.1.v.base r.1.v.lst r.1.v.pred r.1.v.f0 r.1.v.f1 r.1.v.f2 r.1.v.f3 r.1.v.f4 r.1.v.f5 r.1.v.f6 r.1.v.f7 r.1.v.f8 r.1.v.f9 r.1.v.f10 r.1.v.f11 r.1.v.f12 r.1.v.f13 r.1.v.f14 r.1.v.f15 r.1.clk r.1.cid r.1.cmy r.1.op r.1.sn r.1.sp r.1.so r.1.fi.jw r.1.fi.jp r.1.fi.jk r.1.fi.ja r.1.fi.jh r.1.fi.js r.1.fi.jf r.1.fi.jc r.1.fi.jik r.1.fi.jiv r.1.fi.jir r.1.fi.jig r.1.fi.jo r.1.fi.jl r.1.fi.je r.1.mi.jw r.1.mi.jp r.1.mi.jk r.1.mi.ja r.1.mi.jh r.1.mi.js r.1.mi.jf r.1.mi.jc r.1.mi.jik r.1.mi.jiv r.1.mi.jir r.1.mi.jig r.1.mi.jo r.1.mi.jl r.1.mi.je r.1.cl.jw r.1.cl.jp r.1.cl.jk r.1.cl.ja r.1.cl.jh r.1.cl.js r.1.cl.jf r.1.cl.jc r.1.cl.jik r.1.cl.jiv r.1.cl.jir r.1.cl.jig r.1.cl.jo r.1.cl.jl r.1.cl.je r.1.nx r.1.la r.1.kp r.1.bd x.v.id x.v.base x.v.lst x.v.pred x.v.f0 x.v.f1 x.v.f2 x.v.f3 x.v.f4 x.v.f5 x.v.f6 x.v.f7 x.v.f8 x.v.f9 x.v.f10 x.v.f11 x.v.f12 x.v.f13 x.v.f14 x.v.f15 x.clk x.cid x.cmy x.op x.sn x.sp x.so x.fi.jw x.fi.jp x.fi.jk x.fi.ja x.fi.jh x.fi.js x.fi.jf x.fi.jc x.fi.jik x.fi.jiv x.fi.jir x.fi.jig x.fi.jo x.fi.jl x.fi.je x.mi.jw x.mi.jp x.mi.jk x.mi.ja x.mi.jh x.mi.js x.mi.jf x.mi.jc x.mi.jik x.mi.jiv x.mi.jir x.mi.jig x.mi.jo x.mi.jl x.mi.je x.cl.jw x.cl.jp x.cl.jk x.cl.ja x.cl.jh x.cl.js x.cl.jf x.cl.jc x.cl.jik x.cl.jiv x.cl.jir x.cl.jig x.cl.jo x.cl.jl x.cl.je x.nx x.la x.kp x.bd = some true ∧ F14 FUEL r.2.k r.2.c r.2.f r.2.t r.2.key r.2.s r.2.d r.2.p r.2.pr r.2.l r.2.ik r.2.iv r.2.ir r.2.ig r.2.cd 0 0 0 0 0 false false 0 0 [] ByteArray.empty 0 0 false 0 = some true := by
        intro h
        rw [servN_not h] at hr
        rw [hr]
        refine ⟨?_, zsame⟩
        rw [show F13 FUEL (x, zM).1.v.id (x, zM).1.v.base (x, zM).1.v.lst (x, zM).1.v.pred (x, zM).1.v.f0 (x, zM).1.v.f1 (x, zM).1.v.f2 (x, zM).1.v.f3 (x, zM).1.v.f4 (x, zM).1.v.f5 (x, zM).1.v.f6 (x, zM).1.v.f7 (x, zM).1.v.f8 (x, zM).1.v.f9 (x, zM).1.v.f10 (x, zM).1.v.f11 (x, zM).1.v.f12 (x, zM).1.v.f13 (x, zM).1.v.f14 (x, zM).1.v.f15 (x, zM).1.clk (x, zM).1.cid (x, zM).1.cmy (x, zM).1.op (x, zM).1.sn (x, zM).1.sp (x, zM).1.so (x, zM).1.fi.jw (x, zM).1.fi.jp (x, zM).1.fi.jk (x, zM).1.fi.ja (x, zM).1.fi.jh (x, zM).1.fi.js (x, zM).1.fi.jf (x, zM).1.fi.jc (x, zM).1.fi.jik (x, zM).1.fi.jiv (x, zM).1.fi.jir (x, zM).1.fi.jig (x, zM).1.fi.jo (x, zM).1.fi.jl (x, zM).1.fi.je (x, zM).1.mi.jw (x, zM).1.mi.jp (x, zM).1.mi.jk (x, zM).1.mi.ja (x, zM).1.mi.jh (x, zM).1.mi.js (x, zM).1.mi.jf (x, zM).1.mi.jc (x, zM).1.mi.jik (x, zM).1.mi.jiv (x, zM).1.mi.jir (x, zM).1.mi.jig (x, zM).1.mi.jo (x, zM).1.mi.jl (x, zM).1.mi.je (x, zM).1.cl.jw (x, zM).1.cl.jp (x, zM).1.cl.jk (x, zM).1.cl.ja (x, zM).1.cl.jh (x, zM).1.cl.js (x, zM).1.cl.jf (x, zM).1.cl.jc (x, zM).1.cl.jik (x, zM).1.cl.jiv (x, zM).1.cl.jir (x, zM).1.cl.jig (x, zM).1.cl.jo (x, zM).1.cl.jl (x, zM).1.cl.je (x, zM).1.nx (x, zM).1.la (x, zM).1.kp (x, zM).1.bd x.v.id x.v.base x.v.lst x.v.pred x.v.f0 x.v.f1 x.v.f2 x.v.f3 x.v.f4 x.v.f5 x.v.f6 x.v.f7 x.v.f8 x.v.f9 x.v.f10 x.v.f11 x.v.f12 x.v.f13 x.v.f14 x.v.f15 x.clk x.cid x.cmy x.op x.sn x.sp x.so x.fi.jw x.fi.jp x.fi.jk x.fi.ja x.fi.jh x.fi.js x.fi.jf x.fi.jc x.fi.jik x.fi.jiv x.fi.jir x.fi.jig x.fi.jo x.fi.jl x.fi.je x.mi.jw x.mi.jp x.mi.jk x.mi.ja x.mi.jh x.mi.js x.mi.jf x.mi.jc x.mi.jik x.mi.jiv x.mi.jir x.mi.jig x.mi.jo x.mi.jl x.mi.je x.cl.jw x.cl.jp x.cl.jk x.cl.ja x.cl.jh x.cl.js x.cl.jf x.cl.jc x.cl.jik x.cl.jiv x.cl.jir x.cl.jig x.cl.jo x.cl.jl x.cl.je x.nx x.la x.kp x.bd = _ from nsame_r (by omega) x x hs, sameN_self]
      have no : servesN x m = false → ∀ z : Bool, z = false → (bif bneb (servesN x m) z then some false else Option.bind (F13 FUEL r.1.v.id r.1.v.base r.1.v.lst r.1.v.pred r.1.v.f0 r.1.v.f1 r.1.v.f2 r.1.v.f3 r.1.v.f4 r.1.v.f5 r.1.v.f6 r.1.v.f7 r.1.v.f8 r.1.v.f9 r.1.v.f10 r.1.v.f11 r.1.v.f12 r.1.v.f13 r.1.v.f14 r.1.v.f15 r.1.clk r.1.cid r.1.cmy r.1.op r.1.sn r.1.sp r.1.so r.1.fi.jw r.1.fi.jp r.1.fi.jk r.1.fi.ja r.1.fi.jh r.1.fi.js r.1.fi.jf r.1.fi.jc r.1.fi.jik r.1.fi.jiv r.1.fi.jir r.1.fi.jig r.1.fi.jo r.1.fi.jl r.1.fi.je r.1.mi.jw r.1.mi.jp r.1.mi.jk r.1.mi.ja r.1.mi.jh r.1.mi.js r.1.mi.jf r.1.mi.jc r.1.mi.jik r.1.mi.jiv r.1.mi.jir r.1.mi.jig r.1.mi.jo r.1.mi.jl r.1.mi.je r.1.cl.jw r.1.cl.jp r.1.cl.jk r.1.cl.ja r.1.cl.jh r.1.cl.js r.1.cl.jf r.1.cl.jc r.1.cl.jik r.1.cl.jiv r.1.cl.jir r.1.cl.jig r.1.cl.jo r.1.cl.jl r.1.cl.je r.1.nx r.1.la r.1.kp r.1.bd x.v.id x.v.base x.v.lst x.v.pred x.v.f0 x.v.f1 x.v.f2 x.v.f3 x.v.f4 x.v.f5 x.v.f6 x.v.f7 x.v.f8 x.v.f9 x.v.f10 x.v.f11 x.v.f12 x.v.f13 x.v.f14 x.v.f15 x.clk x.cid x.cmy x.op x.sn x.sp x.so x.fi.jw x.fi.jp x.fi.jk x.fi.ja x.fi.jh x.fi.js x.fi.jf x.fi.jc x.fi.jik x.fi.jiv x.fi.jir x.fi.jig x.fi.jo x.fi.jl x.fi.je x.mi.jw x.mi.jp x.mi.jk x.mi.ja x.mi.jh x.mi.js x.mi.jf x.mi.jc x.mi.jik x.mi.jiv x.mi.jir x.mi.jig x.mi.jo x.mi.jl x.mi.je x.cl.jw x.cl.jp x.cl.jk x.cl.ja x.cl.jh x.cl.js x.cl.jf x.cl.jc x.cl.jik x.cl.jiv x.cl.jir x.cl.jig x.cl.jo x.cl.jl x.cl.je x.nx x.la x.kp x.bd) fun y12 => bif y12 then (Option.bind (F14 FUEL r.2.k r.2.c r.2.f r.2.t r.2.key r.2.s r.2.d r.2.p r.2.pr r.2.l r.2.ik r.2.iv r.2.ir r.2.ig r.2.cd 0 0 0 0 0 false false 0 0 [] ByteArray.empty 0 0 false 0) fun y13 => bif y13 then (some true) else (some false)) else (some false)) = some true := by
        intro h z hz
        rw [(same h).1, (same h).2, h, hz]
        rfl
      cases hR : rightN x
      · have e : servesN x m = false := by unfold servesN; rw [hR]; simp
        exact no e false rfl
      · cases hrm : rightM m
        · have e : servesN x m = false := by unfold servesN; rw [hrm]; simp
          exact no e false rfl
        · cases h1 : ige m.k 1
          · have e : servesN x m = false := by unfold servesN askB; rw [show decide (1 ≤ m.k) = false from h1]; rfl
            exact no e false rfl
          · cases h2 : ile m.k 6
            · have e : servesN x m = false := by unfold servesN askB; rw [show decide (m.k ≤ 6) = false from h2]; simp
              exact no e false rfl
            · have e : servesN x m = ieq m.t x.v.id := by
                unfold servesN askB
                rw [show decide (1 ≤ m.k) = true from h1, show decide (m.k ≤ 6) = true from h2, hrm, hR, ieq_dec]
                simp
              cases h3 : ieq m.t x.v.id
              · have := no (e.trans h3) false rfl
                simp only [cond_true, cond_false]
                exact this
              · rw [e, h3]; rfl
    · rfl
  · rfl
end Go.Proofs.YthjhcmkgadfpmaaGreat
