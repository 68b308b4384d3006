/-
  What the functions compute, in plain words.
-/
import Derived.Test.YthjhcmkgadfpmaaGreatPlB
import Derived.Test.YthjhcmkgadfpmaaGreatPlA
namespace Go.Proofs.YthjhcmkgadfpmaaGreat
open Go Go.RowKit
abbrev zIT : IT := (ByteArray.empty, 0, 0, false)
theorem jym {m : Nat} (h : m < 1000) : (inn 0 && ile 0 (ofN m) && decide (ofN m * 40 ≤ 281474976710656) && decide (ofN m ≤ 9223372036854775807)) = true :=
 Bool.and_eq_true_iff.2 ⟨Bool.and_eq_true_iff.2 ⟨Bool.and_eq_true_iff.2 ⟨decide_eq_true (by decide), decide_eq_true (by simp only [ofN]; omega)⟩, decide_eq_true (by simp only [ofN]; omega)⟩, decide_eq_true (by simp only [ofN]; omega)⟩
theorem inb_ofN {i m : Nat} (h : i < m) : inb (ofN i) m = true := Bool.and_eq_true_iff.2 ⟨decide_eq_true (by simp only [ofN]; omega), decide_eq_true (by simp only [ofN]; omega)⟩
theorem kown_c : ∀ (r p : List IT) (n : Nat) (a : List IT), r.length < n → (p ++ r).length < 1000 → a.length + r.length < 1000 → jii n (p ++ r) (ofN (p ++ r).length) (ofN p.length) a = some (a ++ r)
 | _, _, 0, _, h, _, _ => by omega
 | [], p, n + 1, a, _, _, _ => by
  simp only [jii, List.append_nil, jy, cond_false]
 | x :: r, p, n + 1, a, h, hb, ha => by
  simp only [jii, qr, jq, jr, cond_true]
  simp only [List.length_append, List.length_cons] at h hb ha
  rw [qh (by simp; omega) (by decide), cond_true, qa (x := x) (by omega)]
  have h1 := kown_c r (p ++ [x]) n (a ++ [x]) (by omega) (by simp; omega) (by simp; omega)
  rw [← qb] at h1
  simpa using h1
theorem jhy {n : Nat} (hn : 2000 < n) (l : List IT) (h : l.length < 1000) : F91 n l = some l := by
 unfold F91
 cases l with
 | nil => rfl
 | cons x r =>
  have e1 : ieq (ofN (x :: r).length) 0 = false := by simp [ieq, ofN]; omega
  have e2 : (inn 0 && ile 0 (ofN (x :: r).length) && decide (ofN (x :: r).length * 40 ≤ 281474976710656) && decide (ofN (x :: r).length ≤ 9223372036854775807)) = true := jym h
  rw [e1, e2, cond_false, cond_true]
  have := kown_c (x :: r) [] n [] (by omega) (by simpa using h) (by simpa using h)
  simpa [ofN] using this
theorem kown_r (n : Nat) (l : List IT) (h : l.length < 1000) : F100 n l = some l := by
 unfold F100
 rw [qh (by omega) (by decide)]; rfl
theorem jpw (p : List IT) (x : IT) (r : List IT) : rk2 (p.getLast?.map Prod.fst) (x :: r) = (jas x && ((match p.getLast?.map Prod.fst with | none => true | some q => klt q x.1) && rk2 ((p ++ [x]).getLast?.map Prod.fst) r)) := by
 simp only [rk2, List.getLast?_append, List.getLast?_singleton, Option.map_some, Option.some_or]
 cases p.getLast? <;> rfl
theorem jqt : ∀ (r p : List IT) (n : Nat), r.length < n → (p ++ r).length < 1000 → jhc n (p ++ r) (ofN (p ++ r).length) (ofN p.length) (p ++ r) false = some (rk2 (p.getLast?.map Prod.fst) r)
 | _, _, 0, h, _ => by omega
 | [], p, n + 1, _, _ => by simp only [jhc, List.append_nil, jy, cond_false]; simp [rk2]
 | x :: r, p, n + 1, h, hb => by
  simp only [jhc, qr, jq, jr, cond_true, jur, Option.bind_some]
  simp only [List.length_append, List.length_cons] at h hb
  have h1 := jqt r (p ++ [x]) n (by omega) (by simp; omega)
  rw [← qb] at h1
  rw [jpw, qa (x := x) (by omega), h1]
  show (bif (!jas x) then _ else _) = _
  cases jas x
  ·rfl
  ·simp only [Bool.not_true, cond_false, Bool.true_and]
   rcases List.eq_nil_or_concat p with rfl | ⟨q, y, rfl⟩
   ·rfl
   ·rw [List.concat_eq_append] at *
    have e1 : igt (ofN (q ++ [y]).length) 0 = true := by simp [igt, ofN]
    have e3 : q ++ [y] ++ x :: r = q ++ y :: (x :: r) := by simp
    rw [e1, cond_true, jho (by simp at hb; omega), e3, jq, jr, stge_k]
    simp only [cond_true, List.getLast?_append, List.getLast?_singleton, Option.map_some, Option.some_or]
    cases klt y.1 x.1 <;> rfl
theorem jjs {n : Nat} (hn : 2000 < n) (k : List IT) (h : k.length < 1000) : F59 n k = some (zi k) := by
 unfold F59 zi
 have e : igt (ofN k.length) 24 = !decide (k.length ≤ 24) := by rw [← decide_not]; unfold igt ofN; apply decide_eq_decide.2; omega
 have := jqt k [] n (by omega) (by simpa using h)
 simp only [List.nil_append, List.length_nil] at this
 rw [e, show (0 : Int) = ofN 0 from rfl, this]
 cases decide (k.length ≤ 24) <;> rfl
theorem jlm : ∀ (r p : List IT) (n : Nat), r.length < n → (p ++ r).length < 1000 → jgz n (p ++ r) (ofN p.length) = some (rk2 (p.getLast?.map Prod.fst) r && decide ((p ++ r).length ≤ 24))
 | _, _, 0, h, _ => by omega
 | [], p, n + 1, _, _ => by
  simp only [jgz, List.append_nil, jy, cond_false, rk2, Bool.true_and]
  congr 1; unfold ile ofN; apply decide_eq_decide.2; omega
 | x :: r, p, n + 1, h, hb => by
  simp only [jgz, qr, jq, jr, cond_true, jqi, Option.bind_some]
  simp only [List.length_append, List.length_cons] at h hb
  have h1 := jlm r (p ++ [x]) n (by omega) (by simp; omega)
  rw [← qb] at h1
  rw [jpw, qa (x := x) (by omega), h1]
  show (bif (!jas x) then _ else _) = _
  cases jas x
  ·rfl
  ·simp only [Bool.not_true, cond_false, Bool.true_and]
   rcases List.eq_nil_or_concat p with rfl | ⟨q, y, rfl⟩
   ·rfl
   ·rw [List.concat_eq_append] at *
    have e1 : igt (ofN (q ++ [y]).length) 0 = true := by simp [igt, ofN]
    have e3 : q ++ [y] ++ x :: r = q ++ y :: (x :: r) := by simp
    rw [e1, cond_true, jho (by simp at hb; omega), e3, jq, jr, stle_k]
    simp only [cond_true, List.getLast?_append, List.getLast?_singleton, Option.map_some, Option.some_or]
    cases klt y.1 x.1 <;> rfl
theorem jjr {n : Nat} (hn : 2000 < n) (k : List IT) (h : k.length < 1000) : F70 n k = some (zi k) := by
 unfold F70 zi
 have := jlm k [] n (by omega) (by simpa using h)
 simp only [List.nil_append, List.length_nil] at this
 rw [show (0 : Int) = ofN 0 from rfl, this, Bool.and_comm]; rfl
theorem cmpi_p (n : Nat) (a b : Int) : F203 n a b = some (bif decide (a < b) then -1 else bif decide (b < a) then 1 else 0) := by
 unfold F203 F206
 have e : ∀ z : Int, ine z z = false := fun z => by simp [ine]
 simp only [e, Option.bind_some, cond_false]
 unfold ilt igt
 rcases Int.lt_trichotomy a b with h | h | h
 ·rw [decide_eq_true h]; rfl
 ·subst h; simp
 ·rw [decide_eq_false (by omega : ¬ a < b), decide_eq_true (show a > b from h)]; rfl
theorem or_p {n : Nat} (hn : 2000 < n) (a b : Int) : F202 n [a, b] = some (bif decide (a = 0) then b else a) := by
 obtain ⟨m, rfl⟩ : ∃ m, n = m + 3 := ⟨n - 3, by omega⟩
 unfold F202
 have e1 : ilt 0 (ofN [a, b].length) = true := rfl
 have e2 : inb 0 [a, b].length = true := rfl
 have e3 : iadd .i64 0 1 = 1 := rfl
 have e4 : ilt 1 (ofN [a, b].length) = true := rfl
 have e5 : inb 1 [a, b].length = true := rfl
 have e6 : iadd .i64 1 1 = 2 := rfl
 have e7 : ilt 2 (ofN [a, b].length) = false := rfl
 have e8 : [a, b].getD (Int.toNat 0) 0 = a := rfl
 have e9 : [a, b].getD (Int.toNat 1) 0 = b := rfl
 simp only [jkl, e1, e2, e3, e4, e5, e6, e7, e8, e9, cond_true, cond_false, ut]
 by_cases h : a = 0
 ·by_cases h' : b = 0
  ·simp [h, h']
  ·simp [h, h']
 ·simp [h]
theorem newer_p (n : Nat) (k : ByteArray) (v r : Int) (g : Bool) (k' : ByteArray) (v' r' : Int) (g' : Bool) : F161 n k v r g k' v' r' g' = some (newI (k, v, r, g) (k', v', r', g')) := by
 have hf := jn
 unfold F161 F191 F201 newI
 simp only [Option.bind_some, cmpi_p, or_p (by omega : 2000 < FUEL), ju, wb, Bool.and_true]
 rcases Int.lt_trichotomy r r' with h1 | h1 | h1
 ·have h2 : ¬ r = r' := by omega
  have h3 : ¬ r' < r := by omega
  simp [h1, h2, h3, igt]
 ·subst h1
  rcases Int.lt_trichotomy v v' with h4 | h4 | h4
  ·have h2 : ¬ v = v' := by omega
   have h3 : ¬ v' < v := by omega
   simp [h4, h2, h3, igt]
  ·subst h4
   cases g <;> cases g' <;> simp [igt]
  ·have h2 : ¬ v = v' := by omega
   have h3 : ¬ v < v' := by omega
   simp [h4, h2, h3, igt]
 ·have h2 : ¬ r = r' := by omega
  have h3 : ¬ r < r' := by omega
  simp [h1, h2, h3, igt]
structure Brk (key : ByteArray) (p r : List IT) : Prop where
 lo : ∀ y ∈ p, klt y.1 key = true
 hi : ∀ y ∈ r, klt y.1 key = false
theorem jrm : ∀ {k : List IT}, Srt k → ∀ key, ∃ p r, k = p ++ r ∧ Brk key p r
 | [], _, _ => ⟨[], [], rfl, by simp, by simp⟩
 | x :: k, hs, key => by
  cases h : klt x.1 key
  ·refine ⟨[], x :: k, rfl, by simp, fun y hy => ?_⟩
   rcases List.mem_cons.1 hy with e | hy
   ·rw [e]; exact h
   ·cases h2 : klt y.1 key
    ·rfl
    ·rw [jbe (jex hs y hy) h2] at h; cases h
  ·obtain ⟨p, r, e, b⟩ := jrm (jcu hs) key
   exact ⟨x :: p, r, by rw [e]; rfl, fun y hy => by
    rcases List.mem_cons.1 hy with e | hy
    ·rw [e]; exact h
    ·exact b.lo y hy, b.hi⟩
def hdK (key : ByteArray) : List IT → Option IT
 | [] => none
 | y :: _ => if y.1 = key then some y else none
theorem jpa : ∀ {p r : List IT} {key : ByteArray}, Srt (p ++ r) → Brk key p r → fnd (p ++ r) key = hdK key r
 | [], [], _, _, _ => rfl
 | [], y :: r, key, hs, b => by
  rw [List.nil_append, jaf, hdK]
  by_cases h : y.1 = key
  ·rw [if_pos h, if_pos h]
  ·rw [if_neg h, if_neg h]
   have h1 := b.hi y (by simp)
   have h2 : klt key y.1 = true := by
    rcases jgc y.1 key with h3 | h3 | h3
    ·rw [h1] at h3; cases h3
    ·exact absurd h3 h
    ·exact h3
   have := jpm hs h2
   rw [jaf, if_neg h] at this
   exact this
 | x :: p, r, key, hs, b => by
  rw [List.cons_append, jaf, if_neg (jhz (b.lo x (by simp)))]
  exact jpa (jcu hs) ⟨fun y hy => b.lo y (List.mem_cons_of_mem _ hy), b.hi⟩
theorem jyo (x : IT) : ∀ {p : List IT} {r : List IT}, (∀ y ∈ p, klt y.1 x.1 = true) → ins x (p ++ r) = p ++ ins x r
 | [], _, _ => rfl
 | y :: p, r, h => by
  rw [List.cons_append, ins, h y (by simp), cond_true, jyo x fun z hz => h z (List.mem_cons_of_mem _ hz)]; rfl
theorem jrn {key : ByteArray} {p r : List IT} (b : Brk key p r) {x : IT} (hx : x.1 = key) : ins x r = match r with | [] => [x] | y :: s => if y.1 = key then (bif newI x y then x else y) :: s else x :: y :: s := by
 cases r with
 | nil => rfl
 | cons y s =>
  rw [ins, hx, b.hi y (by simp), cond_false]
  by_cases h : y.1 = key <;> simp [h]
theorem mid_eq {a b : Nat} (h : a ≤ b) (hb : b < 1000) : iadd .i64 (ofN a) (iquo .i64 (isub .i64 (ofN b) (ofN a)) 2) = ofN (a + (b - a) / 2) := by
 simp only [iadd, iquo, isub, ofN]
 rw [qg (n := (b : Int) - a) (by omega) (by omega)]
 have e : ((b : Int) - a).tdiv 2 = (((b - a) / 2 : Nat) : Int) := by
  rw [Int.tdiv_eq_ediv_of_nonneg (by omega)]; omega
 rw [e, qg (n := (((b - a) / 2 : Nat) : Int)) (by omega) (by omega), qg (by omega) (by omega)]
 omega
theorem cmps_p (n : Nat) (a b : ByteArray) : F190 n a b = some (bif klt a b then -1 else bif klt b a then 1 else 0) := by
 unfold F190 F200
 have e : ∀ z : ByteArray, stne z z = false := fun z => by simp [stne]
 simp only [e, Option.bind_some, cond_false, jko, stgt_k]
 cases klt a b
 ·cases klt b a <;> rfl
 ·rfl
theorem jni {key : ByteArray} {p r : List IT} (bk : Brk key p r) (hl : (p ++ r).length < 1000) : ∀ (d a b n : Nat), b - a ≤ d → d < n → a ≤ p.length → p.length ≤ b → b ≤ (p ++ r).length →
  jah n (p ++ r) (ofN a) (ofN b) key = some (ofN p.length, (hdK key r).isSome)
 | _, _, _, 0, _, h, _, _, _ => by omega
 | d, a, b, n + 1, hd, hn, ha, hb, hbl => by
  by_cases hab : a < b
  ·obtain ⟨d, rfl⟩ : ∃ d', d = d' + 1 := ⟨d - 1, by omega⟩
   have e1 : ilt (ofN a) (ofN b) = true := decide_eq_true (by simp only [ofN]; omega)
   have e2 : inz 2 = true := rfl
   have e3 : inb (ofN (a + (b - a) / 2)) (p ++ r).length = true := inb_ofN (by omega)
   simp only [jah, e1, e2, mid_eq (by omega : a ≤ b) (by omega : b < 1000), e3, cond_true, cmps_p, Option.bind_some]
   have e4 : iadd .i64 (ofN (a + (b - a) / 2)) 1 = ofN (a + (b - a) / 2 + 1) := by simp only [iadd, ofN]; rw [qg (by omega) (by omega)]; omega
   rw [e4]
   have hm : a + (b - a) / 2 < (p ++ r).length := by omega
   have e5 : (p ++ r).getD (ofN (a + (b - a) / 2)).toNat (ByteArray.empty, 0, 0, false) = (p ++ r)[a + (b - a) / 2] := by
    show (p ++ r).getD (a + (b - a) / 2) (ByteArray.empty, 0, 0, false) = _
    rw [List.getD, List.getElem?_eq_getElem hm]; rfl
   rw [e5]
   by_cases hmp : a + (b - a) / 2 < p.length
   ·have : klt ((p ++ r)[a + (b - a) / 2]).1 key = true := by rw [List.getElem_append_left hmp]; exact bk.lo _ (List.getElem_mem _)
    rw [this]
    exact jni bk hl d _ b n (by omega) (by omega) (by omega) hb hbl
   ·have : klt ((p ++ r)[a + (b - a) / 2]).1 key = false := by rw [List.getElem_append_right (by omega)]; exact bk.hi _ (List.getElem_mem _)
    rw [this, cond_false]
    have e6 : ilt (bif klt key ((p ++ r)[a + (b - a) / 2]).1 then 1 else 0) 0 = false := by cases klt key ((p ++ r)[a + (b - a) / 2]).1 <;> rfl
    rw [e6, cond_false]
    exact jni bk hl d a _ n (by omega) (by omega) ha (by omega) (by omega)
  ·have e1 : ilt (ofN a) (ofN b) = false := decide_eq_false (by simp only [ofN]; omega)
   have ea : a = p.length := by omega
   subst ea
   simp only [jah, e1, cond_false]
   cases r with
   | nil => simp only [List.append_nil, jy, cond_false]; rfl
   | cons y s =>
    simp only [qr, jq, jr, cond_true, cmps_p, Option.bind_some, bk.hi y (by simp), cond_false, hdK]
    congr 2
    by_cases h : y.1 = key
    ·rw [if_pos h, h, jjt]; rfl
    ·rw [if_neg h]
     have : klt key y.1 = true := by
      rcases jgc y.1 key with h1 | h1 | h1
      ·rw [bk.hi y (by simp)] at h1; cases h1
      ·exact absurd h1 h
      ·exact h1
     rw [this]; rfl
theorem jqu {n : Nat} (hn : 2000 < n) {key : ByteArray} {p r : List IT} (bk : Brk key p r) (hl : (p ++ r).length < 1000) : F160 n (p ++ r) key = some (ofN p.length, (hdK key r).isSome) := by
 have := jni bk hl (p ++ r).length 0 (p ++ r).length (n + 1) (by omega) (by omega) (by omega) (by simp) (Nat.le_refl _)
 rw [show ofN 0 = 0 from rfl] at this
 rw [← this]
 unfold F160
 simp only [jah]
theorem set_in {α : Type} {p r : List α} {x y : α} : (p ++ x :: r).set (ofN p.length).toNat y = p ++ y :: r := by simp [ofN]
theorem jqh {x : IT} {p r : List IT} (hk : zi (p ++ r) = true) (hx : jas x = true) (b : Brk x.1 p r) :
  putV (p ++ r) x = bif (hdK x.1 r).isSome || !decide (24 ≤ (p ++ r).length) then (p ++ ins x r, 0) else (p ++ r, 200) := by
 unfold putV
 rw [hk, hx, jpa ((wd _).1 hk).2.2 b, jyo x b.lo]; rfl
theorem jzf {α : Type} {p r : List α} : List.drop 0 (List.take (ofN p.length).toNat (p ++ r)) = p := by simp [ofN]
theorem wbi {α : Type} {p r : List α} : List.drop (ofN p.length).toNat (List.take (p ++ r).length (p ++ r)) = r := by
 rw [List.take_length]; simp [ofN]
theorem ntl {α : Type} {p r : List α} {x : α} : nlt (ofN p.length).toNat (p ++ x :: r).length = true := juw
theorem kput_p {n : Nat} (hn : 2000 < n) (k : List IT) (hl : k.length < 900) (a : ByteArray) (v w : Int) (g : Bool) : F120 n k a v w g = some ((putV k (a, v, w, g)).2, (putV k (a, v, w, g)).1) := by
 have hf := jn
 unfold F120
 rw [jjs (by omega) k (by omega), Option.bind_some]
 cases hk : zi k
 ·simp only [Bool.not_false, cond_true]
  rw [jhy (by omega) k (by omega)]
  simp only [putV, hk, Bool.false_and, cond_false, Option.bind_some]
 ·simp only [Bool.not_true, cond_false, jur, Option.bind_some]
  cases hp : jdx a v w
  ·simp only [Bool.not_false, cond_true]
   rw [jhy (by omega) k (by omega)]
   have : jas (a, v, w, g) = false := hp
   simp only [putV, hk, this, Bool.and_false, cond_false, Option.bind_some]
  ·simp only [Bool.not_true, cond_false]
   obtain ⟨p, r, rfl, b⟩ := jrm ((wd k).1 hk).2.2 a
   have hl' := hl
   simp only [List.length_append] at hl'
   rw [jqu (by omega) b (by omega), Option.bind_some, jqh (x := (a, v, w, g)) hk hp b]
   cases r with
   | nil =>
    simp only [hdK, Option.isSome_none, cond_false, Bool.false_or, List.append_nil] at hl ⊢
    have e1 : ige (ofN p.length) 24 = decide (24 ≤ p.length) := by unfold ige ofN; apply decide_eq_decide.2; omega
    rw [e1]
    by_cases h24 : 24 ≤ p.length
    ·simp only [decide_eq_true h24, cond_true, Bool.not_true, cond_false]
     rw [jhy (by omega) p (by omega)]; rfl
    ·simp only [decide_eq_false h24, cond_false, Bool.not_false, cond_true]
     have e2 : iadd .i64 (ofN p.length) 1 = ofN (p.length + 1) := by simp only [iadd, ofN]; rw [qg (by omega) (by omega)]; omega
     rw [e2]
     have e3 : (inn 0 && ile 0 (ofN (p.length + 1)) && decide (ofN (p.length + 1) * 40 ≤ 281474976710656) && decide (ofN (p.length + 1) ≤ 9223372036854775807)) = true := jym (by omega)
     have e4 : (inn (ofN p.length) && inbs 0 (ofN p.length).toNat p.length) = true := by simp [inn, inbs, ofN]
     have e5 : (inn (ofN p.length) && true && inbs (ofN p.length).toNat p.length p.length) = true := by simp [inn, inbs, ofN]
     have e6 : List.drop 0 (List.take (ofN p.length).toNat p) = p := by simp [ofN]
     have e7 : List.drop (ofN p.length).toNat (List.take p.length p) = [] := by simp [ofN]
     simp only [e3, e4, e5, e6, e7, cond_true, Int.toNat_zero, List.replicate_zero, List.nil_append, List.length_nil, Nat.zero_add]
     rw [qh (by omega) (by decide), qh (by simp; omega) (by decide), qh (by simp; omega) (by decide)]
     simp [ins]
   | cons y s =>
    by_cases hy : y.1 = a
    ·have e0 : (hdK a (y :: s)) = some y := by simp [hdK, hy]
     simp only [e0, Option.isSome_some, Bool.true_or, cond_true]
     rw [jhy (by omega) _ (by omega), Option.bind_some]
     simp only [jq, ntl, cond_true, jr, newer_p, Option.bind_some, set_in]
     have e1 : ins (a, v, w, g) (y :: s) = (bif newI (a, v, w, g) y then (a, v, w, g) else y) :: s := by
      have := jrn b (x := (a, v, w, g)) rfl
      simpa [hy] using this
     rw [e1]
     show (bif newI (a, v, w, g) y then _ else _) = _
     cases newI (a, v, w, g) y <;> rfl
    ·have e0 : (hdK a (y :: s)) = none := by simp [hdK, hy]
     simp only [e0, Option.isSome_none, Bool.false_or, cond_false]
     have e1 : ige (ofN (p ++ y :: s).length) 24 = decide (24 ≤ (p ++ y :: s).length) := by unfold ige ofN; apply decide_eq_decide.2; omega
     rw [e1]
     by_cases h24 : 24 ≤ (p ++ y :: s).length
     ·simp only [decide_eq_true h24, cond_true, Bool.not_true, cond_false]
      rw [jhy (by omega) _ (by omega)]; rfl
     ·simp only [decide_eq_false h24, cond_false, Bool.not_false, cond_true]
      have e2 : iadd .i64 (ofN (p ++ y :: s).length) 1 = ofN ((p ++ y :: s).length + 1) := by simp only [iadd, ofN]; rw [qg (by omega) (by omega)]; omega
      rw [e2]
      have e3 : (inn 0 && ile 0 (ofN ((p ++ y :: s).length + 1)) && decide (ofN ((p ++ y :: s).length + 1) * 40 ≤ 281474976710656) && decide (ofN ((p ++ y :: s).length + 1) ≤ 9223372036854775807)) = true := jym (by omega)
      have e4 : (inn (ofN p.length) && inbs 0 (ofN p.length).toNat (p ++ y :: s).length) = true := by simp [inn, inbs, ofN]
      have e5 : (inn (ofN p.length) && true && inbs (ofN p.length).toNat (p ++ y :: s).length (p ++ y :: s).length) = true := by simp [inn, inbs, ofN]
      simp only [e3, e4, e5, jzf, wbi, cond_true, Int.toNat_zero, List.replicate_zero, List.nil_append, List.length_nil, Nat.zero_add]
      rw [qh (by omega) (by decide), qh (by simp; omega) (by decide), qh (by simp at hl' ⊢; omega) (by decide)]
      have e6 : ins (a, v, w, g) (y :: s) = (a, v, w, g) :: y :: s := by
       have := jrn b (x := (a, v, w, g)) rfl
       simpa [hy] using this
      rw [e6]; simp
end Go.Proofs.YthjhcmkgadfpmaaGreat
namespace Go.Proofs.YthjhcmkgadfpmaaGreat
open Go Go.RowKit
theorem jku {p r : List IT} {a : ByteArray} {v w : Int} {g : Bool} (hl : (p ++ r).length < 900) (b : Brk a p r) (h : hdK a r = none) :
    (bif (ige (ofN (List.length (p ++ r))) (24)) then
            (some ((200), p ++ r))
            else (bif ((inn (ofN p.length)) && (inbs 0 (Int.toNat (ofN p.length)) (List.length (p ++ r)))) then
             (bif (room (0 + List.length (List.take ((Int.toNat (ofN p.length)) - 0) (List.drop 0 (p ++ r)))) 40) then
              (bif (room (List.length ([] ++ (List.take ((Int.toNat (ofN p.length)) - 0) (List.drop 0 (p ++ r)))) + List.length [((a, v, w, g) : IT)]) 40) then
               (bif (((inn (ofN p.length)) && true) && (inbs (Int.toNat (ofN p.length)) (List.length (p ++ r)) (List.length (p ++ r)))) then
                (bif (room (List.length (([] ++ (List.take ((Int.toNat (ofN p.length)) - 0) (List.drop 0 (p ++ r)))) ++ [(a, v, w, g)]) + List.length (List.take ((List.length (p ++ r)) - (Int.toNat (ofN p.length))) (List.drop (Int.toNat (ofN p.length)) (p ++ r)))) 40) then
                 (some (((0 : Int)), ((([] ++ (List.take ((Int.toNat (ofN p.length)) - 0) (List.drop 0 (p ++ r)))) ++ [(a, v, w, g)]) ++ (List.take ((List.length (p ++ r)) - (Int.toNat (ofN p.length))) (List.drop (Int.toNat (ofN p.length)) (p ++ r))))))
                 else (none))
                else (none))
               else (none))
              else (none))
             else (none))) = some (bif !decide (24 ≤ (p ++ r).length) then (0, p ++ ins (a, v, w, g) r) else (200, p ++ r)) := by
  have e1 : ige (ofN (p ++ r).length) 24 = decide (24 ≤ (p ++ r).length) := by unfold ige ofN; apply decide_eq_decide.2; omega
  rw [e1]
  have e2 : ins (a, v, w, g) r = (a, v, w, g) :: r := by
    have h0 := jrn b (x := (a, v, w, g)) rfl
    cases r with
    | nil => exact h0
    | cons y s =>
      by_cases hy : y.1 = a
      · simp [hdK, hy] at h
      · simpa [hy] using h0
  have hl' := hl
  simp only [List.length_append] at hl'
  by_cases h24 : 24 ≤ (p ++ r).length
  · rw [decide_eq_true h24]; rfl
  · rw [decide_eq_false h24]
    have e4 : (inn (ofN p.length) && inbs 0 (ofN p.length).toNat (p ++ r).length) = true := by simp [inn, inbs, ofN]
    have e5 : (inn (ofN p.length) && true && inbs (ofN p.length).toNat (p ++ r).length (p ++ r).length) = true := by simp [inn, inbs, ofN]
    have e6 : List.take ((ofN p.length).toNat - 0) (List.drop 0 (p ++ r)) = p := by simp [ofN]
    have e7 : List.take ((p ++ r).length - (ofN p.length).toNat) (List.drop (ofN p.length).toNat (p ++ r)) = r := by simp [ofN]
    rw [e4, e5, e6, e7, qh (by omega) (by decide), qh (by simp; omega) (by decide), qh (by simp; omega) (by decide), e2]
    simp
theorem rput_c {a : ByteArray} {v w : Int} {g : Bool} : ∀ (q p r : List IT) (n : Nat), (q ++ p ++ r).length < 900 → Brk a (q ++ p) r → p.length < n →
  jhf n (ofN q.length) (q ++ p ++ r) a v w g = some (bif (hdK a r).isSome || !decide (24 ≤ (q ++ p ++ r).length) then (0, q ++ p ++ ins (a, v, w, g) r) else (200, q ++ p ++ r))
 | _, _, _, 0, _, _, h => by omega
 | q, x :: p, r, n + 1, hl, b, h => by
  have e0 : q ++ x :: p ++ r = q ++ x :: (p ++ r) := by simp
  have hl' := hl
  simp only [List.length_append, List.length_cons] at hl'
  simp only [List.length_cons] at h
  have e1 : klt x.1 a = true := b.lo x (by simp)
  have ih := rput_c (a := a) (v := v) (w := w) (g := g) (q ++ [x]) p r n (by simpa using hl) (by simpa using b) (by omega)
  simp only [jhf]
  rw [e0, qr, jq, juw, jr, jko, e1, qa (x := x) (by omega)]
  simp only [cond_true]
  have e2 : q ++ [x] ++ p ++ r = q ++ x :: (p ++ r) := by simp
  rw [e2] at ih
  rw [ih]
  have e3 : q ++ [x] ++ p ++ ins (a, v, w, g) r = q ++ x :: p ++ ins (a, v, w, g) r := by simp
  rw [e3]
 | q, [], [], n + 1, hl, b, _ => by
  simp only [List.append_nil] at hl b ⊢
  have e := jku (p := q) (r := []) (a := a) (v := v) (w := w) (g := g) (by simpa using hl) b rfl
  simp only [List.append_nil] at e
  simp only [jhf, jy, cond_false, hdK, Option.isSome_none, Bool.false_or]
  rw [e]
 | q, [], y :: s, n + 1, hl, b, _ => by
  simp only [List.append_nil] at hl b ⊢
  have e1 : klt y.1 a = false := b.hi y (by simp)
  simp only [jhf, qr, jq, ntl, jr, jko, e1, cond_true, cond_false, uk]
  by_cases hy : y.1 = a
  ·have e0 : (hdK a (y :: s)) = some y := by simp [hdK, hy]
   rw [decide_eq_true hy, cond_true, newer_r, Option.bind_some, e0, Option.isSome_some, Bool.true_or, cond_true]
   have e1 : ins (a, v, w, g) (y :: s) = (bif newI (a, v, w, g) y then (a, v, w, g) else y) :: s := by
    have := jrn b (x := (a, v, w, g)) rfl
    simpa [hy] using this
   rw [e1, set_in]
   show (bif newI (a, v, w, g) y then _ else _) = _
   cases newI (a, v, w, g) y <;> rfl
  ·have e0 : (hdK a (y :: s)) = none := by simp [hdK, hy]
   rw [decide_eq_false hy, cond_false, jku (by simpa using hl) b e0, e0, Option.isSome_none, Bool.false_or]
theorem kput_r {n : Nat} (hn : 2000 < n) (k : List IT) (hl : k.length < 900) (a : ByteArray) (v w : Int) (g : Bool) : F27 n k a v w g = some ((putV k (a, v, w, g)).2, (putV k (a, v, w, g)).1) := by
 have hf := jn
 unfold F27
 rw [kown_r _ k (by omega), Option.bind_some, jjr (by omega) k (by omega), Option.bind_some]
 cases hk : zi k
 ·simp only [putV, hk, Bool.not_false, cond_true, Bool.false_and, cond_false]
 ·simp only [Bool.not_true, cond_false, jqi, Option.bind_some]
  cases hp : jdx a v w
  ·have : jas (a, v, w, g) = false := hp
   simp only [putV, hk, this, Bool.and_false, cond_false, Bool.not_false, cond_true]
  ·simp only [Bool.not_true, cond_false]
   obtain ⟨p, r, rfl, b⟩ := jrm ((wd k).1 hk).2.2 a
   have hl' := hl
   simp only [List.length_append] at hl'
   have := rput_c (a := a) (v := v) (w := w) (g := g) [] p r n (by simpa using hl) (by simpa using b) (by omega)
   simp only [List.nil_append, List.length_nil] at this
   rw [show (0 : Int) = ofN 0 from rfl, this, jqh (x := (a, v, w, g)) hk hp b]
   show some _ = some _
   cases (hdK a r).isSome || !decide (24 ≤ (p ++ r).length) <;> rfl
def getV (k : List IT) (key : ByteArray) : IT × Int := bif zi k then (match fnd k key with | some x => (x, 0) | none => (zIT, 201)) else (zIT, 201)
def mkG (x : IT × Int) : jdh := ⟨x.1.1, x.1.2.1, x.1.2.2.1, x.1.2.2.2, x.2⟩
theorem kget_p (n : Nat) (k : List IT) (hl : k.length < 900) (key : ByteArray) : F122 n k key = some (mkG (getV k key)) := by
 have hf := jn
 unfold F122 getV
 rw [jjs (by omega) k (by omega), Option.bind_some]
 cases hk : zi k
 ·rfl
 ·simp only [Bool.not_true, cond_false, cond_true]
  have hs := ((wd k).1 hk).2.2
  obtain ⟨p, r, rfl, b⟩ := jrm hs key
  rw [jqu (by omega) b (by omega), Option.bind_some, jpa hs b]
  cases r with
  | nil => rfl
  | cons y s =>
   by_cases hy : y.1 = key
   ·simp only [hdK, if_pos hy, Option.isSome_some, Bool.not_true, cond_false, jq, cond_true, jr]; rfl
   ·simp only [hdK, if_neg hy, Option.isSome_none, Bool.not_false, cond_true]; rfl
theorem jvm (K : List IT) (hK : K.length < 900) (key : ByteArray) : ∀ (r p : List IT) (n : Nat), K = p ++ r → r.length < n → (∀ y ∈ p, y.1 ≠ key) → jiy n K key (ofN p.length) ByteArray.empty false = some (mkG (getV K key))
 | _, _, 0, _, h, _ => by omega
 | [], p, n + 1, e, _, hp => by
  rw [List.append_nil] at e
  subst e
  simp only [jiy, jy, cond_false, getV]
  rw [jrf.2 hp]
  cases zi K <;> rfl
 | x :: r, p, n + 1, e, h, hp => by
  have hf := jn
  have hlen : p.length < 900 := by rw [e] at hK; simp at hK; omega
  have e1 : ilt (ofN p.length) (ofN K.length) = true := by rw [e]; exact qr
  have e2 : inb (ofN p.length) K.length = true := by rw [e]; exact jq
  have e3 : ∀ d, K.getD (ofN p.length).toNat d = x := fun d => by rw [e]; exact jr
  simp only [jiy, e1, e2, e3, cond_true, uk]
  rw [jjr (by omega) K (by omega), Option.bind_some]
  cases hk : zi K
  ·simp only [getV, hk]; rfl
  ·simp only [cond_true]
   have hs := ((wd K).1 hk).2.2
   simp only [List.length_cons] at h
   by_cases hx : x.1 = key
   ·have : fnd K key = some x := by rw [← hx]; exact jib hs (by rw [e]; simp)
    simp only [getV, hk, this, decide_eq_true hx, cond_true]; rfl
   ·rw [decide_eq_false hx, cond_false, qa (x := x) (by omega)]
    exact jvm K hK key r (p ++ [x]) n (by rw [e]; simp) (by omega) fun y hy => by
     rcases List.mem_append.1 hy with hy | hy
     ·exact hp y hy
     ·rw [List.mem_singleton.1 hy]; exact hx
theorem kget_r {n : Nat} (hn : 2000 < n) (k : List IT) (hl : k.length < 900) (key : ByteArray) : F28 n k key = some (mkG (getV k key)) :=
 jvm k hl key k [] n rfl (by omega) (by simp)
end Go.Proofs.YthjhcmkgadfpmaaGreat
namespace Go.Proofs.YthjhcmkgadfpmaaGreat
open Go Go.RowKit
def jar (v : VW) (m : MW) : Bool := ql v && (decide (m.k = 4) && (decide (m.t = v.id) && qx m))
theorem jwb {n : Nat} (hn : 0 < n) (a0 : Int) (a1 a2 : List Int) (a3 a4 a5 a6 a7 a8 a9 a10 a11 a12 a13 a14 a15 a16 a17 a18 a19 : Int) (m0 : Int) (m1 : Int) (m2 : Int) (m3 : Int) (m4 : Int) (m5 : Bool) (m6 : Bool) (m7 : Int) (m8 : Int) (m9 : List Int) (m10 : ByteArray) (m11 : Int) (m12 : Int) (m13 : Bool) (m14 : Int) (h : m9.length < 1000) : F118 n a0 a1 a2 a3 a4 a5 a6 a7 a8 a9 a10 a11 a12 a13 a14 a15 a16 a17 a18 a19 m0 m1 m2 m3 m4 m5 m6 m7 m8 m9 m10 m11 m12 m13 m14 = some (bif jar ⟨a0, a1, a2, a3, a4, a5, a6, a7, a8, a9, a10, a11, a12, a13, a14, a15, a16, a17, a18, a19⟩ ⟨m0, m1, m2, m3, m4, m5, m6, m7, m8, m9, m10, m11, m12, m13, m14⟩ then ⟨m0 + 6, m1, m3, m2, 0, false, (jat ⟨a0, a1, a2, a3, a4, a5, a6, a7, a8, a9, a10, a11, a12, a13, a14, a15, a16, a17, a18, a19⟩ m4 m5).2, (jat ⟨a0, a1, a2, a3, a4, a5, a6, a7, a8, a9, a10, a11, a12, a13, a14, a15, a16, a17, a18, a19⟩ m4 m5).1, 0, ByteArray.empty, 0, 0, false, 0⟩ else ⟨0, 0, 0, 0, 0, false, false, 0, 0, ByteArray.empty, 0, 0, false, 0⟩) := by
 unfold F118 jar
 have hf := jn
 obtain ⟨j, rfl⟩ : ∃ j, n = j + 1 := Nat.exists_eq_succ_of_ne_zero (by omega)
 rw [jfk (show 70000 < FUEL by omega), jdb (show 2000 < FUEL by omega) m0 m1 m2 m3 m4 m5 m6 m7 m8 m9 m10 m11 m12 m13 m14 h, tell_p, hnext_p (show 2000 < FUEL by omega)]
 simp only [Option.bind_some, ut, jem]
 cases ql ⟨a0, a1, a2, a3, a4, a5, a6, a7, a8, a9, a10, a11, a12, a13, a14, a15, a16, a17, a18, a19⟩
 ·rfl
 ·by_cases h4 : m0 = 4
  ·subst h4
   have e : askB 4 = true := by decide
   by_cases h5 : m3 = a0
   ·cases qx ⟨4, m1, m2, m3, m4, m5, m6, m7, m8, m9, m10, m11, m12, m13, m14⟩ <;> simp [h5, e]
   ·simp [h5]
  ·simp [h4]
theorem jwa (n : Nat) (a0 : Int) (a1 a2 : List Int) (a3 a4 a5 a6 a7 a8 a9 a10 a11 a12 a13 a14 a15 a16 a17 a18 a19 : Int) (m0 : Int) (m1 : Int) (m2 : Int) (m3 : Int) (m4 : Int) (m5 : Bool) (m6 : Bool) (m7 : Int) (m8 : Int) (m9 : List Int) (m10 : ByteArray) (m11 : Int) (m12 : Int) (m13 : Bool) (m14 : Int) (h : m9.length < 1000) (hl : a2.length ≤ 9223372036854775807) : F42 n a0 a1 a2 a3 a4 a5 a6 a7 a8 a9 a10 a11 a12 a13 a14 a15 a16 a17 a18 a19 m0 m1 m2 m3 m4 m5 m6 m7 m8 m9 m10 m11 m12 m13 m14 = some (bif jar ⟨a0, a1, a2, a3, a4, a5, a6, a7, a8, a9, a10, a11, a12, a13, a14, a15, a16, a17, a18, a19⟩ ⟨m0, m1, m2, m3, m4, m5, m6, m7, m8, m9, m10, m11, m12, m13, m14⟩ then ⟨m0 + 6, m1, m3, m2, 0, false, (jat ⟨a0, a1, a2, a3, a4, a5, a6, a7, a8, a9, a10, a11, a12, a13, a14, a15, a16, a17, a18, a19⟩ m4 m5).2, (jat ⟨a0, a1, a2, a3, a4, a5, a6, a7, a8, a9, a10, a11, a12, a13, a14, a15, a16, a17, a18, a19⟩ m4 m5).1, 0, ByteArray.empty, 0, 0, false, 0⟩ else ⟨0, 0, 0, 0, 0, false, false, 0, 0, ByteArray.empty, 0, 0, false, 0⟩) := by
 unfold F42 jar
 have hf := jn
 rw [jfj (show 70000 < FUEL by omega) a0 a1 a2 a3 a4 a5 a6 a7 a8 a9 a10 a11 a12 a13 a14 a15 a16 a17 a18 a19 hl, jjo FUEL m0 m1 m2 m3 m4 m5 m6 m7 m8 m9 m10 m11 m12 m13 m14 h, tell_r, rnext_r (show 2000 < FUEL by omega) a0 a1 a2 a3 a4 a5 a6 a7 a8 a9 a10 a11 a12 a13 a14 a15 a16 a17 a18 a19 m4 m5 hl]
 simp only [Option.bind_some, ut]
 cases ql ⟨a0, a1, a2, a3, a4, a5, a6, a7, a8, a9, a10, a11, a12, a13, a14, a15, a16, a17, a18, a19⟩
 ·rfl
 ·cases hr : qx ⟨m0, m1, m2, m3, m4, m5, m6, m7, m8, m9, m10, m11, m12, m13, m14⟩
  ·simp
  ·by_cases h4 : m0 = 4
   ·subst h4
    have e : askB 4 = true := by decide
    by_cases h5 : m3 = a0 <;> simp [h5, e]
   ·simp [h4]
def jkv (ph o : Int) : Bool := bif decide (ph = 0) then decide (o = 0) else decide (ph < 4) && isP o
theorem jtd (n : Nat) (ph o : Int) : F57 n ph o = some (jkv ph o) := by
 unfold F57 jkv
 rw [ju, ju, jdc]
 cases decide (ph = 0)
 ·unfold ilt; cases decide (ph < 4) <;> rfl
 ·rfl
theorem jtc (n : Nat) (ph o : Int) : F69 n ph o = some (jkv ph o) := by
 unfold F69 jkv
 rw [ju, ju, jdc]
 have e : ile ph 3 = decide (ph < 4) := by unfold ile; apply decide_eq_decide.2; omega
 rw [e]
 cases decide (ph = 0)
 ·cases decide (ph < 4) <;> rfl
 ·rfl
structure JW where
 (jw jp jk ja jh : Int)
 (js jf : Bool)
 jc : Int
 jik : ByteArray
 (jiv jir : Int)
 jig : Bool
 jo : Int
 jl : List Int
 je : Int
 deriving DecidableEq
structure NW where
 v : VW
 (clk cid cmy : Int)
 op : List CLT
 sn : List PT
 (sp so : Int)
 (fi mi cl : JW)
 nx : Int
 la : ByteArray
 kp : List IT
 bd : Int
structure Sm (x : NW) : Prop where
 b : x.v.base.length ≤ 20
 l : x.v.lst.length ≤ 20
 op : x.op.length ≤ 30
 ops : zp x.op
 sn : x.sn.length ≤ 60
 sns : um x.sn
 kp : x.kp.length ≤ 40
 fi : x.fi.jl.length ≤ 20
 mi : x.mi.jl.length ≤ 20
 cl : x.cl.jl.length ≤ 20
theorem jvp (n : Nat) (j : JW) (h : j.jl.length < 1000) : F90 n j.jw j.jp j.jk j.ja j.jh j.js j.jf j.jc j.jik j.jiv j.jir j.jig j.jo j.jl j.je = some ⟨j.jw, j.jp, j.jk, j.ja, j.jh, j.js, j.jf, j.jc, j.jik, j.jiv, j.jir, j.jig, j.jo, j.je, j.jl⟩ := by
 obtain ⟨b0, b1, b2, b3, b4, b5, b6, b7, b8, b9, b10, b11, b12, l, b14⟩ := j
 unfold F90
 cases l with
 | nil => rfl
 | cons x l =>
  have e1 : ieq (ofN (x :: l).length) 0 = false := by simp [ieq, ofN]; omega
  simp only
  rw [e1, cond_false, jke _ _ h]
  rfl
theorem jvo (n : Nat) (j : JW) (h : j.jl.length < 1000) : F99 n j.jw j.jp j.jk j.ja j.jh j.js j.jf j.jc j.jik j.jiv j.jir j.jig j.jo j.jl j.je = some ⟨j.jw, j.jp, j.jk, j.ja, j.jh, j.js, j.jf, j.jc, j.jik, j.jiv, j.jir, j.jig, j.jo, j.je, j.jl⟩ := by
 unfold F99
 rw [qh (by omega) (by decide)]
 rfl
theorem jnr (n : Nat) (i j : JW) (h : i.jl.length < 1000) : F80 n i.jw i.jp i.jk i.ja i.jh i.js i.jf i.jc i.jik i.jiv i.jir i.jig i.jo i.jl i.je j.jw j.jp j.jk j.ja j.jh j.js j.jf j.jc j.jik j.jiv j.jir j.jig j.jo j.jl j.je = some (decide (i = j)) := by
 have hf := jn
 unfold F80
 rw [jjx i.jl j.jl (by omega) (by omega)]
 simp only [Option.bind_some, lad1, ju, wb, uk, Bool.and_true]
 congr 1
 cases i; cases j
 rw [Bool.eq_iff_iff]
 simp only [Bool.and_eq_true, decide_eq_true_eq, JW.mk.injEq]
 grind
theorem jqw (i j : JW) : ∀ (r s p q : List Int) (n : Nat), i.jl = p ++ r → j.jl = q ++ s → r.length < n → p.length = q.length → r.length = s.length → (p ++ r).length < 1000 →
  jiu n (ofN p.length) i.jw i.jp i.jk i.ja i.jh i.js i.jf i.jc i.jik i.jiv i.jir i.jig i.jo i.jl i.je j.jw j.jp j.jk j.ja j.jh j.js j.jf j.jc j.jik j.jiv j.jir j.jig j.jo j.jl j.je = some (decide (r = s) && (decide (i.jw = j.jw) && (decide (i.jp = j.jp) && ((decide (i.jk = j.jk) && (decide (i.ja = j.ja) && (decide (i.jh = j.jh) && (decide (i.js = j.js) && (decide (i.jf = j.jf) && decide (i.jc = j.jc)))))) && ((decide (i.jik = j.jik) && (decide (i.jiv = j.jiv) && (decide (i.jir = j.jir) && decide (i.jig = j.jig)))) && (decide (i.jo = j.jo) && decide (i.je = j.je)))))))
 | _, _, _, _, 0, _, _, h, _, _, _ => by omega
 | [], [], p, q, n + 1, ha, hb, _, _, _, _ => by
  rw [List.append_nil] at ha
  simp only [jiu]
  rw [show ilt (ofN p.length) (ofN i.jl.length) = false by rw [ha]; exact jy]
  simp only [cond_false, lad1, ju, wb, uk, Bool.and_true]
  simp only [decide_true, Bool.true_and]
 | x :: r, y :: s, p, q, n + 1, ha, hb', h, hp, hs, hb => by
  have e1 : inb (ofN p.length) (q ++ y :: s).length = true := by rw [hp]; exact jq
  have e2 : ∀ d, (q ++ y :: s).getD (ofN p.length).toNat d = y := fun d => by rw [hp]; exact jr
  simp only [List.length_append, List.length_cons] at h hb hs
  have h1 := jqw i j r s (p ++ [x]) (q ++ [y]) n (by rw [ha, qb]) (by rw [hb', qb]) (by omega) (by simp [hp]) (by omega) (by simp; omega)
  simp only [jiu]
  rw [show ilt (ofN p.length) (ofN i.jl.length) = true by rw [ha]; exact qr, show inb (ofN p.length) i.jl.length = true by rw [ha]; exact jq, show inb (ofN p.length) j.jl.length = true by rw [hb']; exact e1, show i.jl.getD (ofN p.length).toNat 0 = x by rw [ha]; exact jr, show j.jl.getD (ofN p.length).toNat 0 = y by rw [hb']; exact e2 0]
  rw [qa (x := x) (by omega), h1, ut]
  by_cases hxy : x = y
  ·subst hxy; simp
  ·simp [hxy]
theorem jnq {n : Nat} (hn : 2000 < n) (i j : JW) (h : i.jl.length < 1000) : F47 n i.jw i.jp i.jk i.ja i.jh i.js i.jf i.jc i.jik i.jiv i.jir i.jig i.jo i.jl i.je j.jw j.jp j.jk j.ja j.jh j.js j.jf j.jc j.jik j.jiv j.jir j.jig j.jo j.jl j.je = some (decide (i = j)) := by
 unfold F47
 by_cases hl : i.jl.length = j.jl.length
 ·have e : ine (ofN i.jl.length) (ofN j.jl.length) = false := by simp [ine, ofN, hl]
  rw [e, cond_false]
  refine (jqw i j i.jl j.jl [] [] n rfl rfl (by omega) rfl hl (by simpa using h)).trans ?_
  congr 1
  cases i; cases j
  rw [Bool.eq_iff_iff]
  simp only [Bool.and_eq_true, decide_eq_true_eq, JW.mk.injEq]
  grind
 ·have e : ine (ofN i.jl.length) (ofN j.jl.length) = true := by simp [ine, ofN]; omega
  rw [e, cond_true, decide_eq_false (fun hh => hl (by rw [hh]))]
end Go.Proofs.YthjhcmkgadfpmaaGreat
namespace Go.Proofs.YthjhcmkgadfpmaaGreat
open Go Go.RowKit
theorem keq_c : ∀ (r s p q : List IT) (n : Nat), r.length < n → p.length = q.length → r.length = s.length → (p ++ r).length < 1000 → jin n (p ++ r) (q ++ s) (ofN (p ++ r).length) (ofN p.length) = some (decide (r = s))
 | _, _, _, _, 0, h, _, _, _ => by omega
 | [], [], p, q, n + 1, _, _, _, _ => by simp only [jin, List.append_nil, jy, cond_false]; rfl
 | x :: r, y :: s, p, q, n + 1, h, hp, hs, hb => by
  have e1 : inb (ofN p.length) (q ++ y :: s).length = true := by rw [hp]; exact jq
  have e2 : ∀ d, (q ++ y :: s).getD (ofN p.length).toNat d = y := fun d => by rw [hp]; exact jr
  simp only [jin, qr, jq, jr, cond_true, e1, e2]
  simp only [List.length_append, List.length_cons] at h hb hs
  rw [qa (x := x) (by omega)]
  have h1 := keq_c r s (p ++ [x]) (q ++ [y]) n (by omega) (by simp [hp]) (by omega) (by simp; omega)
  rw [← qb, ← qb] at h1
  rw [h1]
  simp only [ju, wb, uk, Bool.and_true, lad6]
  congr 1
  obtain ⟨x0, x1, x2, x3⟩ := x
  obtain ⟨y0, y1, y2, y3⟩ := y
  rw [Bool.eq_iff_iff]
  simp only [Bool.and_eq_true, decide_eq_true_eq, List.cons.injEq, Prod.mk.injEq]
theorem keq_p {n : Nat} (hn : 2000 < n) (l m : List IT) (h : l.length < 1000) : F78 n l m = some (decide (l = m)) := by
 unfold F78
 by_cases hl : l.length = m.length
 ·have e : ine (ofN l.length) (ofN m.length) = false := by simp [ine, ofN, hl]
  rw [e, cond_false]
  exact keq_c l m [] [] n (by omega) rfl hl (by simpa using h)
 ·have e : ine (ofN l.length) (ofN m.length) = true := by simp [ine, ofN]; omega
  rw [e, cond_true, decide_eq_false (fun hh => hl (by rw [hh]))]
theorem jzw {n : Nat} (hn : 70000 < n) (v : VW) : F53 n v.id v.base v.lst v.pred v.f0 v.f1 v.f2 v.f3 v.f4 v.f5 v.f6 v.f7 v.f8 v.f9 v.f10 v.f11 v.f12 v.f13 v.f14 v.f15 = some (ql v) := jfk hn v.id v.base v.lst v.pred v.f0 v.f1 v.f2 v.f3 v.f4 v.f5 v.f6 v.f7 v.f8 v.f9 v.f10 v.f11 v.f12 v.f13 v.f14 v.f15
theorem jzv {n : Nat} (hn : 70000 < n) (v : VW) (h : v.lst.length < 1000) : F66 n v.id v.base v.lst v.pred v.f0 v.f1 v.f2 v.f3 v.f4 v.f5 v.f6 v.f7 v.f8 v.f9 v.f10 v.f11 v.f12 v.f13 v.f14 v.f15 = some (ql v) := jfj hn v.id v.base v.lst v.pred v.f0 v.f1 v.f2 v.f3 v.f4 v.f5 v.f6 v.f7 v.f8 v.f9 v.f10 v.f11 v.f12 v.f13 v.f14 v.f15 (by omega)
def ownB (id : Int) (l : List PT) : Bool := l.all fun p => decide ((pm p).f = id)
def jbs (x : NW) : Bool := ige x.clk 0 && (ile x.clk 1099511627776 && (ige x.bd 0 && (ige x.nx 0 && (ilt x.nx 16 && (ql x.v && (decide (x.cid = x.v.id) && (uq x.cid x.cmy x.op && (jkv x.sp x.so && (zi x.kp && (jkw x.sn && ownB x.v.id x.sn))))))))))
theorem juu (x : NW) : ∀ (r p : List PT) (n : Nat), r.length < n → (p ++ r).length < 1000 → jhi n (p ++ r) (ofN (p ++ r).length) (ofN p.length) x.v.id x.v.base x.v.lst x.v.pred x.v.f0 x.v.f1 x.v.f2 x.v.f3 x.v.f4 x.v.f5 x.v.f6 x.v.f7 x.v.f8 x.v.f9 x.v.f10 x.v.f11 x.v.f12 x.v.f13 x.v.f14 x.v.f15 x.clk x.cid x.cmy x.op x.sn x.sp x.so x.fi.jw x.fi.jp x.fi.jk x.fi.ja x.fi.jh x.fi.js x.fi.jf x.fi.jc x.fi.jik x.fi.jiv x.fi.jir x.fi.jig x.fi.jo x.fi.jl x.fi.je x.mi.jw x.mi.jp x.mi.jk x.mi.ja x.mi.jh x.mi.js x.mi.jf x.mi.jc x.mi.jik x.mi.jiv x.mi.jir x.mi.jig x.mi.jo x.mi.jl x.mi.je x.cl.jw x.cl.jp x.cl.jk x.cl.ja x.cl.jh x.cl.js x.cl.jf x.cl.jc x.cl.jik x.cl.jiv x.cl.jir x.cl.jig x.cl.jo x.cl.jl x.cl.je x.nx x.la x.kp x.bd false = some (ownB x.v.id r)
 | _, _, 0, h, _ => by omega
 | [], p, n + 1, _, _ => by simp only [jhi, List.append_nil, jy, cond_false]; rfl
 | y :: r, p, n + 1, h, hb => by
  simp only [jhi, qr, jq, jr, cond_true]
  simp only [List.length_append, List.length_cons] at h hb
  rw [qa (x := y) (by omega)]
  have h1 := juu x r (p ++ [y]) n (by omega) (by simp; omega)
  rw [← qb] at h1
  have e3 : ige (ofN p.length) 0 = true := decide_eq_true (by simp only [ofN]; omega)
  rw [h1, ut, e3]
  have e4 : ownB x.v.id (y :: r) = (decide ((pm y).f = x.v.id) && ownB x.v.id r) := rfl
  rw [e4]
  show _ = some (decide (y.2.2.2.2.1 = x.v.id) && ownB x.v.id r)
  cases decide (y.2.2.2.2.1 = x.v.id) <;> rfl
theorem jqb {n : Nat} (hn : 2000 < n) (x : NW) (h : Sm x) : F15 n x.v.id x.v.base x.v.lst x.v.pred x.v.f0 x.v.f1 x.v.f2 x.v.f3 x.v.f4 x.v.f5 x.v.f6 x.v.f7 x.v.f8 x.v.f9 x.v.f10 x.v.f11 x.v.f12 x.v.f13 x.v.f14 x.v.f15 x.clk x.cid x.cmy x.op x.sn x.sp x.so x.fi.jw x.fi.jp x.fi.jk x.fi.ja x.fi.jh x.fi.js x.fi.jf x.fi.jc x.fi.jik x.fi.jiv x.fi.jir x.fi.jig x.fi.jo x.fi.jl x.fi.je x.mi.jw x.mi.jp x.mi.jk x.mi.ja x.mi.jh x.mi.js x.mi.jf x.mi.jc x.mi.jik x.mi.jiv x.mi.jir x.mi.jig x.mi.jo x.mi.jl x.mi.je x.cl.jw x.cl.jp x.cl.jk x.cl.ja x.cl.jh x.cl.js x.cl.jf x.cl.jc x.cl.jik x.cl.jiv x.cl.jir x.cl.jig x.cl.jo x.cl.jl x.cl.je x.nx x.la x.kp x.bd = some (jbs x) := by
 have hf := jn
 have h2 := h.sn
 have h3 := h.kp
 unfold F15 jbs
 rw [jzw (show 70000 < FUEL by omega) x.v, wbl (by omega) x.cid x.cmy x.op h.ops, jtd, jjs (by omega) x.kp (by omega), jzi (by omega) x.sn (by omega) h.sns]
 have e : jhi n x.sn (ofN x.sn.length) 0 x.v.id x.v.base x.v.lst x.v.pred x.v.f0 x.v.f1 x.v.f2 x.v.f3 x.v.f4 x.v.f5 x.v.f6 x.v.f7 x.v.f8 x.v.f9 x.v.f10 x.v.f11 x.v.f12 x.v.f13 x.v.f14 x.v.f15 x.clk x.cid x.cmy x.op x.sn x.sp x.so x.fi.jw x.fi.jp x.fi.jk x.fi.ja x.fi.jh x.fi.js x.fi.jf x.fi.jc x.fi.jik x.fi.jiv x.fi.jir x.fi.jig x.fi.jo x.fi.jl x.fi.je x.mi.jw x.mi.jp x.mi.jk x.mi.ja x.mi.jh x.mi.js x.mi.jf x.mi.jc x.mi.jik x.mi.jiv x.mi.jir x.mi.jig x.mi.jo x.mi.jl x.mi.je x.cl.jw x.cl.jp x.cl.jk x.cl.ja x.cl.jh x.cl.js x.cl.jf x.cl.jc x.cl.jik x.cl.jiv x.cl.jir x.cl.jig x.cl.jo x.cl.jl x.cl.je x.nx x.la x.kp x.bd false = some (ownB x.v.id x.sn) := juu x x.sn [] n (by omega) (by simp; omega)
 rw [e]
 simp only [Option.bind_some, lad6, lad1, ju]
theorem jut (x : NW) (id : Int) : ∀ (r p : List PT) (n : Nat), x.sn = p ++ r → r.length < n → (p ++ r).length < 1000 → jiq n (ofN p.length) id x.v.base x.v.lst x.v.pred x.v.f0 x.v.f1 x.v.f2 x.v.f3 x.v.f4 x.v.f5 x.v.f6 x.v.f7 x.v.f8 x.v.f9 x.v.f10 x.v.f11 x.v.f12 x.v.f13 x.v.f14 x.v.f15 x.clk x.cid x.cmy x.op x.sn x.sp x.so x.fi.jw x.fi.jp x.fi.jk x.fi.ja x.fi.jh x.fi.js x.fi.jf x.fi.jc x.fi.jik x.fi.jiv x.fi.jir x.fi.jig x.fi.jo x.fi.jl x.fi.je x.mi.jw x.mi.jp x.mi.jk x.mi.ja x.mi.jh x.mi.js x.mi.jf x.mi.jc x.mi.jik x.mi.jiv x.mi.jir x.mi.jig x.mi.jo x.mi.jl x.mi.je x.cl.jw x.cl.jp x.cl.jk x.cl.ja x.cl.jh x.cl.js x.cl.jf x.cl.jc x.cl.jik x.cl.jiv x.cl.jir x.cl.jig x.cl.jo x.cl.jl x.cl.je x.nx x.la x.kp x.bd = some (ownB id r)
 | _, _, 0, _, h, _ => by omega
 | [], p, n + 1, hL, _, _ => by
  rw [List.append_nil] at hL
  simp only [jiq]
  rw [show ilt (ofN p.length) (ofN x.sn.length) = false by rw [hL]; exact jy]
  rfl
 | y :: r, p, n + 1, hL, h, hb => by
  simp only [List.length_append, List.length_cons] at h hb
  have h1 := jut x id r (p ++ [y]) n (by rw [hL, qb]) (by omega) (by simp; omega)
  simp only [jiq]
  rw [show ilt (ofN p.length) (ofN x.sn.length) = true by rw [hL]; exact qr, show inb (ofN p.length) x.sn.length = true by rw [hL]; exact jq, show ∀ d, x.sn.getD (ofN p.length).toNat d = y from fun d => by rw [hL]; exact jr]
  rw [qa (x := y) (by omega), h1, ut]
  have e4 : ownB id (y :: r) = (decide ((pm y).f = id) && ownB id r) := rfl
  rw [e4]
  show _ = some (decide (y.2.2.2.2.1 = id) && ownB id r)
  cases decide (y.2.2.2.2.1 = id) <;> rfl
theorem ownN_r {n : Nat} (hn : 2000 < n) (x : NW) (h : x.sn.length ≤ 60) : F65 n x.v.id x.v.base x.v.lst x.v.pred x.v.f0 x.v.f1 x.v.f2 x.v.f3 x.v.f4 x.v.f5 x.v.f6 x.v.f7 x.v.f8 x.v.f9 x.v.f10 x.v.f11 x.v.f12 x.v.f13 x.v.f14 x.v.f15 x.clk x.cid x.cmy x.op x.sn x.sp x.so x.fi.jw x.fi.jp x.fi.jk x.fi.ja x.fi.jh x.fi.js x.fi.jf x.fi.jc x.fi.jik x.fi.jiv x.fi.jir x.fi.jig x.fi.jo x.fi.jl x.fi.je x.mi.jw x.mi.jp x.mi.jk x.mi.ja x.mi.jh x.mi.js x.mi.jf x.mi.jc x.mi.jik x.mi.jiv x.mi.jir x.mi.jig x.mi.jo x.mi.jl x.mi.je x.cl.jw x.cl.jp x.cl.jk x.cl.ja x.cl.jh x.cl.js x.cl.jf x.cl.jc x.cl.jik x.cl.jiv x.cl.jir x.cl.jig x.cl.jo x.cl.jl x.cl.je x.nx x.la x.kp x.bd = some (ownB x.v.id x.sn) := by
 unfold F65
 exact jut x x.v.id x.sn [] n rfl (by omega) (by simp; omega)
theorem jqa (n : Nat) (x : NW) (h : Sm x) : F16 n x.v.id x.v.base x.v.lst x.v.pred x.v.f0 x.v.f1 x.v.f2 x.v.f3 x.v.f4 x.v.f5 x.v.f6 x.v.f7 x.v.f8 x.v.f9 x.v.f10 x.v.f11 x.v.f12 x.v.f13 x.v.f14 x.v.f15 x.clk x.cid x.cmy x.op x.sn x.sp x.so x.fi.jw x.fi.jp x.fi.jk x.fi.ja x.fi.jh x.fi.js x.fi.jf x.fi.jc x.fi.jik x.fi.jiv x.fi.jir x.fi.jig x.fi.jo x.fi.jl x.fi.je x.mi.jw x.mi.jp x.mi.jk x.mi.ja x.mi.jh x.mi.js x.mi.jf x.mi.jc x.mi.jik x.mi.jiv x.mi.jir x.mi.jig x.mi.jo x.mi.jl x.mi.je x.cl.jw x.cl.jp x.cl.jk x.cl.ja x.cl.jh x.cl.js x.cl.jf x.cl.jc x.cl.jik x.cl.jiv x.cl.jir x.cl.jig x.cl.jo x.cl.jl x.cl.je x.nx x.la x.kp x.bd = some (jbs x) := by
 have hf := jn
 have h2 := h.sn
 have h3 := h.kp
 have h4 := h.l
 unfold F16 jbs
 rw [ownN_r (by omega) x h.sn, jzv (show 70000 < FUEL by omega) x.v (by omega), wbk (by omega) x.cid x.cmy x.op (fun y hy => by have := h.ops y hy; omega), jzh (by omega) x.sn (by omega) h.sns, jtc, jjr (by omega) x.kp (by omega)]
 simp only [Option.bind_some, lad1, ju]
 congr 1
 rw [Bool.eq_iff_iff]
 simp only [Bool.and_eq_true]
 grind
theorem jyk (id many : Int) : ∀ (r p : List CLT) (n : Nat) (a : List CLT), r.length < n → (p ++ r).length < 1000 → a.length + r.length < 1000 → zp (p ++ r) → jih n (ofN p.length) id many (p ++ r) a = some (id, many, a ++ r)
 | _, _, 0, _, h, _, _, _ => by omega
 | [], p, n + 1, a, _, _, _, _ => by simp only [jih, List.append_nil, jy, cond_false]
 | x :: r, p, n + 1, a, h, hb, ha, hs => by
  simp only [jih, qr, jq, jr, cond_true]
  simp only [List.length_append, List.length_cons] at h hb ha
  rw [jbc FUEL x.2.1 x.2.2.1 x.2.2.2.1 x.2.2.2.2.1 x.2.2.2.2.2.1 x.2.2.2.2.2.2.1 x.2.2.2.2.2.2.2.1 x.2.2.2.2.2.2.2.2.1 x.2.2.2.2.2.2.2.2.2.1 x.2.2.2.2.2.2.2.2.2.2.1 x.2.2.2.2.2.2.2.2.2.2.2.1 x.2.2.2.2.2.2.2.2.2.2.2.2.1 x.2.2.2.2.2.2.2.2.2.2.2.2.2.1 x.2.2.2.2.2.2.2.2.2.2.2.2.2.2.1 x.2.2.2.2.2.2.2.2.2.2.2.2.2.2.2.1 (jaw hs)]
  simp only [Option.bind_some]
  rw [qh (by simp; omega) (by decide), cond_true, qa (x := x) (by omega)]
  have h1 := jyk id many r (p ++ [x]) n (a ++ [x]) (by omega) (by simp; omega) (by simp; omega) (by rw [← qb]; exact hs)
  rw [← qb] at h1
  simpa using h1
theorem cown_r {n : Nat} (hn : 2000 < n) (id many : Int) (l : List CLT) (h : l.length < 1000) (hs : zp l) : F97 n id many l = some (id, many, l) := by
 unfold F97
 have := jyk id many l [] n [] (by omega) (by simpa using h) (by simpa using h) (by simpa using hs)
 simpa [ofN] using this
theorem nown_p (n : Nat) (x : NW) (h : Sm x) : F20 n x.v.id x.v.base x.v.lst x.v.pred x.v.f0 x.v.f1 x.v.f2 x.v.f3 x.v.f4 x.v.f5 x.v.f6 x.v.f7 x.v.f8 x.v.f9 x.v.f10 x.v.f11 x.v.f12 x.v.f13 x.v.f14 x.v.f15 x.clk x.cid x.cmy x.op x.sn x.sp x.so x.fi.jw x.fi.jp x.fi.jk x.fi.ja x.fi.jh x.fi.js x.fi.jf x.fi.jc x.fi.jik x.fi.jiv x.fi.jir x.fi.jig x.fi.jo x.fi.jl x.fi.je x.mi.jw x.mi.jp x.mi.jk x.mi.ja x.mi.jh x.mi.js x.mi.jf x.mi.jc x.mi.jik x.mi.jiv x.mi.jir x.mi.jig x.mi.jo x.mi.jl x.mi.je x.cl.jw x.cl.jp x.cl.jk x.cl.ja x.cl.jh x.cl.js x.cl.jf x.cl.jc x.cl.jik x.cl.jiv x.cl.jir x.cl.jig x.cl.jo x.cl.jl x.cl.je x.nx x.la x.kp x.bd = some ⟨x.v.id, x.v.pred, x.v.f0, x.v.f1, x.v.f2, x.v.f3, x.v.f4, x.v.f5, x.v.f6, x.v.f7, x.v.f8, x.v.f9, x.v.f10, x.v.f11, x.v.f12, x.v.f13, x.v.f14, x.v.f15, x.clk, x.cid, x.cmy, x.sp, x.so, x.fi.jw, x.fi.jp, x.fi.jk, x.fi.ja, x.fi.jh, x.fi.js, x.fi.jf, x.fi.jc, x.fi.jik, x.fi.jiv, x.fi.jir, x.fi.jig, x.fi.jo, x.fi.je, x.mi.jw, x.mi.jp, x.mi.jk, x.mi.ja, x.mi.jh, x.mi.js, x.mi.jf, x.mi.jc, x.mi.jik, x.mi.jiv, x.mi.jir, x.mi.jig, x.mi.jo, x.mi.je, x.cl.jw, x.cl.jp, x.cl.jk, x.cl.ja, x.cl.jh, x.cl.js, x.cl.jf, x.cl.jc, x.cl.jik, x.cl.jiv, x.cl.jir, x.cl.jig, x.cl.jo, x.cl.je, x.nx, x.la, x.bd, x.v.base, x.v.lst, x.op, x.sn, x.fi.jl, x.mi.jl, x.cl.jl, x.kp⟩ := by
 have hf := jn
 obtain ⟨h1, h2, h3, h4, h5, h6, h7, h8, h9, h10⟩ := h
 unfold F20
 rw [own_p FUEL x.v.id x.v.base x.v.lst x.v.pred x.v.f0 x.v.f1 x.v.f2 x.v.f3 x.v.f4 x.v.f5 x.v.f6 x.v.f7 x.v.f8 x.v.f9 x.v.f10 x.v.f11 x.v.f12 x.v.f13 x.v.f14 x.v.f15 (by omega) (by omega), cown_p (by omega) x.cid x.cmy x.op (by omega) h4, sown_p (by omega) x.sn (by omega) h6, jvp FUEL x.fi (by omega), jvp FUEL x.mi (by omega), jvp FUEL x.cl (by omega), jhy (by omega) x.kp (by omega)]
 rfl
theorem nown_r (n : Nat) (x : NW) (h : Sm x) : F24 n x.v.id x.v.base x.v.lst x.v.pred x.v.f0 x.v.f1 x.v.f2 x.v.f3 x.v.f4 x.v.f5 x.v.f6 x.v.f7 x.v.f8 x.v.f9 x.v.f10 x.v.f11 x.v.f12 x.v.f13 x.v.f14 x.v.f15 x.clk x.cid x.cmy x.op x.sn x.sp x.so x.fi.jw x.fi.jp x.fi.jk x.fi.ja x.fi.jh x.fi.js x.fi.jf x.fi.jc x.fi.jik x.fi.jiv x.fi.jir x.fi.jig x.fi.jo x.fi.jl x.fi.je x.mi.jw x.mi.jp x.mi.jk x.mi.ja x.mi.jh x.mi.js x.mi.jf x.mi.jc x.mi.jik x.mi.jiv x.mi.jir x.mi.jig x.mi.jo x.mi.jl x.mi.je x.cl.jw x.cl.jp x.cl.jk x.cl.ja x.cl.jh x.cl.js x.cl.jf x.cl.jc x.cl.jik x.cl.jiv x.cl.jir x.cl.jig x.cl.jo x.cl.jl x.cl.je x.nx x.la x.kp x.bd = some ⟨x.v.id, x.v.pred, x.v.f0, x.v.f1, x.v.f2, x.v.f3, x.v.f4, x.v.f5, x.v.f6, x.v.f7, x.v.f8, x.v.f9, x.v.f10, x.v.f11, x.v.f12, x.v.f13, x.v.f14, x.v.f15, x.clk, x.cid, x.cmy, x.sp, x.so, x.fi.jw, x.fi.jp, x.fi.jk, x.fi.ja, x.fi.jh, x.fi.js, x.fi.jf, x.fi.jc, x.fi.jik, x.fi.jiv, x.fi.jir, x.fi.jig, x.fi.jo, x.fi.je, x.mi.jw, x.mi.jp, x.mi.jk, x.mi.ja, x.mi.jh, x.mi.js, x.mi.jf, x.mi.jc, x.mi.jik, x.mi.jiv, x.mi.jir, x.mi.jig, x.mi.jo, x.mi.je, x.cl.jw, x.cl.jp, x.cl.jk, x.cl.ja, x.cl.jh, x.cl.js, x.cl.jf, x.cl.jc, x.cl.jik, x.cl.jiv, x.cl.jir, x.cl.jig, x.cl.jo, x.cl.je, x.nx, x.la, x.bd, x.v.base, x.v.lst, x.op, x.sn, x.fi.jl, x.mi.jl, x.cl.jl, x.kp⟩ := by
 have hf := jn
 obtain ⟨h1, h2, h3, h4, h5, h6, h7, h8, h9, h10⟩ := h
 unfold F24
 rw [own_r FUEL x.v.id x.v.base x.v.lst x.v.pred x.v.f0 x.v.f1 x.v.f2 x.v.f3 x.v.f4 x.v.f5 x.v.f6 x.v.f7 x.v.f8 x.v.f9 x.v.f10 x.v.f11 x.v.f12 x.v.f13 x.v.f14 x.v.f15 (by omega) (by omega), cown_r (by omega) x.cid x.cmy x.op (by omega) h4, sown_r (by omega) x.sn (by omega) h6, jvo FUEL x.fi (by omega), jvo FUEL x.mi (by omega), jvo FUEL x.cl (by omega), kown_r FUEL x.kp (by omega)]
 rfl
end Go.Proofs.YthjhcmkgadfpmaaGreat
namespace Go.Proofs.YthjhcmkgadfpmaaGreat
open Go Go.RowKit
theorem gt20 (n : Nat) : igt (ofN n) 20 = !decide (n ≤ 20) := by unfold igt ofN; rw [← decide_not]; apply decide_eq_decide.2; omega
theorem gt30 (n : Nat) : igt (ofN n) 30 = !decide (n ≤ 30) := by unfold igt ofN; rw [← decide_not]; apply decide_eq_decide.2; omega
theorem jrk (a b : Int) : ∀ (r p : List CLT) (n : Nat), 32 - p.length < n → p.length ≤ 31 → ∃ g, jix n (ofN p.length) a b (p ++ r) = some g ∧ (g = false → (p ++ r).length ≤ 30 ∧ ∀ x ∈ r, (cm x).l.length ≤ 20)
 | _, _, 0, h, _ => by omega
 | [], p, n + 1, _, _ => by
  refine ⟨_, by simp only [jix, List.append_nil, jy, cond_false]; rfl, fun hb => ⟨?_, by simp⟩⟩
  rw [gt30] at hb
  simpa using hb
 | x :: r, p, n + 1, h, hp => by
  simp only [jix, qr, jq, jr, cond_true]
  by_cases h6 : p.length ≤ 30
  ·rw [show ile (ofN p.length) 30 = true from decide_eq_true (by simp only [ofN]; omega), cond_true]
   rw [qa (x := x) (by omega)]
   have h1 := jrk a b r (p ++ [x]) n (by simp; omega) (by simp; omega)
   rw [← qb] at h1
   obtain ⟨g, h1, h2⟩ := h1
   rw [h1]
   rw [show igt (ofN x.2.2.2.2.2.2.2.2.2.2.1.length) 20 = !decide ((cm x).l.length ≤ 20) from gt20 _]
   by_cases h4 : (cm x).l.length ≤ 20
   ·rw [decide_eq_true h4]
    cases hk : igt (jav x.2.2.2.2.2.2.2.2.2.2.2.1) 100
    ·refine ⟨g, rfl, fun hb => ⟨(h2 hb).1, fun y hy => ?_⟩⟩
     rcases List.mem_cons.1 hy with rfl | hy
     ·exact h4
     ·exact (h2 hb).2 y hy
    ·exact ⟨true, rfl, fun h => by cases h⟩
   ·rw [decide_eq_false h4]
    exact ⟨true, rfl, fun h => by cases h⟩
  ·rw [show ile (ofN p.length) 30 = false from decide_eq_false (by simp only [ofN]; omega), cond_false]
   refine ⟨_, rfl, fun hb => ?_⟩
   rw [gt30] at hb
   simp at hb
   omega
theorem jlh (x : NW) : ∀ (r p : List IT) (n : Nat), x.kp = p ++ r → r.length < n → (p ++ r).length < 1000 → ∃ g, jsx n (ofN p.length) x.v.id x.v.base x.v.lst x.v.pred x.v.f0 x.v.f1 x.v.f2 x.v.f3 x.v.f4 x.v.f5 x.v.f6 x.v.f7 x.v.f8 x.v.f9 x.v.f10 x.v.f11 x.v.f12 x.v.f13 x.v.f14 x.v.f15 x.clk x.cid x.cmy x.op x.sn x.sp x.so x.fi.jw x.fi.jp x.fi.jk x.fi.ja x.fi.jh x.fi.js x.fi.jf x.fi.jc x.fi.jik x.fi.jiv x.fi.jir x.fi.jig x.fi.jo x.fi.jl x.fi.je x.mi.jw x.mi.jp x.mi.jk x.mi.ja x.mi.jh x.mi.js x.mi.jf x.mi.jc x.mi.jik x.mi.jiv x.mi.jir x.mi.jig x.mi.jo x.mi.jl x.mi.je x.cl.jw x.cl.jp x.cl.jk x.cl.ja x.cl.jh x.cl.js x.cl.jf x.cl.jc x.cl.jik x.cl.jiv x.cl.jir x.cl.jig x.cl.jo x.cl.jl x.cl.je x.nx x.la x.kp x.bd = some g
 | _, _, 0, _, h, _ => by omega
 | [], p, n + 1, hL, _, _ => by
  rw [List.append_nil] at hL
  simp only [jsx]
  rw [show ilt (ofN p.length) (ofN x.kp.length) = false by rw [hL]; exact jy]
  exact ⟨_, rfl⟩
 | y :: r, p, n + 1, hL, h, hb => by
  simp only [List.length_append, List.length_cons] at h hb
  obtain ⟨g, h1⟩ := jlh x r (p ++ [y]) n (by rw [hL, qb]) (by omega) (by simp; omega)
  simp only [jsx]
  rw [show ilt (ofN p.length) (ofN x.kp.length) = true by rw [hL]; exact qr, show inb (ofN p.length) x.kp.length = true by rw [hL]; exact jq, qa (x := y) (by omega), h1]
  simp only [cond_true]
  cases igt (jav (x.kp.getD (ofN p.length).toNat (ByteArray.empty, 0, 0, false)).1) 100
  ·exact ⟨g, rfl⟩
  ·exact ⟨_, rfl⟩
theorem jli (x : NW) (hk : x.kp.length ≤ 40) : ∀ (r p : List PT) (n : Nat), x.sn = p ++ r → r.length + 100 < n → (p ++ r).length < 1000 → ∃ g, jsy n (ofN p.length) x.v.id x.v.base x.v.lst x.v.pred x.v.f0 x.v.f1 x.v.f2 x.v.f3 x.v.f4 x.v.f5 x.v.f6 x.v.f7 x.v.f8 x.v.f9 x.v.f10 x.v.f11 x.v.f12 x.v.f13 x.v.f14 x.v.f15 x.clk x.cid x.cmy x.op x.sn x.sp x.so x.fi.jw x.fi.jp x.fi.jk x.fi.ja x.fi.jh x.fi.js x.fi.jf x.fi.jc x.fi.jik x.fi.jiv x.fi.jir x.fi.jig x.fi.jo x.fi.jl x.fi.je x.mi.jw x.mi.jp x.mi.jk x.mi.ja x.mi.jh x.mi.js x.mi.jf x.mi.jc x.mi.jik x.mi.jiv x.mi.jir x.mi.jig x.mi.jo x.mi.jl x.mi.je x.cl.jw x.cl.jp x.cl.jk x.cl.ja x.cl.jh x.cl.js x.cl.jf x.cl.jc x.cl.jik x.cl.jiv x.cl.jir x.cl.jig x.cl.jo x.cl.jl x.cl.je x.nx x.la x.kp x.bd = some g ∧ (g = false → ∀ y ∈ r, (pm y).l.length ≤ 20)
 | _, _, 0, _, h, _ => by omega
 | [], p, n + 1, hL, h, _ => by
  rw [List.append_nil] at hL
  simp only [jsy]
  rw [show ilt (ofN p.length) (ofN x.sn.length) = false by rw [hL]; exact jy]
  obtain ⟨g, hg⟩ := jlh x x.kp [] n rfl (by simp at h; omega) (by simp; omega)
  exact ⟨g, hg, fun _ y hy => by cases hy⟩
 | y :: r, p, n + 1, hL, h, hb => by
  simp only [List.length_append, List.length_cons] at h hb
  obtain ⟨g, h1, h2⟩ := jli x hk r (p ++ [y]) n (by rw [hL, qb]) (by omega) (by simp; omega)
  simp only [jsy]
  rw [show ilt (ofN p.length) (ofN x.sn.length) = true by rw [hL]; exact qr, show inb (ofN p.length) x.sn.length = true by rw [hL]; exact jq, show ∀ d, x.sn.getD (ofN p.length).toNat d = y from fun d => by rw [hL]; exact jr, qa (x := y) (by omega), h1]
  simp only [cond_true]
  rw [show igt (ofN y.2.2.2.2.2.2.2.2.2.2.2.1.length) 20 = !decide ((pm y).l.length ≤ 20) from gt20 _]
  by_cases h4 : (pm y).l.length ≤ 20
  ·rw [decide_eq_true h4]
   cases hk : igt (jav y.2.2.2.2.2.2.2.2.2.2.2.2.1) 100
   ·refine ⟨g, rfl, fun hb z hz => ?_⟩
    rcases List.mem_cons.1 hz with rfl | hz
    ·exact h4
    ·exact h2 hb z hz
   ·exact ⟨true, rfl, fun h => by cases h⟩
  ·rw [decide_eq_false h4]
   exact ⟨true, rfl, fun h => by cases h⟩
theorem bifT {α : Type} {b : Bool} {x : Option α} {P : α → Prop} {t : α} (ht : P t) (h : b = false → ∃ r, x = some r ∧ P r) : ∃ r, (bif b then some t else x) = some r ∧ P r := by
 cases b
 ·exact h rfl
 ·exact ⟨t, rfl, ht⟩
theorem ngreat {n : Nat} (hn : 2000 < n) (x : NW) : ∃ g, F8 n x.v.id x.v.base x.v.lst x.v.pred x.v.f0 x.v.f1 x.v.f2 x.v.f3 x.v.f4 x.v.f5 x.v.f6 x.v.f7 x.v.f8 x.v.f9 x.v.f10 x.v.f11 x.v.f12 x.v.f13 x.v.f14 x.v.f15 x.clk x.cid x.cmy x.op x.sn x.sp x.so x.fi.jw x.fi.jp x.fi.jk x.fi.ja x.fi.jh x.fi.js x.fi.jf x.fi.jc x.fi.jik x.fi.jiv x.fi.jir x.fi.jig x.fi.jo x.fi.jl x.fi.je x.mi.jw x.mi.jp x.mi.jk x.mi.ja x.mi.jh x.mi.js x.mi.jf x.mi.jc x.mi.jik x.mi.jiv x.mi.jir x.mi.jig x.mi.jo x.mi.jl x.mi.je x.cl.jw x.cl.jp x.cl.jk x.cl.ja x.cl.jh x.cl.js x.cl.jf x.cl.jc x.cl.jik x.cl.jiv x.cl.jir x.cl.jig x.cl.jo x.cl.jl x.cl.je x.nx x.la x.kp x.bd = some g ∧ (g = false → Sm x) := by
 have hf := jn
 unfold F8
 obtain ⟨g1, e1, c1⟩ := jrk x.cid x.cmy x.op [] FUEL (by simp; omega) (by simp)
 have e1' : F33 FUEL x.cid x.cmy x.op = some g1 := e1
 rw [vgreat FUEL x.v.id x.v.base x.v.lst x.v.pred x.v.f0 x.v.f1 x.v.f2 x.v.f3 x.v.f4 x.v.f5 x.v.f6 x.v.f7 x.v.f8 x.v.f9 x.v.f10 x.v.f11 x.v.f12 x.v.f13 x.v.f14 x.v.f15, e1']
 simp only [Option.bind_some]
 refine bifT (fun h => by cases h) fun k1 => bifT (fun h => by cases h) fun k2 => bifT (fun h => by cases h) fun k3 => bifT (fun h => by cases h) fun k4 => bifT (fun h => by cases h) fun k5 => bifT (fun h => by cases h) fun k6 => bifT (fun h => by cases h) fun k7 => bifT (fun h => by cases h) fun k8 => ?_
 rw [gt60] at k3
 rw [gt40] at k4
 rw [gt20] at k6 k7 k8
 have c1 := c1 k2
 simp only [List.nil_append, Bool.or_eq_false_iff, decide_eq_false_iff_not, Bool.not_eq_false', decide_eq_true_eq] at k1 k3 k4 k6 k7 k8 c1
 obtain ⟨g, hg, hs⟩ := jli x k4 x.sn [] n rfl (by omega) (by simp; omega)
 exact ⟨g, hg, fun e => ⟨by omega, by omega, c1.1, fun y hy => by have := c1.2 y hy; omega, k3, fun y hy => by have := hs e y hy; omega, k4, k6, k7, k8⟩⟩
theorem vsame_p (n : Nat) (v w : VW) (h1 : v.base.length < 1000) (h2 : v.lst.length < 1000) : F76 n v.id v.base v.lst v.pred v.f0 v.f1 v.f2 v.f3 v.f4 v.f5 v.f6 v.f7 v.f8 v.f9 v.f10 v.f11 v.f12 v.f13 v.f14 v.f15 w.id w.base w.lst w.pred w.f0 w.f1 w.f2 w.f3 w.f4 w.f5 w.f6 w.f7 w.f8 w.f9 w.f10 w.f11 w.f12 w.f13 w.f14 w.f15 = some (decide (v = w)) := by
 have hf := jn
 unfold F76
 rw [jjx v.base w.base (by omega) (by omega), jjx v.lst w.lst (by omega) (by omega)]
 simp only [Option.bind_some, lad1, ju, Bool.and_true]
 congr 1
 cases v; cases w
 rw [Bool.eq_iff_iff]
 simp only [Bool.and_eq_true, decide_eq_true_eq, VW.mk.injEq]
 grind
theorem vsame_r (n : Nat) (v w : VW) (h1 : v.base.length < 1000) (h2 : v.lst.length < 1000) : F44 n v.id v.base v.lst v.pred v.f0 v.f1 v.f2 v.f3 v.f4 v.f5 v.f6 v.f7 v.f8 v.f9 v.f10 v.f11 v.f12 v.f13 v.f14 v.f15 w.id w.base w.lst w.pred w.f0 w.f1 w.f2 w.f3 w.f4 w.f5 w.f6 w.f7 w.f8 w.f9 w.f10 w.f11 w.f12 w.f13 w.f14 w.f15 = some (decide (v = w)) := same_r n v.id v.base v.lst v.pred v.f0 v.f1 v.f2 v.f3 v.f4 v.f5 v.f6 v.f7 v.f8 v.f9 v.f10 v.f11 v.f12 v.f13 v.f14 v.f15 w.id w.base w.lst w.pred w.f0 w.f1 w.f2 w.f3 w.f4 w.f5 w.f6 w.f7 w.f8 w.f9 w.f10 w.f11 w.f12 w.f13 w.f14 w.f15 (by omega) (by omega)
theorem scall_p (n : Nat) (x y : CLT) (h : (cm x).l.length < 1000) : F150 n x.1 x.2.1 x.2.2.1 x.2.2.2.1 x.2.2.2.2.1 x.2.2.2.2.2.1 x.2.2.2.2.2.2.1 x.2.2.2.2.2.2.2.1 x.2.2.2.2.2.2.2.2.1 x.2.2.2.2.2.2.2.2.2.1 x.2.2.2.2.2.2.2.2.2.2.1 x.2.2.2.2.2.2.2.2.2.2.2.1 x.2.2.2.2.2.2.2.2.2.2.2.2.1 x.2.2.2.2.2.2.2.2.2.2.2.2.2.1 x.2.2.2.2.2.2.2.2.2.2.2.2.2.2.1 x.2.2.2.2.2.2.2.2.2.2.2.2.2.2.2.1 x.2.2.2.2.2.2.2.2.2.2.2.2.2.2.2.2.1 x.2.2.2.2.2.2.2.2.2.2.2.2.2.2.2.2.2.1 x.2.2.2.2.2.2.2.2.2.2.2.2.2.2.2.2.2.2.1 x.2.2.2.2.2.2.2.2.2.2.2.2.2.2.2.2.2.2.2 y.1 y.2.1 y.2.2.1 y.2.2.2.1 y.2.2.2.2.1 y.2.2.2.2.2.1 y.2.2.2.2.2.2.1 y.2.2.2.2.2.2.2.1 y.2.2.2.2.2.2.2.2.1 y.2.2.2.2.2.2.2.2.2.1 y.2.2.2.2.2.2.2.2.2.2.1 y.2.2.2.2.2.2.2.2.2.2.2.1 y.2.2.2.2.2.2.2.2.2.2.2.2.1 y.2.2.2.2.2.2.2.2.2.2.2.2.2.1 y.2.2.2.2.2.2.2.2.2.2.2.2.2.2.1 y.2.2.2.2.2.2.2.2.2.2.2.2.2.2.2.1 y.2.2.2.2.2.2.2.2.2.2.2.2.2.2.2.2.1 y.2.2.2.2.2.2.2.2.2.2.2.2.2.2.2.2.2.1 y.2.2.2.2.2.2.2.2.2.2.2.2.2.2.2.2.2.2.1 y.2.2.2.2.2.2.2.2.2.2.2.2.2.2.2.2.2.2.2 = some (cqC x y) := by
 have hf := jn
 unfold F150
 have hs : F146 FUEL x.2.1 x.2.2.1 x.2.2.2.1 x.2.2.2.2.1 x.2.2.2.2.2.1 x.2.2.2.2.2.2.1 x.2.2.2.2.2.2.2.1 x.2.2.2.2.2.2.2.2.1 x.2.2.2.2.2.2.2.2.2.1 x.2.2.2.2.2.2.2.2.2.2.1 x.2.2.2.2.2.2.2.2.2.2.2.1 x.2.2.2.2.2.2.2.2.2.2.2.2.1 x.2.2.2.2.2.2.2.2.2.2.2.2.2.1 x.2.2.2.2.2.2.2.2.2.2.2.2.2.2.1 x.2.2.2.2.2.2.2.2.2.2.2.2.2.2.2.1 y.2.1 y.2.2.1 y.2.2.2.1 y.2.2.2.2.1 y.2.2.2.2.2.1 y.2.2.2.2.2.2.1 y.2.2.2.2.2.2.2.1 y.2.2.2.2.2.2.2.2.1 y.2.2.2.2.2.2.2.2.2.1 y.2.2.2.2.2.2.2.2.2.2.1 y.2.2.2.2.2.2.2.2.2.2.2.1 y.2.2.2.2.2.2.2.2.2.2.2.2.1 y.2.2.2.2.2.2.2.2.2.2.2.2.2.1 y.2.2.2.2.2.2.2.2.2.2.2.2.2.2.1 y.2.2.2.2.2.2.2.2.2.2.2.2.2.2.2.1 = some (ud (cm x) (cm y)) := zh (show (cm x).l.length < 100000 by omega)
 rw [hs]
 simp only [Option.bind_some, ju, lad1]
 unfold cqC cwhy jkd jaq
 congr 1
 grind
theorem wbj (r : List CLT) : ∀ (s p q : List CLT) (n : Nat), r.length < n → p.length = q.length → r.length = s.length → (p ++ r).length < 1000 → zp (p ++ r) → jgy n (q ++ s) (p ++ r) (ofN (p ++ r).length) (ofN p.length) true = some (leqC r s) := by
 induction r with
 | nil =>
  intro s p q n h hp hs hb hsh
  obtain ⟨n, rfl⟩ : ∃ m, n = m + 1 := ⟨n - 1, by omega⟩
  cases s with
  | nil => simp only [jgy, List.append_nil, jy, cond_false]; rfl
  | cons y s => simp at hs
 | cons x r ih =>
  intro s p q n h hp hs hb hsh
  obtain ⟨n, rfl⟩ : ∃ m, n = m + 1 := ⟨n - 1, by omega⟩
  cases s with
  | nil => simp at hs
  | cons y s =>
   have e1 : inb (ofN p.length) (q ++ y :: s).length = true := by rw [hp]; exact jq
   have e2 : ∀ d, (q ++ y :: s).getD (ofN p.length).toNat d = y := fun d => by rw [hp]; exact jr
   simp only [jgy, qr, jq, jr, cond_true, e1, e2]
   simp only [List.length_append, List.length_cons] at h hb hs
   rw [scall_p FUEL x y (jaw hsh), Option.bind_some, qa (x := x) (by omega)]
   have h1 := ih s (p ++ [x]) (q ++ [y]) n (by omega) (by simp [hp]) (by omega) (by simp; omega) (by rw [← qb]; exact hsh)
   rw [← qb, ← qb] at h1
   rw [h1, leqC, lad6]
theorem csame_p {n : Nat} (hn : 2000 < n) (id many : Int) (l : List CLT) (id' many' : Int) (l' : List CLT) (h : l.length < 1000) (hs : zp l) : F84 n id many l id' many' l' = some (decide (id = id') && (decide (many = many') && leqC l l')) := by
 unfold F84
 rw [ju, ju]
 by_cases hl : l.length = l'.length
 ·have e : ine (ofN l.length) (ofN l'.length) = false := by simp [ine, ofN, hl]
  rw [e, cond_false]
  have e2 : jgy n l' l (ofN l.length) 0 true = some (leqC l l') := wbj l l' [] [] n (by omega) rfl hl (by simpa using h) (by simpa using hs)
  rw [e2, lad1, lad1]
 ·have e : ine (ofN l.length) (ofN l'.length) = true := by simp [ine, ofN]; omega
  rw [e, cond_true, jqs hl, lad1, lad1]
def jrx (x y : NW) : Bool := decide (x.v = y.v) && ((decide (x.cid = y.cid) && (decide (x.cmy = y.cmy) && leqC x.op y.op)) && (leqP x.sn y.sn && (decide (x.kp = y.kp) && (decide (x.clk = y.clk) && ((decide (x.sp = y.sp) && decide (x.so = y.so)) && (decide (x.fi = y.fi) && (decide (x.mi = y.mi) && (decide (x.cl = y.cl) && (decide (x.nx = y.nx) && (decide (x.la = y.la) && decide (x.bd = y.bd)))))))))))
theorem jhq (x : NW) : jrx x x = true := by
 unfold jrx
 rw [jvl, jlk]
 simp only [decide_true, Bool.and_true]
theorem jqj (x y : NW) (hs : Sm x) : ∀ (r s p q : List IT) (n : Nat), x.kp = p ++ r → y.kp = q ++ s → r.length < n → p.length = q.length → r.length = s.length → (p ++ r).length < 1000 →
  jhj n (ofN p.length) x.v.id x.v.base x.v.lst x.v.pred x.v.f0 x.v.f1 x.v.f2 x.v.f3 x.v.f4 x.v.f5 x.v.f6 x.v.f7 x.v.f8 x.v.f9 x.v.f10 x.v.f11 x.v.f12 x.v.f13 x.v.f14 x.v.f15 x.clk x.cid x.cmy x.op x.sn x.sp x.so x.fi.jw x.fi.jp x.fi.jk x.fi.ja x.fi.jh x.fi.js x.fi.jf x.fi.jc x.fi.jik x.fi.jiv x.fi.jir x.fi.jig x.fi.jo x.fi.jl x.fi.je x.mi.jw x.mi.jp x.mi.jk x.mi.ja x.mi.jh x.mi.js x.mi.jf x.mi.jc x.mi.jik x.mi.jiv x.mi.jir x.mi.jig x.mi.jo x.mi.jl x.mi.je x.cl.jw x.cl.jp x.cl.jk x.cl.ja x.cl.jh x.cl.js x.cl.jf x.cl.jc x.cl.jik x.cl.jiv x.cl.jir x.cl.jig x.cl.jo x.cl.jl x.cl.je x.nx x.la x.kp x.bd y.v.id y.v.base y.v.lst y.v.pred y.v.f0 y.v.f1 y.v.f2 y.v.f3 y.v.f4 y.v.f5 y.v.f6 y.v.f7 y.v.f8 y.v.f9 y.v.f10 y.v.f11 y.v.f12 y.v.f13 y.v.f14 y.v.f15 y.clk y.cid y.cmy y.op y.sn y.sp y.so y.fi.jw y.fi.jp y.fi.jk y.fi.ja y.fi.jh y.fi.js y.fi.jf y.fi.jc y.fi.jik y.fi.jiv y.fi.jir y.fi.jig y.fi.jo y.fi.jl y.fi.je y.mi.jw y.mi.jp y.mi.jk y.mi.ja y.mi.jh y.mi.js y.mi.jf y.mi.jc y.mi.jik y.mi.jiv y.mi.jir y.mi.jig y.mi.jo y.mi.jl y.mi.je y.cl.jw y.cl.jp y.cl.jk y.cl.ja y.cl.jh y.cl.js y.cl.jf y.cl.jc y.cl.jik y.cl.jiv y.cl.jir y.cl.jig y.cl.jo y.cl.jl y.cl.je y.nx y.la y.kp y.bd = some (decide (r = s) && (decide (x.clk = y.clk) && ((decide (x.sp = y.sp) && decide (x.so = y.so)) && (decide (x.fi = y.fi) && (decide (x.mi = y.mi) && (decide (x.cl = y.cl) && (decide (x.nx = y.nx) && (decide (x.la = y.la) && decide (x.bd = y.bd)))))))))
 | _, _, _, _, 0, _, _, h, _, _, _ => by omega
 | [], [], p, q, n + 1, ha, hb, _, _, _, _ => by
  have hf := jn
  have g1 := hs.fi
  have g2 := hs.mi
  have g3 := hs.cl
  rw [List.append_nil] at ha
  simp only [jhj]
  rw [show ilt (ofN p.length) (ofN x.kp.length) = false by rw [ha]; exact jy]
  rw [jnq (by omega) x.fi y.fi (by omega), jnq (by omega) x.mi y.mi (by omega), jnq (by omega) x.cl y.cl (by omega)]
  simp only [cond_false, Option.bind_some, lad1, ju, uk, Bool.and_true]
  simp only [decide_true, Bool.true_and]
 | u :: r, w :: s, p, q, n + 1, ha, hb', h, hp, hl, hb => by
  have e1 : inb (ofN p.length) (q ++ w :: s).length = true := by rw [hp]; exact jq
  have e2 : ∀ d, (q ++ w :: s).getD (ofN p.length).toNat d = w := fun d => by rw [hp]; exact jr
  simp only [List.length_append, List.length_cons] at h hb hl
  have h1 := jqj x y hs r s (p ++ [u]) (q ++ [w]) n (by rw [ha, qb]) (by rw [hb', qb]) (by omega) (by simp [hp]) (by omega) (by simp; omega)
  simp only [jhj]
  rw [show ilt (ofN p.length) (ofN x.kp.length) = true by rw [ha]; exact qr, show inb (ofN p.length) x.kp.length = true by rw [ha]; exact jq, show inb (ofN p.length) y.kp.length = true by rw [hb']; exact e1, show ∀ d, x.kp.getD (ofN p.length).toNat d = u from fun d => by rw [ha]; exact jr, show ∀ d, y.kp.getD (ofN p.length).toNat d = w from fun d => by rw [hb']; exact e2 d]
  rw [qa (x := u) (by omega), h1]
  simp only [cond_true, ju, wb, uk, Bool.and_true, lad6]
  congr 1
  obtain ⟨u0, u1, u2, u3⟩ := u
  obtain ⟨w0, w1, w2, w3⟩ := w
  have e9 : decide ((u0, u1, u2, u3) :: r = (w0, w1, w2, w3) :: s) = ((decide (u0 = w0) && (decide (u1 = w1) && (decide (u2 = w2) && decide (u3 = w3)))) && decide (r = s)) := by
   rw [Bool.eq_iff_iff]
   simp only [Bool.and_eq_true, decide_eq_true_eq, List.cons.injEq, Prod.mk.injEq]
  rw [e9]
  simp only [Bool.and_assoc]
theorem jnk {n : Nat} (hn : 2000 < n) (x y : NW) (h : Sm x) : F13 n x.v.id x.v.base x.v.lst x.v.pred x.v.f0 x.v.f1 x.v.f2 x.v.f3 x.v.f4 x.v.f5 x.v.f6 x.v.f7 x.v.f8 x.v.f9 x.v.f10 x.v.f11 x.v.f12 x.v.f13 x.v.f14 x.v.f15 x.clk x.cid x.cmy x.op x.sn x.sp x.so x.fi.jw x.fi.jp x.fi.jk x.fi.ja x.fi.jh x.fi.js x.fi.jf x.fi.jc x.fi.jik x.fi.jiv x.fi.jir x.fi.jig x.fi.jo x.fi.jl x.fi.je x.mi.jw x.mi.jp x.mi.jk x.mi.ja x.mi.jh x.mi.js x.mi.jf x.mi.jc x.mi.jik x.mi.jiv x.mi.jir x.mi.jig x.mi.jo x.mi.jl x.mi.je x.cl.jw x.cl.jp x.cl.jk x.cl.ja x.cl.jh x.cl.js x.cl.jf x.cl.jc x.cl.jik x.cl.jiv x.cl.jir x.cl.jig x.cl.jo x.cl.jl x.cl.je x.nx x.la x.kp x.bd y.v.id y.v.base y.v.lst y.v.pred y.v.f0 y.v.f1 y.v.f2 y.v.f3 y.v.f4 y.v.f5 y.v.f6 y.v.f7 y.v.f8 y.v.f9 y.v.f10 y.v.f11 y.v.f12 y.v.f13 y.v.f14 y.v.f15 y.clk y.cid y.cmy y.op y.sn y.sp y.so y.fi.jw y.fi.jp y.fi.jk y.fi.ja y.fi.jh y.fi.js y.fi.jf y.fi.jc y.fi.jik y.fi.jiv y.fi.jir y.fi.jig y.fi.jo y.fi.jl y.fi.je y.mi.jw y.mi.jp y.mi.jk y.mi.ja y.mi.jh y.mi.js y.mi.jf y.mi.jc y.mi.jik y.mi.jiv y.mi.jir y.mi.jig y.mi.jo y.mi.jl y.mi.je y.cl.jw y.cl.jp y.cl.jk y.cl.ja y.cl.jh y.cl.js y.cl.jf y.cl.jc y.cl.jik y.cl.jiv y.cl.jir y.cl.jig y.cl.jo y.cl.jl y.cl.je y.nx y.la y.kp y.bd = some (jrx x y) := by
 have hf := jn
 have h1 := h.b
 have h2 := h.l
 have h3 := h.op
 have h4 := h.sn
 have h5 := h.kp
 unfold F13 jrx
 rw [vsame_r FUEL x.v y.v (by omega) (by omega), csame_r FUEL x.cid x.cmy x.op y.cid y.cmy y.op (by omega) h.ops, ssame_r (by omega) x.sn y.sn (by omega) h.sns]
 simp only [Option.bind_some]
 by_cases hl : x.kp.length = y.kp.length
 ·have e : ine (ofN x.kp.length) (ofN y.kp.length) = false := by simp [ine, ofN, hl]
  rw [e, cond_false]
  rw [show jhj n 0 x.v.id x.v.base x.v.lst x.v.pred x.v.f0 x.v.f1 x.v.f2 x.v.f3 x.v.f4 x.v.f5 x.v.f6 x.v.f7 x.v.f8 x.v.f9 x.v.f10 x.v.f11 x.v.f12 x.v.f13 x.v.f14 x.v.f15 x.clk x.cid x.cmy x.op x.sn x.sp x.so x.fi.jw x.fi.jp x.fi.jk x.fi.ja x.fi.jh x.fi.js x.fi.jf x.fi.jc x.fi.jik x.fi.jiv x.fi.jir x.fi.jig x.fi.jo x.fi.jl x.fi.je x.mi.jw x.mi.jp x.mi.jk x.mi.ja x.mi.jh x.mi.js x.mi.jf x.mi.jc x.mi.jik x.mi.jiv x.mi.jir x.mi.jig x.mi.jo x.mi.jl x.mi.je x.cl.jw x.cl.jp x.cl.jk x.cl.ja x.cl.jh x.cl.js x.cl.jf x.cl.jc x.cl.jik x.cl.jiv x.cl.jir x.cl.jig x.cl.jo x.cl.jl x.cl.je x.nx x.la x.kp x.bd y.v.id y.v.base y.v.lst y.v.pred y.v.f0 y.v.f1 y.v.f2 y.v.f3 y.v.f4 y.v.f5 y.v.f6 y.v.f7 y.v.f8 y.v.f9 y.v.f10 y.v.f11 y.v.f12 y.v.f13 y.v.f14 y.v.f15 y.clk y.cid y.cmy y.op y.sn y.sp y.so y.fi.jw y.fi.jp y.fi.jk y.fi.ja y.fi.jh y.fi.js y.fi.jf y.fi.jc y.fi.jik y.fi.jiv y.fi.jir y.fi.jig y.fi.jo y.fi.jl y.fi.je y.mi.jw y.mi.jp y.mi.jk y.mi.ja y.mi.jh y.mi.js y.mi.jf y.mi.jc y.mi.jik y.mi.jiv y.mi.jir y.mi.jig y.mi.jo y.mi.jl y.mi.je y.cl.jw y.cl.jp y.cl.jk y.cl.ja y.cl.jh y.cl.js y.cl.jf y.cl.jc y.cl.jik y.cl.jiv y.cl.jir y.cl.jig y.cl.jo y.cl.jl y.cl.je y.nx y.la y.kp y.bd = _ from jqj x y h x.kp y.kp [] [] n rfl rfl (by omega) rfl hl (by simp; omega)]
  simp only [lad6]
 ·have e : ine (ofN x.kp.length) (ofN y.kp.length) = true := by simp [ine, ofN]; omega
  rw [e, cond_true, decide_eq_false (show ¬ x.kp = y.kp from fun hh => hl (by rw [hh])), Bool.false_and]
  simp only [lad6]
theorem nsame_p (n : Nat) (x y : NW) (h : Sm x) : F19 n x.v.id x.v.base x.v.lst x.v.pred x.v.f0 x.v.f1 x.v.f2 x.v.f3 x.v.f4 x.v.f5 x.v.f6 x.v.f7 x.v.f8 x.v.f9 x.v.f10 x.v.f11 x.v.f12 x.v.f13 x.v.f14 x.v.f15 x.clk x.cid x.cmy x.op x.sn x.sp x.so x.fi.jw x.fi.jp x.fi.jk x.fi.ja x.fi.jh x.fi.js x.fi.jf x.fi.jc x.fi.jik x.fi.jiv x.fi.jir x.fi.jig x.fi.jo x.fi.jl x.fi.je x.mi.jw x.mi.jp x.mi.jk x.mi.ja x.mi.jh x.mi.js x.mi.jf x.mi.jc x.mi.jik x.mi.jiv x.mi.jir x.mi.jig x.mi.jo x.mi.jl x.mi.je x.cl.jw x.cl.jp x.cl.jk x.cl.ja x.cl.jh x.cl.js x.cl.jf x.cl.jc x.cl.jik x.cl.jiv x.cl.jir x.cl.jig x.cl.jo x.cl.jl x.cl.je x.nx x.la x.kp x.bd y.v.id y.v.base y.v.lst y.v.pred y.v.f0 y.v.f1 y.v.f2 y.v.f3 y.v.f4 y.v.f5 y.v.f6 y.v.f7 y.v.f8 y.v.f9 y.v.f10 y.v.f11 y.v.f12 y.v.f13 y.v.f14 y.v.f15 y.clk y.cid y.cmy y.op y.sn y.sp y.so y.fi.jw y.fi.jp y.fi.jk y.fi.ja y.fi.jh y.fi.js y.fi.jf y.fi.jc y.fi.jik y.fi.jiv y.fi.jir y.fi.jig y.fi.jo y.fi.jl y.fi.je y.mi.jw y.mi.jp y.mi.jk y.mi.ja y.mi.jh y.mi.js y.mi.jf y.mi.jc y.mi.jik y.mi.jiv y.mi.jir y.mi.jig y.mi.jo y.mi.jl y.mi.je y.cl.jw y.cl.jp y.cl.jk y.cl.ja y.cl.jh y.cl.js y.cl.jf y.cl.jc y.cl.jik y.cl.jiv y.cl.jir y.cl.jig y.cl.jo y.cl.jl y.cl.je y.nx y.la y.kp y.bd = some (jrx x y) := by
 have hf := jn
 have h1 := h.b
 have h2 := h.l
 have h3 := h.op
 have h4 := h.sn
 have h5 := h.kp
 have g1 := h.fi
 have g2 := h.mi
 have g3 := h.cl
 unfold F19 jrx
 rw [vsame_p FUEL x.v y.v (by omega) (by omega), csame_p (by omega) x.cid x.cmy x.op y.cid y.cmy y.op (by omega) h.ops, ssame_p (by omega) x.sn y.sn (by omega) h.sns, keq_p (by omega) x.kp y.kp (by omega), jnr FUEL x.fi y.fi (by omega), jnr FUEL x.mi y.mi (by omega), jnr FUEL x.cl y.cl (by omega)]
 simp only [Option.bind_some, lad6, lad1, ju, uk, Bool.and_true]
 congr 1
 grind
theorem jva {n : Nat} (hn : 2000 < n) (m : MW) (h : m.l.length < 1000) : F72 n m.k m.c m.f m.t m.key m.s m.d m.p m.pr m.l m.ik m.iv m.ir m.ig m.cd = some (qx m) := jdb hn m.k m.c m.f m.t m.key m.s m.d m.p m.pr m.l m.ik m.iv m.ir m.ig m.cd h
theorem juz (n : Nat) (m : MW) (h : m.l.length < 1000) : F21 n m.k m.c m.f m.t m.key m.s m.d m.p m.pr m.l m.ik m.iv m.ir m.ig m.cd = some (qx m) := jjo n m.k m.c m.f m.t m.key m.s m.d m.p m.pr m.l m.ik m.iv m.ir m.ig m.cd h
def vh (x : NW) (m : MW) : Bool := askB m.k && (qx m && (decide (m.t = x.v.id) && jbs x))
theorem jlg (n : Nat) (x : NW) (m : MW) (h : Sm x) (hm : m.l.length < 1000) : F17 n x.v.id x.v.base x.v.lst x.v.pred x.v.f0 x.v.f1 x.v.f2 x.v.f3 x.v.f4 x.v.f5 x.v.f6 x.v.f7 x.v.f8 x.v.f9 x.v.f10 x.v.f11 x.v.f12 x.v.f13 x.v.f14 x.v.f15 x.clk x.cid x.cmy x.op x.sn x.sp x.so x.fi.jw x.fi.jp x.fi.jk x.fi.ja x.fi.jh x.fi.js x.fi.jf x.fi.jc x.fi.jik x.fi.jiv x.fi.jir x.fi.jig x.fi.jo x.fi.jl x.fi.je x.mi.jw x.mi.jp x.mi.jk x.mi.ja x.mi.jh x.mi.js x.mi.jf x.mi.jc x.mi.jik x.mi.jiv x.mi.jir x.mi.jig x.mi.jo x.mi.jl x.mi.je x.cl.jw x.cl.jp x.cl.jk x.cl.ja x.cl.jh x.cl.js x.cl.jf x.cl.jc x.cl.jik x.cl.jiv x.cl.jir x.cl.jig x.cl.jo x.cl.jl x.cl.je x.nx x.la x.kp x.bd m.k m.c m.f m.t m.key m.s m.d m.p m.pr m.l m.ik m.iv m.ir m.ig m.cd = some (vh x m) := by
 have hf := jn
 unfold F17 vh
 rw [zt, jva (by omega) m hm, jqb (by omega) x h]
 simp only [Option.bind_some, lad1, ju]
theorem jlf (n : Nat) (x : NW) (m : MW) (h : Sm x) (hm : m.l.length < 1000) : F18 n x.v.id x.v.base x.v.lst x.v.pred x.v.f0 x.v.f1 x.v.f2 x.v.f3 x.v.f4 x.v.f5 x.v.f6 x.v.f7 x.v.f8 x.v.f9 x.v.f10 x.v.f11 x.v.f12 x.v.f13 x.v.f14 x.v.f15 x.clk x.cid x.cmy x.op x.sn x.sp x.so x.fi.jw x.fi.jp x.fi.jk x.fi.ja x.fi.jh x.fi.js x.fi.jf x.fi.jc x.fi.jik x.fi.jiv x.fi.jir x.fi.jig x.fi.jo x.fi.jl x.fi.je x.mi.jw x.mi.jp x.mi.jk x.mi.ja x.mi.jh x.mi.js x.mi.jf x.mi.jc x.mi.jik x.mi.jiv x.mi.jir x.mi.jig x.mi.jo x.mi.jl x.mi.je x.cl.jw x.cl.jp x.cl.jk x.cl.ja x.cl.jh x.cl.js x.cl.jf x.cl.jc x.cl.jik x.cl.jiv x.cl.jir x.cl.jig x.cl.jo x.cl.jl x.cl.je x.nx x.la x.kp x.bd m.k m.c m.f m.t m.key m.s m.d m.p m.pr m.l m.ik m.iv m.ir m.ig m.cd = some (vh x m) := by
 unfold F18 vh
 rw [jbb, juz FUEL m hm, jqa FUEL x h]
 simp only [Option.bind_some, lad1, ju]
 congr 1
 grind
end Go.Proofs.YthjhcmkgadfpmaaGreat
