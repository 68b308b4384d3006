/-
  In plain words: what keeps answer (more).
-/
import Derived.Test.YthaomidjgadieaaPJ
namespace Go.Proofs.Ythaomidjgadieaa
open Go Go.RowKit

theorem newer_ri (n : Nat) (x y : IT) : F48 n x.1 x.2.1 x.2.2.1 x.2.2.2 y.1 y.2.1 y.2.2.1 y.2.2.2 = some (newI x y) := newer_r n _ _ _ _ _ _ _ _
theorem rput_tail {p r : List IT} {a : ByteArray} {v w : Int} {g : Bool} (hl : (p ++ r).length < 900) (b : Brk a p r) (h : hdK a r = none) :
    (bif (ige (ofN (List.length (p ++ r))) (24)) then
            (some ((200), p ++ r))
            else (bif ((inn (ofN p.length)) && (inbs 0 (Int.toNat (ofN p.length)) (List.length (p ++ r)))) then
             (bif (room (0 + List.length (List.take ((Int.toNat (ofN p.length)) - 0) (List.drop 0 (p ++ r)))) 40) then
              (bif (room (List.length ([] ++ (List.take ((Int.toNat (ofN p.length)) - 0) (List.drop 0 (p ++ r)))) + List.length [((a, v, w, g) : IT)]) 40) then
               (bif (((inn (ofN p.length)) && true) && (inbs (Int.toNat (ofN p.length)) (List.length (p ++ r)) (List.length (p ++ r)))) then
                (bif (room (List.length (([] ++ (List.take ((Int.toNat (ofN p.length)) - 0) (List.drop 0 (p ++ r)))) ++ [(a, v, w, g)]) + List.length (List.take ((List.length (p ++ r)) - (Int.toNat (ofN p.length))) (List.drop (Int.toNat (ofN p.length)) (p ++ r)))) 40) then
                 (some (((0 : Int)), ((([] ++ (List.take ((Int.toNat (ofN p.length)) - 0) (List.drop 0 (p ++ r)))) ++ [(a, v, w, g)]) ++ (List.take ((List.length (p ++ r)) - (Int.toNat (ofN p.length))) (List.drop (Int.toNat (ofN p.length)) (p ++ r))))))
                 else (none))
                else (none))
               else (none))
              else (none))
             else (none))) = some (bif !decide (24 ≤ (p ++ r).length) then (0, p ++ ins (a, v, w, g) r) else (200, p ++ r)) := by
  have e1 : ige (ofN (p ++ r).length) 24 = decide (24 ≤ (p ++ r).length) := by unfold ige ofN; apply decide_eq_decide.2; omega
  rw [e1]
  have e2 : ins (a, v, w, g) r = (a, v, w, g) :: r := by
    have h0 := brk_hd b (x := (a, v, w, g)) rfl
    cases r with
    | nil => exact h0
    | cons y s =>
      by_cases hy : y.1 = a
      · simp [hdK, hy] at h
      · simpa [hy] using h0
  have hl' := hl
  simp only [List.length_append] at hl'
  by_cases h24 : 24 ≤ (p ++ r).length
  · rw [decide_eq_true h24]; rfl
  · rw [decide_eq_false h24]
    have e4 : (inn (ofN p.length) && inbs 0 (ofN p.length).toNat (p ++ r).length) = true := by simp [inn, inbs, ofN]
    have e5 : (inn (ofN p.length) && true && inbs (ofN p.length).toNat (p ++ r).length (p ++ r).length) = true := by simp [inn, inbs, ofN]
    have e6 : List.take ((ofN p.length).toNat - 0) (List.drop 0 (p ++ r)) = p := by simp [ofN]
    have e7 : List.take ((p ++ r).length - (ofN p.length).toNat) (List.drop (ofN p.length).toNat (p ++ r)) = r := by simp [ofN]
    rw [e4, e5, e6, e7, room_all (by omega) (by decide), room_all (by simp; omega) (by decide), room_all (by simp; omega) (by decide), e2]
    simp
theorem rput_c {a : ByteArray} {v w : Int} {g : Bool} : ∀ (q p r : List IT) (n : Nat), (q ++ p ++ r).length < 900 → Brk a (q ++ p) r → p.length < n →
    F33_c0 n (ofN q.length) (q ++ p ++ r) a v w g = some (bif (hdK a r).isSome || !decide (24 ≤ (q ++ p ++ r).length) then (0, q ++ p ++ ins (a, v, w, g) r) else (200, q ++ p ++ r))
  | _, _, _, 0, _, _, h => by omega
  | q, x :: p, r, n + 1, hl, b, h => by
    have e0 : q ++ x :: p ++ r = q ++ x :: (p ++ r) := by simp
    have hl' := hl
    simp only [List.length_append, List.length_cons] at hl'
    simp only [List.length_cons] at h
    have e1 : klt x.1 a = true := b.lo x (by simp)
    have ih := rput_c (a := a) (v := v) (w := w) (g := g) (q ++ [x]) p r n (by simpa using hl) (by simpa using b) (by omega)
    simp only [F33_c0]
    rw [e0, lt_in, inb_in, nlt_in, get_in, stlt_k, e1, add_in (x := x) (by omega)]
    simp only [cond_true]
    have e2 : q ++ [x] ++ p ++ r = q ++ x :: (p ++ r) := by simp
    rw [e2] at ih
    rw [ih]
    have e3 : q ++ [x] ++ p ++ ins (a, v, w, g) r = q ++ x :: p ++ ins (a, v, w, g) r := by simp
    rw [e3]
  | q, [], [], n + 1, hl, b, _ => by
    simp only [List.append_nil] at hl b ⊢
    have e := rput_tail (p := q) (r := []) (a := a) (v := v) (w := w) (g := g) (by simpa using hl) b rfl
    simp only [List.append_nil] at e
    simp only [F33_c0, lt_out, cond_false, hdK, Option.isSome_none, Bool.false_or]
    rw [e]
  | q, [], y :: s, n + 1, hl, b, _ => by
    simp only [List.append_nil] at hl b ⊢
    have e1 : klt y.1 a = false := b.hi y (by simp)
    simp only [F33_c0, lt_in, inb_in, ntl, get_in, stlt_k, e1, cond_true, cond_false, steq_dec]
    by_cases hy : y.1 = a
    · have e0 : (hdK a (y :: s)) = some y := by simp [hdK, hy]
      rw [decide_eq_true hy, cond_true, newer_r, Option.bind_some, e0, Option.isSome_some, Bool.true_or, cond_true]
      have e1 : ins (a, v, w, g) (y :: s) = (bif newI (a, v, w, g) y then (a, v, w, g) else y) :: s := by
        have := brk_hd b (x := (a, v, w, g)) rfl
        simpa [hy] using this
      rw [e1, set_in]
      show (bif newI (a, v, w, g) y then _ else _) = _
      cases newI (a, v, w, g) y <;> rfl
    · have e0 : (hdK a (y :: s)) = none := by simp [hdK, hy]
      rw [decide_eq_false hy, cond_false, rput_tail (by simpa using hl) b e0, e0, Option.isSome_none, Bool.false_or]
theorem kput_r {n : Nat} (hn : 2000 < n) (k : List IT) (hl : k.length < 900) (a : ByteArray) (v w : Int) (g : Bool) : F33 n k a v w g = some ((putV k (a, v, w, g)).2, (putV k (a, v, w, g)).1) := by
  have hf := fuel_big
  unfold F33
  rw [kown_r _ k (by omega), Option.bind_some, kright_r (by omega) k (by omega), Option.bind_some]
  cases hk : keepB k
  · simp only [putV, hk, Bool.not_false, cond_true, Bool.false_and, cond_false]
  · simp only [Bool.not_true, cond_false, pair_r, Option.bind_some]
    cases hp : pairB a v w
    · have : pairI (a, v, w, g) = false := hp
      simp only [putV, hk, this, Bool.and_false, cond_false, Bool.not_false, cond_true]
    · simp only [Bool.not_true, cond_false]
      obtain ⟨p, r, rfl, b⟩ := brk_of ((keepB_iff k).1 hk).2.2 a
      have hl' := hl
      simp only [List.length_append] at hl'
      have := rput_c (a := a) (v := v) (w := w) (g := g) [] p r n (by simpa using hl) (by simpa using b) (by omega)
      simp only [List.nil_append, List.length_nil] at this
      rw [show (0 : Int) = ofN 0 from rfl, this, putV_brk (x := (a, v, w, g)) hk hp b]
      show some _ = some _
      cases (hdK a r).isSome || !decide (24 ≤ (p ++ r).length) <;> rfl

/-! ### All. -/
theorem putV_len (k : List IT) (x : IT) (hk : k.length < 900) : (putV k x).1.length < 900 := by
  unfold putV
  cases h : keepB k && pairI x
  · exact hk
  · have h1 := (keepB_iff k).1 (and_l h)
    cases (fnd k x.1).isSome || !decide (24 ≤ k.length)
    · exact hk
    · have := ins_len x h1.2.2
      simp only [cond_true]
      split at this <;> omega
theorem stp_snd (k : List IT) (e : Int) (x : IT) : stp (k, e) x = ((putV k x).1, bif ieq e 0 then (putV k x).2 else e) := by
  unfold stp; rw [ieq_dec]
theorem kall_c : ∀ (r p : List IT) (n : Nat) (k : List IT) (e : Int), r.length < n → (p ++ r).length < 1000 → k.length < 900 → F34_c0 n (p ++ r) (ofN (p ++ r).length) (ofN p.length) e k = some ((r.foldl stp (k, e)).2, (r.foldl stp (k, e)).1)
  | _, _, 0, _, _, h, _, _ => by omega
  | [], p, n + 1, k, e, _, _, _ => by simp only [F34_c0, List.append_nil, lt_out, cond_false]; rfl
  | x :: r, p, n + 1, k, e, h, hb, hk => by
    have hf := fuel_big
    simp only [F34_c0, lt_in, inb_in, get_in, cond_true]
    simp only [List.length_append, List.length_cons] at h hb
    rw [kput_p (by omega) k hk, Option.bind_some, add_in (x := x) (by omega), List.foldl_cons, stp_snd]
    have h1 := kall_c r (p ++ [x]) n (putV k x).1 (putV k x).2 (by omega) (by simp; omega) (putV_len k x hk)
    have h2 := kall_c r (p ++ [x]) n (putV k x).1 e (by omega) (by simp; omega) (putV_len k x hk)
    rw [← in_eq] at h1 h2
    cases ieq e 0
    · exact h2
    · exact h1
theorem kall_not : ∀ (l : List IT) (k : List IT) (e : Int), keepB k = false → l.foldl stp (k, e) = (k, bif ieq e 0 && !l.isEmpty then 2 else e)
  | [], k, e, _ => by simp
  | x :: r, k, e, h => by
    have e1 : putV k x = (k, 2) := by unfold putV; rw [h]; rfl
    rw [List.foldl_cons, stp_snd, e1, kall_not r k _ h]
    cases he : ieq e 0
    · simp only [cond_false, he, Bool.false_and]
    · simp only [cond_true, Bool.true_and, List.isEmpty_cons, Bool.not_false]
      rfl
theorem kall_p {n : Nat} (hn : 2000 < n) (k l : List IT) (hk : k.length < 900) (hl : l.length < 1000) : F34 n k l = some ((allV k l).2, (allV k l).1) := by
  have hf := fuel_big
  unfold F34 allV
  have h1 := kall_c l [] n k 0 (by omega) (by simpa using hl) hk
  simp only [List.nil_append, List.length_nil] at h1
  rw [kown_p (by omega) k (by omega), Option.bind_some, show (F34_c0 n l (ofN l.length) (0) (0) k) = F34_c0 n l (ofN l.length) (ofN 0) (0) k from rfl, h1]
  cases l with
  | nil => rfl
  | cons x r =>
    rw [show igt (ofN (x :: r).length) 0 = true by simp [igt, ofN], cond_true, kright_p (by omega) k (by omega), Option.bind_some]
    cases h : keepB k
    · rw [kall_not _ k 0 h]; rfl
    · rfl
theorem kall_rc : ∀ (r p : List IT) (n : Nat) (k : List IT) (e : Int), r.length < n → (p ++ r).length < 1000 → k.length < 900 → F35_c0 n (p ++ r) e (ofN p.length) k = some ((r.foldl stp (k, e)).2, (r.foldl stp (k, e)).1)
  | _, _, 0, _, _, h, _, _ => by omega
  | [], p, n + 1, k, e, _, _, _ => by simp only [F35_c0, List.append_nil, lt_out, cond_false]; rfl
  | x :: r, p, n + 1, k, e, h, hb, hk => by
    have hf := fuel_big
    simp only [F35_c0, lt_in, inb_in, get_in, cond_true]
    simp only [List.length_append, List.length_cons] at h hb
    rw [kput_r (by omega) k hk, Option.bind_some, add_in (x := x) (by omega), List.foldl_cons, stp_snd]
    have h1 := kall_rc r (p ++ [x]) n (putV k x).1 (putV k x).2 (by omega) (by simp; omega) (putV_len k x hk)
    have h2 := kall_rc r (p ++ [x]) n (putV k x).1 e (by omega) (by simp; omega) (putV_len k x hk)
    rw [← in_eq] at h1 h2
    cases ieq e 0
    · exact h2
    · exact h1
theorem kall_r {n : Nat} (hn : 2000 < n) (k l : List IT) (hk : k.length < 900) (hl : l.length < 1000) : F35 n k l = some ((allV k l).2, (allV k l).1) := by
  unfold F35 allV
  have h1 := kall_rc l [] n k 0 (by omega) (by simpa using hl) hk
  rw [kown_r _ k (by omega), Option.bind_some]
  exact h1

/-! ### Get, Next. -/
def getV (k : List IT) (key : ByteArray) : IT × Int := bif keepB k then (match fnd k key with | some x => (x, 0) | none => (zIT, 201)) else (zIT, 201)
def mkG (x : IT × Int) : Ssi2bi := ⟨x.1.1, x.1.2.1, x.1.2.2.1, x.1.2.2.2, x.2⟩
def bhd (key : ByteArray) (k : List IT) : Option IT := k.find? fun x => klt key x.1
def nxtV (k : List IT) (key : ByteArray) : IT × Bool := bif keepB k then (match k with | [] => (zIT, false) | z :: s => (match bhd key (z :: s) with | some x => (x, true) | none => (z, true))) else (zIT, false)
def mkN (x : IT × Bool) : Ssi2b2 := ⟨x.1.1, x.1.2.1, x.1.2.2.1, x.1.2.2.2, x.2⟩
theorem kget_p (n : Nat) (k : List IT) (hl : k.length < 900) (key : ByteArray) : F37 n k key = some (mkG (getV k key)) := by
  have hf := fuel_big
  unfold F37 getV
  rw [kright_p (by omega) k (by omega), Option.bind_some]
  cases hk : keepB k
  · rfl
  · simp only [Bool.not_true, cond_false, cond_true]
    have hs := ((keepB_iff k).1 hk).2.2
    obtain ⟨p, r, rfl, b⟩ := brk_of hs key
    rw [kplace_p (by omega) b (by omega), Option.bind_some, brk_fnd hs b]
    cases r with
    | nil => rfl
    | cons y s =>
      by_cases hy : y.1 = key
      · simp only [hdK, if_pos hy, Option.isSome_some, Bool.not_true, cond_false, inb_in, cond_true, get_in]; rfl
      · simp only [hdK, if_neg hy, Option.isSome_none, Bool.not_false, cond_true]; rfl
theorem kget_rc (K : List IT) (hK : K.length < 900) (key : ByteArray) : ∀ (r p : List IT) (n : Nat), K = p ++ r → r.length < n → (∀ y ∈ p, y.1 ≠ key) → F38_c0 n K key (ofN p.length) ByteArray.empty 0 0 false = some (mkG (getV K key))
  | _, _, 0, _, h, _ => by omega
  | [], p, n + 1, e, _, hp => by
    rw [List.append_nil] at e
    subst e
    simp only [F38_c0, lt_out, cond_false, getV]
    rw [fnd_none.2 hp]
    cases keepB K <;> rfl
  | x :: r, p, n + 1, e, h, hp => by
    have hf := fuel_big
    have hlen : p.length < 900 := by rw [e] at hK; simp at hK; omega
    have e1 : ilt (ofN p.length) (ofN K.length) = true := by rw [e]; exact lt_in
    have e2 : inb (ofN p.length) K.length = true := by rw [e]; exact inb_in
    have e3 : ∀ d, K.getD (ofN p.length).toNat d = x := fun d => by rw [e]; exact get_in
    simp only [F38_c0, e1, e2, e3, cond_true, steq_dec]
    rw [kright_r (by omega) K (by omega), Option.bind_some]
    cases hk : keepB K
    · simp only [getV, hk]; rfl
    · simp only [cond_true]
      have hs := ((keepB_iff K).1 hk).2.2
      simp only [List.length_cons] at h
      by_cases hx : x.1 = key
      · have : fnd K key = some x := by rw [← hx]; exact fnd_of_mem hs (by rw [e]; simp)
        simp only [getV, hk, this, decide_eq_true hx, cond_true]; rfl
      · rw [decide_eq_false hx, cond_false, add_in (x := x) (by omega)]
        exact kget_rc K hK key r (p ++ [x]) n (by rw [e]; simp) (by omega) fun y hy => by
          rcases List.mem_append.1 hy with hy | hy
          · exact hp y hy
          · rw [List.mem_singleton.1 hy]; exact hx
theorem kget_r {n : Nat} (hn : 2000 < n) (k : List IT) (hl : k.length < 900) (key : ByteArray) : F38 n k key = some (mkG (getV k key)) :=
  kget_rc k hl key k [] n rfl (by omega) (by simp)
theorem bhd_app {key : ByteArray} : ∀ {p r : List IT}, (∀ y ∈ p, klt y.1 key = true) → bhd key (p ++ r) = bhd key r
  | [], _, _ => rfl
  | x :: p, r, h => by
    unfold bhd
    rw [List.cons_append, List.find?_cons, klt_asym (h x (by simp))]
    exact bhd_app (p := p) fun y hy => h y (List.mem_cons_of_mem _ hy)
theorem knext_p (n : Nat) (k : List IT) (hl : k.length < 900) (key : ByteArray) : F39 n k key = some (mkN (nxtV k key)) := by
  have hf := fuel_big
  unfold F39 nxtV
  cases k with
  | nil => rw [show keepB [] = true from rfl]; rfl
  | cons z t =>
    rw [show ieq (ofN (z :: t).length) 0 = false by simp [ieq, ofN]; omega, cond_false, kright_p (by omega) _ (by omega), Option.bind_some]
    cases hk : keepB (z :: t)
    · rfl
    · simp only [Bool.not_true, cond_false, cond_true]
      have hs := ((keepB_iff _).1 hk).2.2
      obtain ⟨p, r, e, b⟩ := brk_of hs key
      have e0 : inb 0 (z :: t).length = true := by simp [inb]
      have e00 : ∀ d : IT, (z :: t).getD (Int.toNat 0) d = z := fun _ => rfl
      simp only [e0, e00, cond_true]
      have hlp : p.length < 900 := by rw [e] at hl; simp at hl; omega
      rw [show F61 FUEL (z :: t) key = some (ofN p.length, (hdK key r).isSome) by rw [e]; exact kplace_p (by omega) b (by rw [← e]; omega), Option.bind_some]
      have e9 : bhd key (z :: t) = bhd key r := by rw [e]; exact bhd_app b.lo
      rw [e9]
      cases r with
      | nil =>
        have e1 : ige (ofN p.length) (ofN (z :: t).length) = true := by rw [e]; simp [ige, ofN]
        simp only [hdK, Option.isSome_none, cond_false, e1, cond_true]; rfl
      | cons y s =>
        by_cases hy : y.1 = key
        · have e1 : iadd .i64 (ofN p.length) 1 = ofN (p ++ [y]).length := add_in (x := y) (by omega)
          have e2 : bhd key (y :: s) = bhd key s := by unfold bhd; rw [List.find?_cons, hy, klt_irr]
          simp only [hdK, if_pos hy, Option.isSome_some, cond_true, e1, e2]
          cases s with
          | nil =>
            have e3 : ige (ofN (p ++ [y]).length) (ofN (z :: t).length) = true := by rw [e]; simp [ige, ofN]
            rw [e3]; rfl
          | cons x s =>
            have e4 : z :: t = (p ++ [y]) ++ x :: s := by rw [e]; simp
            have e3 : ige (ofN (p ++ [y]).length) (ofN (z :: t).length) = false := by rw [e4]; exact decide_eq_false (by simp only [ofN, List.length_append, List.length_cons]; omega)
            have e5 : bhd key (x :: s) = some x := by
              unfold bhd; rw [List.find?_cons]
              have hs' := hs
              rw [e] at hs'
              have : klt y.1 x.1 = true := srt_head (List.pairwise_append.1 hs').2.1 x (by simp)
              rw [hy] at this; rw [this]
            rw [e3, e5, cond_false, e4, inb_in, cond_true, get_in]; rfl
        · have e3 : ige (ofN p.length) (ofN (z :: t).length) = false := by rw [e]; exact decide_eq_false (by simp only [ofN, List.length_append, List.length_cons]; omega)
          have e5 : bhd key (y :: s) = some y := by
            unfold bhd; rw [List.find?_cons]
            have h1 := b.hi y (by simp)
            have : klt key y.1 = true := by
              rcases klt_tri y.1 key with h | h | h
              · rw [h1] at h; cases h
              · exact absurd h hy
              · exact h
            rw [this]
          simp only [hdK, if_neg hy, Option.isSome_none, cond_false, e3, e5]
          rw [e, inb_in, cond_true, get_in]; rfl
theorem knext_rc (z : IT) (t : List IT) (hK : (z :: t).length < 900) (key : ByteArray) : ∀ (r p : List IT) (n : Nat), z :: t = p ++ r → r.length < n → bhd key p = none →
    F40_c0 n (z :: t) key (ofN p.length) ByteArray.empty 0 0 false = some (mkN (match bhd key (z :: t) with | some x => (x, true) | none => (z, true)))
  | _, _, 0, _, h, _ => by omega
  | [], p, n + 1, e, _, hp => by
    rw [List.append_nil] at e
    rw [← e] at hp
    have e1 : ilt (ofN p.length) (ofN (z :: t).length) = false := by rw [e]; exact lt_out
    have e0 : inb 0 (z :: t).length = true := by simp [inb]
    have e00 : ∀ d : IT, (z :: t).getD (Int.toNat 0) d = z := fun _ => rfl
    simp only [F40_c0, e1, e0, e00, cond_false, cond_true, hp]; rfl
  | x :: r, p, n + 1, e, h, hp => by
    have hlen : p.length < 900 := by rw [e] at hK; simp at hK; omega
    have e1 : ilt (ofN p.length) (ofN (z :: t).length) = true := by rw [e]; exact lt_in
    have e2 : inb (ofN p.length) (z :: t).length = true := by rw [e]; exact inb_in
    have e3 : ∀ d, (z :: t).getD (ofN p.length).toNat d = x := fun d => by rw [e]; exact get_in
    simp only [F40_c0, e1, e2, e3, cond_true, stgt_k]
    simp only [List.length_cons] at h
    cases hx : klt key x.1
    · rw [cond_false, add_in (x := x) (by omega)]
      exact knext_rc z t hK key r (p ++ [x]) n (by rw [e]; simp) (by omega) (by
        unfold bhd at hp ⊢; rw [List.find?_append, hp]; simp [hx])
    · have : bhd key (z :: t) = some x := by
        rw [e]; unfold bhd at hp ⊢; rw [List.find?_append, hp]; simp [hx]
      rw [this]; rfl
theorem knext_r {n : Nat} (hn : 2000 < n) (k : List IT) (hl : k.length < 900) (key : ByteArray) : F40 n k key = some (mkN (nxtV k key)) := by
  have hf := fuel_big
  unfold F40 nxtV
  cases k with
  | nil => rw [show keepB [] = true from rfl]; rfl
  | cons z t =>
    rw [show ieq (ofN (z :: t).length) 0 = false by simp [ieq, ofN]; omega, cond_false, kright_r (by omega) _ (by omega), Option.bind_some]
    cases hk : keepB (z :: t)
    · rfl
    · exact knext_rc z t hl key (z :: t) [] n rfl (by omega) rfl

/-! ### Of, Newest, Keys. -/
theorem of_c (key : ByteArray) : ∀ (r p : List IT) (n : Nat) (a : List IT), r.length < n → (p ++ r).length < 1000 → a.length + r.length < 1000 → F45_c0 n key (p ++ r) (ofN p.length) a = some (a ++ r.filter fun x => decide (x.1 = key))
  | _, _, 0, _, h, _, _ => by omega
  | [], p, n + 1, a, _, _, _ => by simp only [F45_c0, List.append_nil, lt_out, cond_false]; simp
  | x :: r, p, n + 1, a, h, hb, ha => by
    simp only [F45_c0, lt_in, inb_in, get_in, cond_true, steq_dec]
    simp only [List.length_append, List.length_cons] at h hb ha
    rw [room_all (by simp; omega) (by decide), cond_true, add_in (x := x) (by omega), List.filter_cons]
    have h1 := of_c key r (p ++ [x]) n (a ++ [x]) (by omega) (by simp; omega) (by simp; omega)
    have h2 := of_c key r (p ++ [x]) n a (by omega) (by simp; omega) (by omega)
    rw [← in_eq] at h1 h2
    by_cases hx : x.1 = key
    · rw [decide_eq_true hx, cond_true, if_pos rfl]; simpa using h1
    · rw [decide_eq_false hx, cond_false, if_neg (by decide)]; exact h2
theorem of_r {n : Nat} (hn : 2000 < n) (key : ByteArray) (l : List IT) (h : l.length < 1000) : F45 n key l = some (l.filter fun x => decide (x.1 = key)) := by
  have := of_c key l [] n [] (by omega) (by simpa using h) (by simpa using h)
  simpa [F45, ofN] using this
theorem newest_c : ∀ (r p : List IT) (n : Nat) (s : IT × Bool), r.length < n → (p ++ r).length < 1000 → F44_c0 n (p ++ r) s.2 (ofN p.length) ByteArray.empty 0 0 false s.1.1 s.1.2.1 s.1.2.2.1 s.1.2.2.2 = some (mkN (r.foldl nwV s))
  | _, _, 0, _, h, _ => by omega
  | [], p, n + 1, s, _, _ => by simp only [F44_c0, List.append_nil, lt_out, cond_false]; rfl
  | x :: r, p, n + 1, s, h, hb => by
    simp only [F44_c0, lt_in, inb_in, get_in, cond_true, pair_r, newer_ri, Option.bind_some]
    simp only [List.length_append, List.length_cons] at h hb
    rw [add_in (x := x) (by omega), List.foldl_cons]
    have h1 := newest_c r (p ++ [x]) n (x, true) (by omega) (by simp; omega)
    have h2 := newest_c r (p ++ [x]) n s (by omega) (by simp; omega)
    rw [← in_eq] at h1 h2
    have e : nwV s x = bif pairI x && (!s.2 || newI x s.1) then (x, true) else s := rfl
    rw [e]
    show (bif pairI x then _ else _) = _
    cases pairI x
    · exact h2
    · simp only [cond_true, Bool.true_and]
      cases hs : s.2
      · exact h1
      · simp only [Bool.not_true, cond_false, Bool.false_or]
        cases newI x s.1
        · rw [← hs]; exact h2
        · exact h1
theorem newest_r {n : Nat} (hn : 2000 < n) (l : List IT) (h : l.length < 1000) : F44 n l = some (mkN (l.foldl nwV (zIT, false))) := by
  have := newest_c l [] n (zIT, false) (by omega) (by simpa using h)
  simpa [F44, ofN] using this
end Go.Proofs.Ythaomidjgadieaa
