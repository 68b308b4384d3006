/-
  Chapter 20, in plain words.
-/
import Derived.Test.YthaomidjgadieaaPI
namespace Go.Proofs.Ythaomidjgadieaa
open Go Go.RowKit

theorem rkey_tail {α : Type} (K : List ByteArray → Option α) {p r : List ByteArray} {s : ByteArray} {i : Int} {m : Nat} (hi : inb i m = true) (hl : (p ++ r).length < 900) :
    (bif ((inn (ofN p.length)) && (inbs 0 (Int.toNat (ofN p.length)) (List.length (p ++ r)))) then
      (bif (room (0 + List.length (List.take ((Int.toNat (ofN p.length)) - 0) (List.drop 0 (p ++ r)))) 16) then
       (bif (inb i m) then
        (bif (room (List.length ([] ++ (List.take ((Int.toNat (ofN p.length)) - 0) (List.drop 0 (p ++ r)))) + List.length [s]) 16) then
         (bif (((inn (ofN p.length)) && true) && (inbs (Int.toNat (ofN p.length)) (List.length (p ++ r)) (List.length (p ++ r)))) then
          (bif (room (List.length (([] ++ (List.take ((Int.toNat (ofN p.length)) - 0) (List.drop 0 (p ++ r)))) ++ [s]) + List.length (List.take ((List.length (p ++ r)) - (Int.toNat (ofN p.length))) (List.drop (Int.toNat (ofN p.length)) (p ++ r)))) 16) then
           K ((([] ++ (List.take ((Int.toNat (ofN p.length)) - 0) (List.drop 0 (p ++ r)))) ++ [s]) ++ (List.take ((List.length (p ++ r)) - (Int.toNat (ofN p.length))) (List.drop (Int.toNat (ofN p.length)) (p ++ r))))
           else (none))
          else (none))
         else (none))
        else (none))
       else (none))
      else (none)) = K (p ++ s :: r) := by
  have hl' := hl
  simp only [List.length_append] at hl'
  have e4 : (inn (ofN p.length) && inbs 0 (ofN p.length).toNat (p ++ r).length) = true := by simp [inn, inbs, ofN]
  have e5 : (inn (ofN p.length) && true && inbs (ofN p.length).toNat (p ++ r).length (p ++ r).length) = true := by simp [inn, inbs, ofN]
  have e6 : List.take ((ofN p.length).toNat - 0) (List.drop 0 (p ++ r)) = p := by simp [ofN]
  have e7 : List.take ((p ++ r).length - (ofN p.length).toNat) (List.drop (ofN p.length).toNat (p ++ r)) = r := by simp [ofN]
  rw [e4, e5, e6, e7, hi, room_all (by omega) (by decide), room_all (by simp; omega) (by decide), room_all (by simp; omega) (by decide)]
  simp only [cond_true, List.nil_append, List.append_assoc, List.singleton_append]
theorem insKey_len (s : ByteArray) : ∀ o : List ByteArray, (insKey s o).length ≤ o.length + 1
  | [] => by simp [insKey]
  | t :: r => by
    unfold insKey
    have := insKey_len s r
    cases klt t s
    · simp only [cond_false]; by_cases h : t = s <;> simp [h]
    · simp only [cond_true, List.length_cons]; omega
theorem keys_c1 {X : List IT} {P R : List IT} {x : IT} (hX : X = P ++ x :: R) (hXl : X.length < 400) {n0 : Nat}
    (hO : ∀ m, n0 < m → ∀ o : List ByteArray, o.length ≤ P.length + 1 → F46_c0 m X (ofN (P ++ [x]).length) o = some (R.foldl (fun o x => insKey x.1 o) o)) :
    ∀ (r q : List ByteArray) (n : Nat), n0 + r.length + 1 < n → (q ++ r).length ≤ P.length → F46_c1 n X (ofN P.length) (ofN q.length) (q ++ r) = some (R.foldl (fun o x => insKey x.1 o) (q ++ insKey x.1 r))
  | _, _, 0, h, _ => by omega
  | [], q, n + 1, h, hl => by
    have hP : P.length < 400 := by rw [hX] at hXl; simp at hXl; omega
    simp only [List.append_nil] at hl ⊢
    have e1 : inb (ofN P.length) X.length = true := by rw [hX]; exact inb_in
    have e2 : X.getD (ofN P.length).toNat (ByteArray.empty, 0, 0, false) = x := by rw [hX]; exact get_in
    have e3 : ieq (ofN q.length) (ofN q.length) = true := by simp [ieq]
    have := rkey_tail (fun o => F46_c0 n X (iadd .i64 (ofN P.length) 1) o) (p := q) (r := []) (s := x.1) e1 (by simp; omega)
    simp only [List.append_nil] at this
    simp only [F46_c1, lt_out, cond_false, e3, cond_true, e2]
    rw [this, add_in (x := x) (by omega), hO n (by simp at h; omega) _ (by simp; omega)]; rfl
  | t :: r, q, n + 1, h, hl => by
    have hP : P.length < 400 := by rw [hX] at hXl; simp at hXl; omega
    have e1 : inb (ofN P.length) X.length = true := by rw [hX]; exact inb_in
    have e2 : X.getD (ofN P.length).toNat (ByteArray.empty, 0, 0, false) = x := by rw [hX]; exact get_in
    have hl' := hl
    simp only [List.length_append, List.length_cons] at hl'
    have e3 : ieq (ofN q.length) (ofN (q ++ t :: r).length) = false := by simp [ieq, ofN]; omega
    simp only [List.length_cons] at h
    have := rkey_tail (fun o => F46_c0 n X (iadd .i64 (ofN P.length) 1) o) (p := q) (r := t :: r) (s := x.1) e1 (by simp; omega)
    simp only [F46_c1, lt_in, inb_in, ntl, get_in, cond_true, e1, e2, e3, cond_false, stlt_k]
    rw [insKey]
    cases h1 : klt t x.1
    · simp only [cond_false, stne, steq_toList]
      simp only [e1, cond_true] at this
      by_cases h2 : t = x.1
      · rw [decide_eq_true h2]
        simp only [Bool.not_true, cond_false, cond_true]
        rw [add_in (x := x) (by omega), hO n (by omega) _ (by simp; omega)]
      · rw [decide_eq_false h2]
        simp only [Bool.not_false, cond_true, cond_false]
        rw [this, add_in (x := x) (by omega), hO n (by omega) _ (by simp; omega)]
    · simp only [cond_true]
      have ih := keys_c1 hX hXl hO r (q ++ [t]) n (by omega) (by simpa using hl)
      rw [← in_eq] at ih
      rw [add_in (x := t) (by omega), ih]; simp
theorem keys_c0 {X : List IT} (hXl : X.length < 400) (R : List IT) : ∀ (P : List IT) (n0 n : Nat) (o : List ByteArray), n0 = R.length * 1000 + 1 → X = P ++ R → n0 < n → o.length ≤ P.length → F46_c0 n X (ofN P.length) o = some (R.foldl (fun o x => insKey x.1 o) o) := by
  induction R with
  | nil =>
    intro P n0 n o h0 e h ho
    obtain ⟨n, rfl⟩ : ∃ m, n = m + 1 := ⟨n - 1, by omega⟩
    rw [List.append_nil] at e; subst e
    simp only [F46_c0, lt_out, cond_false]; rfl
  | cons x R ih =>
    intro P n0 n o h0 e h ho
    obtain ⟨n, rfl⟩ : ∃ m, n = m + 1 := ⟨n - 1, by omega⟩
    have hP : P.length < 400 := by rw [e] at hXl; simp at hXl; omega
    have e1 : ilt (ofN P.length) (ofN X.length) = true := by rw [e]; exact lt_in
    simp only [List.length_cons] at h0
    simp only [F46_c0, e1, cond_true]
    obtain ⟨n1, h1⟩ : ∃ n1, n1 = R.length * 1000 + 1 := ⟨_, rfl⟩
    have := keys_c1 e hXl (n0 := n1) (fun m hm o ho => ih (P ++ [x]) n1 m o h1 (by rw [e]; simp) hm (by simpa using ho)) o [] n (by omega) (by simpa using ho)
    simp only [List.nil_append, List.length_nil] at this
    exact this
theorem keys_r {n : Nat} (hn : 400000 < n) (l : List IT) (h : l.length < 400) : F46 n l = some (keysV l) :=
  keys_c0 h l [] _ n [] rfl rfl (by omega) (by simp)

theorem wakes20 : F31 FUEL = some true := by kernel_rfl
theorem ieq_self (a : Int) : ieq a a = true := by simp [ieq]
theorem steq_self (a : ByteArray) : steq a a = true := by simp [steq]
theorem ine_self (a : Int) : ine a a = false := by simp [ine]
theorem beqb_self (a : Bool) : beqb a a = true := by simp [beqb]
theorem fuel_vast : 400000 < FUEL := by unfold FUEL; omega
theorem allV_len (k l : List IT) (hk : k.length < 900) : (allV k l).1.length < 900 := by
  have : ∀ (l : List IT) (s : List IT × Int), s.1.length < 900 → (l.foldl stp s).1.length < 900 := by
    intro l
    induction l with
    | nil => intro s h; exact h
    | cons x r ih => intro s h; exact ih _ (putV_len _ x h)
  exact this l (k, 0) hk

theorem plain_KeepTells (n : Nat) (k : List IT) (a : ByteArray) (v w : Int) (g : Bool) (l : List IT) (key : ByteArray) : F8 n k a v w g l key = some true := by
  have hf := fuel_big
  unfold F8
  obtain ⟨b1, e1, h1⟩ := igreat_r (n := FUEL) (by omega) k
  obtain ⟨b2, e2, h2⟩ := igreat_r (n := FUEL) (by omega) [((a, v, w, g) : IT)]
  obtain ⟨b3, e3, h3⟩ := igreat_r (n := FUEL) (by omega) l
  rw [e1, e2, e3, wakes20]
  simp only [Option.bind_some]
  cases b1
  · cases b2
    · cases b3
      · have h1 := h1 rfl
        have h3 := h3 rfl
        simp only [cond_false]
        cases igt (stlen key) 100
        · have p1 := putV_len k (a, v, w, g) (by omega)
          have p2 := allV_len k l (by omega)
          rw [cond_false, kput_p (by omega) k (by omega), kput_r (by omega) k (by omega), kall_p (by omega) k l (by omega) (by omega), kall_r (by omega) k l (by omega) (by omega),
            kget_p _ k (by omega), kget_r (by omega) k (by omega), knext_p _ k (by omega), knext_r (by omega) k (by omega), kright_p (by omega) k (by omega), kright_r (by omega) k (by omega), kown_p (by omega) k (by omega)]
          simp only [Option.bind_some]
          rw [items_r (by omega) _ _ (by omega), items_r (by omega) _ _ (by omega), items_r (by omega) _ _ (by omega)]
          simp only [Option.bind_some, decide_true, Bool.not_true, cond_false, ine_self, steq_self, cond_true, ieq_self, beqb_self, Bool.and_true]
        · rfl
      · rfl
    · rfl
  · rfl

/-! ### The newest ones. -/
theorem keep_nil : keepB [] = true := rfl
theorem srt_nil : Srt [] := by simp [Srt]
theorem newest_c1 {l : List IT} {A B : List IT} (hl : l.length ≤ 40) (hA : A.length < 900) (hg : ∀ x ∈ l, getV A x.1 = ((((l.filter fun y => decide (y.1 = x.1)).foldl nwV (zIT, false))).1, 0)) (hAB : A = B) (hk : A.length = (keysV l).length) :
    ∀ (r p : List IT) (n : Nat), l = p ++ r → r.length < n → F9_c1 n l (ofN p.length) A B = some true
  | _, _, 0, _, h => by omega
  | [], p, n + 1, e, _ => by
    have hf := fuel_big
    have hv := fuel_vast
    rw [List.append_nil] at e
    subst e
    simp only [F9_c1, lt_out, cond_false]
    rw [items_r (by omega) _ _ (by omega), keys_r hv l (by omega), wakes20, decide_eq_true hAB, hk]
    simp only [Option.bind_some, cond_true, ieq_self]
  | x :: r, p, n + 1, e, h => by
    have hf := fuel_big
    have hp : p.length ≤ 40 := by rw [e] at hl; simp at hl; omega
    have e1 : ilt (ofN p.length) (ofN l.length) = true := by rw [e]; exact lt_in
    have e2 : inb (ofN p.length) l.length = true := by rw [e]; exact inb_in
    have e3 : l.getD (ofN p.length).toNat (ByteArray.empty, 0, 0, false) = x := by rw [e]; exact get_in
    simp only [List.length_cons] at h
    have hx := hg x (by rw [e]; simp)
    have hfl := List.length_filter_le (fun y : IT => decide (y.1 = x.1)) l
    simp only [F9_c1, e1, e2, e3, cond_true]
    rw [kget_p _ A hA, of_r (by omega) _ l (by omega), hx]
    simp only [Option.bind_some]
    rw [newest_r (by omega) _ (by omega)]
    simp only [Option.bind_some, mkG, mkN, ine_self, cond_false, ieq4', decide_true, Bool.not_true]
    rw [add_in (x := x) (by omega)]
    exact newest_c1 hl hA hg hAB hk r (p ++ [x]) n (by rw [e]; simp) (by omega)
theorem fine_rev (l : List IT) : (∀ x ∈ l.reverse, pairI x = true) ↔ ∀ x ∈ l, pairI x = true := by simp
theorem allV_err (l : List IT) : (allV [] l).2 = 0 ∨ (allV [] l).2 = 2 ∨ (allV [] l).2 = 200 := by
  have : ∀ (l : List IT) (s : List IT × Int), (s.2 = 0 ∨ s.2 = 2 ∨ s.2 = 200) → ((l.foldl stp s).2 = 0 ∨ (l.foldl stp s).2 = 2 ∨ (l.foldl stp s).2 = 200) := by
    intro l
    induction l with
    | nil => intro s h; exact h
    | cons x r ih =>
      intro s h
      refine ih _ ?_
      unfold stp
      by_cases h0 : s.2 = 0
      · rw [decide_eq_true h0]
        simp only [cond_true]
        unfold putV
        cases keepB s.1 && pairI x
        · exact .inr (.inl rfl)
        · simp only [cond_true]
          cases (fnd s.1 x.1).isSome || !decide (24 ≤ s.1.length)
          · exact .inr (.inr rfl)
          · exact .inl rfl
      · rw [decide_eq_false h0]; exact h
  exact this l ([], 0) (.inl rfl)
theorem newest_end {l : List IT} (hl : l.length ≤ 40) (n : Nat) (hn : 100 < n) :
    F9_c0 n l (l.all pairI) (ofN l.length) l.reverse = some true := by
  have hf := fuel_big
  obtain ⟨n, rfl⟩ : ∃ m, n = m + 1 := ⟨n - 1, by omega⟩
  simp only [F9_c0, lt_out, cond_false]
  have ka : keepB (allV [] l).1 = true := stp_keep l ([], 0) keep_nil
  have kb : keepB (allV [] l.reverse).1 = true := stp_keep l.reverse ([], 0) keep_nil
  have la := allV_len [] l (by simp)
  have lb := allV_len [] l.reverse (by simp)
  rw [kall_p (by omega) [] l (by simp) (by omega), kall_p (by omega) [] l.reverse (by simp) (by simp; omega), Option.bind_some, Option.bind_some, kright_p (by omega) (allV [] l).1 (by omega), kright_p (by omega) (allV [] l.reverse).1 (by omega), ka, kb, wakes20]
  simp only [Option.bind_some, Bool.not_true, cond_false]
  cases hp : l.all pairI
  · -- some may not be
    have hnot : ¬ ∀ x ∈ l, pairI x = true := fun h => by rw [List.all_eq_true.2 h] at hp; cases hp
    have ea : (allV [] l).2 ≠ 0 := fun h => hnot (allV_ok l [] keep_nil h).1
    have eb : (allV [] l.reverse).2 ≠ 0 := fun h => hnot ((fine_rev l).1 (allV_ok l.reverse [] keep_nil h).1)
    have ia : ieq (allV [] l).2 0 = false := by rw [ieq_dec]; exact decide_eq_false ea
    have ib : ieq (allV [] l.reverse).2 0 = false := by rw [ieq_dec]; exact decide_eq_false eb
    have ic : ine (allV [] l).2 0 = true := by rw [ine_dec, decide_eq_false ea]; rfl
    simp only [Bool.not_false, cond_true, ia, ib, ic, cond_false]
    by_cases h1 : (allV [] l).2 = 200
    · by_cases h2 : (allV [] l.reverse).2 = 200
      · exfalso
        have a1 := allV_full l [] keep_nil h1
        have a2 := allV_full l.reverse [] keep_nil h2
        simp only [List.length_nil, Nat.sub_zero] at a1 a2
        refine hnot fun x hx => ?_
        obtain ⟨i, hi, e⟩ := List.mem_iff_getElem.1 hx
        by_cases h3 : i < 25
        · obtain ⟨y, h4, h5⟩ := a1 i h3
          rw [List.getElem?_eq_getElem hi, Option.some.injEq] at h4
          rw [← e, h4]; exact h5
        · obtain ⟨y, h4, h5⟩ := a2 (l.length - 1 - i) (by omega)
          rw [List.getElem?_reverse (by omega)] at h4
          have : l.length - 1 - (l.length - 1 - i) = i := by omega
          rw [this, List.getElem?_eq_getElem hi, Option.some.injEq] at h4
          rw [← e, h4]; exact h5
      · rw [ieq_dec, decide_eq_true h1, ieq_dec, decide_eq_false h2]; rfl
    · rw [ieq_dec, decide_eq_false h1]; rfl
  · have hfine : ∀ x ∈ l, pairI x = true := List.all_eq_true.1 hp
    have ea := allV_fine l [] keep_nil hfine
    have eb := allV_fine l.reverse [] keep_nil ((fine_rev l).2 hfine)
    rw [insAll_rev] at eb
    replace ea : (allV [] l).2 = _ := ea
    replace eb : (allV [] l.reverse).2 = _ := eb
    simp only [Bool.not_true, cond_false]
    by_cases h : (insAll [] l).length ≤ 24
    · rw [decide_eq_true h, cond_true] at ea eb
      have fa : (allV [] l).1 = insAll [] l := by
        have := (allV_ok l [] keep_nil ea).2
        exact congrArg Prod.fst this
      have fb : (allV [] l.reverse).1 = insAll [] l := by
        have := (allV_ok l.reverse [] keep_nil eb).2
        rw [insAll_rev] at this
        exact congrArg Prod.fst this
      rw [ea, eb]
      simp only [ine_self, cond_false]
      rw [fa, fb]
      rw [fa] at ka la
      refine newest_c1 hl (by omega) (fun x hx => ?_) rfl ?_ l [] n rfl (by omega)
      · have h1 := insAll_fnd l srt_nil x.1
        obtain ⟨z, h2, h3⟩ := nw_first (l := l.filter fun y => decide (y.1 = x.1)) (fun y hy => hfine y (List.mem_filter.1 hy).1) (fun e => by
          have : x ∈ l.filter fun y => decide (y.1 = x.1) := List.mem_filter.2 ⟨hx, by simp⟩
          rw [e] at this; simp at this) zIT
        rw [fnd_nil, h3] at h1
        unfold getV
        rw [ka, h1, h2]; rfl
      · have := congrArg List.length (keys_ins l [])
        rw [List.length_map] at this
        exact this
    · rw [decide_eq_false h, cond_false] at ea eb
      rw [ea, eb]; rfl
theorem newest_c0 {l : List IT} (hl : l.length ≤ 40) : ∀ (r p : List IT) (n : Nat), l = p ++ r → r.length + 200 < n → F9_c0 n l (p.all pairI) (ofN p.length) p.reverse = some true
  | [], p, n, e, h => by
    rw [List.append_nil] at e; subst e
    exact newest_end hl n (by simp at h; omega)
  | _ :: _, _, 0, _, h => by omega
  | x :: r, p, n + 1, e, h => by
    have hp : p.length ≤ 40 := by rw [e] at hl; simp at hl; omega
    have e1 : ilt (ofN p.length) (ofN l.length) = true := by rw [e]; exact lt_in
    have e2 : inb (ofN p.length) l.length = true := by rw [e]; exact inb_in
    have e3 : l.getD (ofN p.length).toNat (ByteArray.empty, 0, 0, false) = x := by rw [e]; exact get_in
    simp only [List.length_cons] at h
    have ih := newest_c0 hl r (p ++ [x]) n (by rw [e]; simp) (by omega)
    simp only [F9_c0, e1, e2, e3, cond_true, pair_r, Option.bind_some]
    rw [room_all (by simp; omega) (by decide), cond_true, add_in (x := x) (by omega)]
    have e4 : (p ++ [x]).all pairI = (p.all pairI && pairI x) := by simp
    have e5 : (p ++ [x]).reverse = [x] ++ p.reverse := by simp
    rw [e4, e5] at ih
    cases hp : p.all pairI
    · rw [hp] at ih; exact ih
    · rw [hp] at ih; exact ih
theorem plain_KeepNewest {n : Nat} (l : List IT) (hn : 2000 < n) : F9 n l = some true := by
  have hf := fuel_big
  unfold F9
  obtain ⟨b1, e1, h1⟩ := igreat_r (n := FUEL) (by omega) l
  rw [e1, wakes20]
  cases b1
  · have := h1 rfl
    exact newest_c0 this l [] n rfl (by omega)
  · rfl

/-! ### Put. -/
theorem put_c0 {k o : List IT} {a : ByteArray} {v w : Int} {g : Bool} (hk : k.length ≤ 40) (ho : o.length < 900) (hg : ∀ x ∈ k, x.1 ≠ a → getV o x.1 = (x, 0)) : ∀ (r p : List IT) (n : Nat), k = p ++ r → r.length < n → F10_c0 n k (ofN p.length) a v w g o = some true
  | _, _, 0, _, h => by omega
  | [], p, n + 1, e, _ => by
    rw [List.append_nil] at e; subst e
    simp only [F10_c0, lt_out, cond_false, wakes20]; rfl
  | x :: r, p, n + 1, e, h => by
    have hp : p.length ≤ 40 := by rw [e] at hk; simp at hk; omega
    have e1 : ilt (ofN p.length) (ofN k.length) = true := by rw [e]; exact lt_in
    have e2 : inb (ofN p.length) k.length = true := by rw [e]; exact inb_in
    have e3 : k.getD (ofN p.length).toNat (ByteArray.empty, 0, 0, false) = x := by rw [e]; exact get_in
    simp only [List.length_cons] at h
    have ih := put_c0 (v := v) (w := w) (g := g) hk ho hg r (p ++ [x]) n (by rw [e]; simp) (by omega)
    simp only [F10_c0, e1, e2, e3, cond_true, stne, steq_toList]
    rw [kget_p _ o ho, Option.bind_some, add_in (x := x) (by omega), ih]
    by_cases hx : x.1 = a
    · rw [decide_eq_true hx]; rfl
    · rw [decide_eq_false hx, hg x (by rw [e]; simp) hx]
      simp only [Bool.not_false, cond_true, mkG, ine_self, cond_false, ieq4', decide_true, Bool.not_true]
theorem plain_KeepPut {n : Nat} (k : List IT) (a : ByteArray) (v w : Int) (g : Bool) (hn : 2000 < n) : F10 n k a v w g = some true := by
  have hf := fuel_big
  unfold F10
  obtain ⟨b1, e1, h1⟩ := igreat_r (n := FUEL) (by omega) k
  obtain ⟨b2, e2, h2⟩ := igreat_r (n := FUEL) (by omega) [((a, v, w, g) : IT)]
  rw [e1, e2, wakes20]
  simp only [Option.bind_some]
  cases b1
  · cases b2
    · have h1 := h1 rfl
      simp only [cond_false]
      rw [kright_r (by omega) k (by omega), Option.bind_some]
      cases hk : keepB k
      · rfl
      · obtain ⟨kl, kf, ks⟩ := (keepB_iff k).1 hk
        simp only [Bool.not_true, cond_false]
        have hpl := putV_len k (a, v, w, g) (by omega)
        have hpk := putV_keep (a, v, w, g) hk
        rw [kown_r _ k (by omega), kput_p (by omega) k (by omega), kget_p _ k (by omega), Option.bind_some, Option.bind_some, Option.bind_some, items_r (by omega) k k (by omega), Option.bind_some, decide_eq_true rfl, kright_p (by omega) (putV k (a, v, w, g)).1 (by omega), hpk]
        simp only [Option.bind_some, Bool.not_true, cond_false, pair_r]
        have hg1 : getV k a = (match fnd k a with | some x => (x, 0) | none => (zIT, 201)) := by unfold getV; rw [hk]; rfl
        rcases putV_cases (a, v, w, g) hk with ⟨c1, c2⟩ | ⟨c1, c2, c3, c4⟩ | ⟨c1, c3, c4⟩
        · have c1' : pairB a v w = false := c1
          rw [c2]
          have e3 : ine ((2 : Int)) 0 = true := rfl
          simp only [e3, cond_true, c1', cond_false]
          rw [items_r (by omega) k k (by omega)]
          simp; rfl
        · have c1' : pairB a v w = true := c1
          have c2' : fnd k a = none := c2
          rw [c4]
          have e3 : ine ((200 : Int)) 0 = true := rfl
          rw [c2'] at hg1
          simp only [e3, cond_true, c1', hg1, mkG, ieq_self]
          rw [items_r (by omega) k k (by omega), c3]
          simp; rfl
        · have c1' : pairB a v w = true := c1
          rw [c4] at hpk hpl ⊢
          replace hpk : keepB (ins (a, v, w, g) k) = true := hpk
          replace hpl : (ins (a, v, w, g) k).length < 900 := hpl
          have hil := ins_len (a, v, w, g) ks
          have hif := ins_fnd (a, v, w, g) ks
          have e3 : ine ((0 : Int)) 0 = false := rfl
          simp only [e3, cond_false]
          have hloop := put_c0 (k := k) (o := ins (a, v, w, g) k) (a := a) (v := v) (w := w) (g := g) h1 hpl (fun x hx hxa => by
            unfold getV; rw [hpk, hif x.1, if_neg (fun e => hxa e.symm), fnd_of_mem ks hx]; rfl) k [] n rfl (by omega)
          have hloop' : F10_c0 n k 0 a v w g (ins (a, v, w, g) k) = some true := hloop
          have hgo : getV (ins (a, v, w, g) k) a = (mx (fnd k a) (a, v, w, g), 0) := by
            unfold getV; rw [hpk, hif a, if_pos rfl]; rfl
          rw [kget_p _ _ hpl, hgo]
          have c3' : (fnd k a).isSome = true ∨ k.length < 24 := c3
          have hil' : (ins (a, v, w, g) k).length = if (fnd k a).isSome = true then k.length else k.length + 1 := hil
          have e9 : ∀ m : Nat, m < 900 → iadd .i64 (ofN m) 1 = ofN (m + 1) := fun m hm => by simp only [iadd, ofN]; rw [wrap_mid (by omega) (by omega)]; omega
          rw [e9 _ (by omega)]
          cases hfk : fnd k a with
          | none =>
            rw [hfk] at hg1 hil'
            have e4 : (ieq (201 : Int) 0) = false := rfl
            have e5 : bneb (ieq (201 : Int) 0) (ieq (ofN (ins (a, v, w, g) k).length) (ofN k.length)) = false := by
              rw [hil', e4, ieq_dec]; simp [bneb, ofN]; omega
            have e6 : igt (ofN (ins (a, v, w, g) k).length) (ofN (k.length + 1)) = false := by
              rw [hil']; exact decide_eq_false (by simp only [ofN]; simp)
            simp only [hg1, mkG, Option.bind_some, e5]
            simp only [e4, e6, cond_false, mx, ine_self, ieq4', decide_true, Bool.not_true, hloop']
          | some old =>
            rw [hfk] at hg1 hil'
            have e4 : (ieq (0 : Int) 0) = true := rfl
            have e5 : bneb (ieq (0 : Int) 0) (ieq (ofN (ins (a, v, w, g) k).length) (ofN k.length)) = false := by
              rw [hil', e4, ieq_dec]; simp [bneb]
            have e6 : igt (ofN (ins (a, v, w, g) k).length) (ofN (k.length + 1)) = false := by
              rw [hil']; exact decide_eq_false (by simp only [ofN, Option.isSome_some, if_true]; omega)
            simp only [hg1, mkG, Option.bind_some, e5, newer_r]
            simp only [e4, e6, cond_false, cond_true, mx, ine_self]
            show (bif (!newI (a, v, w, g) old) then _ else _) = _
            cases newI (a, v, w, g) old
            · simp only [Bool.not_false, cond_true, cond_false, ieq4', decide_true, Bool.not_true, hloop']
            · simp only [Bool.not_true, cond_false, cond_true, ieq4', decide_true, hloop']
    · rfl
  · rfl

/-! ### Round. -/
def atOf (p : List IT) : ByteArray := match p.getLast? with | none => ByteArray.empty | some y => y.1
theorem atOf_snoc (p : List IT) (x : IT) : atOf (p ++ [x]) = x.1 := by simp [atOf]
theorem klt_empty {x : IT} (h : pairI x = true) : klt ByteArray.empty x.1 = true := by
  obtain ⟨⟨⟨l⟩⟩, v, w, g⟩ := x
  cases l with
  | nil => simp [pairI, pairB, isKeyB, ByteArray.size] at h
  | cons b r => rfl
theorem bhd_at {k p r : List IT} (hk : keepB k = true) (e : k = p ++ r) : bhd (atOf p) k = r.head? := by
  obtain ⟨_, kf, ks⟩ := (keepB_iff k).1 hk
  rcases List.eq_nil_or_concat p with rfl | ⟨q, y, rfl⟩
  · rw [List.nil_append] at e
    subst e
    cases k with
    | nil => rfl
    | cons x t =>
      unfold bhd
      rw [List.find?_cons, show klt (atOf []) x.1 = true from klt_empty (kf x (by simp))]; rfl
  · rw [List.concat_eq_append, List.append_assoc, List.singleton_append] at e
    rw [List.concat_eq_append, atOf_snoc]
    have ks' := ks
    rw [e] at ks'
    obtain ⟨s1, s2, s3⟩ := List.pairwise_append.1 ks'
    rw [e, bhd_app fun z hz => s3 z hz y (by simp)]
    unfold bhd
    rw [List.find?_cons, klt_irr]
    cases r with
    | nil => rfl
    | cons x t => rw [List.find?_cons, srt_head s2 x (by simp)]; rfl
theorem round_c1 {z : IT} {t : List IT} {key : ByteArray} {Y : IT} (hl : (z :: t).length < 900) (h1 : ∀ x ∈ z :: t, klt key x.1 = true → klt key Y.1 = true ∧ klt x.1 Y.1 = false) (h2 : klt key Y.1 = true ∨ Y = z) :
    ∀ (r p : List IT) (n : Nat), z :: t = p ++ r → r.length < n → F11_c1 n (z :: t) key (ofN p.length) z.1 z.2.1 z.2.2.1 z.2.2.2 Y.1 Y.2.1 Y.2.2.1 Y.2.2.2 = some true
  | _, _, 0, _, h => by omega
  | [], p, n + 1, e, _ => by
    rw [List.append_nil] at e
    have e1 : ilt (ofN p.length) (ofN (z :: t).length) = false := by rw [e]; exact lt_out
    have e2 : inb 0 (z :: t).length = true := by simp [inb]
    have e3 : ∀ d : IT, (z :: t).getD (Int.toNat 0) d = z := fun _ => rfl
    simp only [F11_c1, e1, e2, e3, cond_true, cond_false, ieq4, decide_true, stgt_k, wakes20]
    rcases h2 with h2 | h2
    · rw [h2]; rfl
    · rw [decide_eq_true h2]; cases klt key Y.1 <;> rfl
  | x :: r, p, n + 1, e, h => by
    have hp : p.length < 900 := by rw [e] at hl; simp at hl; omega
    have e1 : ilt (ofN p.length) (ofN (z :: t).length) = true := by rw [e]; exact lt_in
    have e2 : inb (ofN p.length) (z :: t).length = true := by rw [e]; exact inb_in
    have e3 : ∀ d, (z :: t).getD (ofN p.length).toNat d = x := fun d => by rw [e]; exact get_in
    simp only [List.length_cons] at h
    have ih := round_c1 hl h1 h2 r (p ++ [x]) n (by rw [e]; simp) (by omega)
    simp only [F11_c1, e1, e2, e3, cond_true, stgt_k, stle_k, stlt_k]
    rw [add_in (x := x) (by omega), ih]
    cases hx : klt key x.1
    · rfl
    · obtain ⟨k1, k2⟩ := h1 x (by rw [e]; simp) hx
      rw [k1, k2]; rfl
theorem round_c0 {k : List IT} {key : ByteArray} (hk : keepB k = true) (hl : k.length < 900) : ∀ (r p : List IT) (n : Nat), k = p ++ r → r.length + 1000 < n → F11_c0 n k key (atOf p) (ofN p.length) = some true
  | _, _, 0, _, h => by omega
  | [], p, n + 1, e, h => by
    have hb := bhd_at hk e
    rw [List.append_nil] at e
    subst e
    simp only [F11_c0, lt_out, cond_false]
    rw [knext_p _ k hl, knext_p _ k hl]
    simp only [Option.bind_some]
    cases k with
    | nil =>
      have e1 : ∀ q, nxtV [] q = (zIT, false) := fun _ => rfl
      rw [wakes20]
      simp only [e1, mkN, steq_self, ieq_self, beqb_self]; rfl
    | cons z t =>
      obtain ⟨_, kf, ks⟩ := (keepB_iff _).1 hk
      have e1 : nxtV (z :: t) (atOf (z :: t)) = (z, true) := by unfold nxtV; rw [hk]; simp only [cond_true, hb]; rfl
      have e2 : igt (ofN (z :: t).length) 0 = true := by simp [igt, ofN]
      obtain ⟨Y, e3, e4, e5⟩ : ∃ Y, nxtV (z :: t) key = (Y, true) ∧ (∀ x ∈ z :: t, klt key x.1 = true → klt key Y.1 = true ∧ klt x.1 Y.1 = false) ∧ (klt key Y.1 = true ∨ Y = z) := by
        unfold nxtV
        rw [hk]
        simp only [cond_true]
        cases hf : bhd key (z :: t) with
        | none =>
          refine ⟨z, rfl, fun x hx h => ?_, .inr rfl⟩
          have := List.find?_eq_none.1 hf x hx
          exact absurd h this
        | some y =>
          have hy := List.find?_some hf
          refine ⟨y, rfl, fun x hx h => ⟨hy, ?_⟩, .inl hy⟩
          obtain ⟨_, us, ws, he, ha⟩ := List.find?_eq_some_iff_append.1 hf
          rw [he] at hx ks
          rcases List.mem_append.1 hx with hx | hx
          · have := ha x hx; rw [h] at this; cases this
          · rcases List.mem_cons.1 hx with hx | hx
            · rw [hx]; exact klt_irr _
            · exact klt_asym (srt_head (List.pairwise_append.1 ks).2.1 x hx)
      rw [e1, e2, e3]
      have e6 : bneb true true = false := rfl
      simp only [mkN, e6, cond_false, Bool.not_true]
      exact round_c1 hl e4 e5 (z :: t) [] n rfl (by simp only [List.length_nil] at h; omega)
  | x :: r, p, n + 1, e, h => by
    have hb := bhd_at hk e
    have hp : p.length < 900 := by rw [e] at hl; simp at hl; omega
    have e1 : ilt (ofN p.length) (ofN k.length) = true := by rw [e]; exact lt_in
    have e2 : inb (ofN p.length) k.length = true := by rw [e]; exact inb_in
    have e3 : ∀ d, k.getD (ofN p.length).toNat d = x := fun d => by rw [e]; exact get_in
    have e4 : nxtV k (atOf p) = (x, true) := by
      cases k with
      | nil => simp at e
      | cons z t => unfold nxtV; rw [hk]; simp only [cond_true, hb]; rfl
    simp only [List.length_cons] at h
    have ih := round_c0 (key := key) hk hl r (p ++ [x]) n (by rw [e]; simp) (by omega)
    simp only [F11_c0, e1, e2, e3, cond_true]
    rw [knext_p _ k hl, e4, Option.bind_some, add_in (x := x) (by omega)]
    rw [atOf_snoc] at ih
    simp only [mkN, Bool.not_true, cond_false, ieq4, decide_true, ih]
theorem plain_KeepRound {n : Nat} (k : List IT) (key : ByteArray) (hn : 2000 < n) : F11 n k key = some true := by
  have hf := fuel_big
  unfold F11
  obtain ⟨b1, e1, h1⟩ := igreat_r (n := FUEL) (by omega) k
  rw [e1, wakes20, Option.bind_some]
  cases b1
  · have h1 := h1 rfl
    rw [cond_false, kright_r (by omega) k (by omega), Option.bind_some]
    cases hk : keepB k
    · rfl
    · cases igt (stlen key) 100
      · exact round_c0 hk (by omega) k [] n rfl (by omega)
      · rfl
  · rfl

/-! ### In two goes. -/
theorem putV_grows {k : List IT} (hk : keepB k = true) (x : IT) : k.length ≤ (putV k x).1.length ∧ ∀ key a, fnd k key = some a → ∃ z, fnd (putV k x).1 key = some z ∧ newI a z = false := by
  have ks := ((keepB_iff k).1 hk).2.2
  rcases putV_cases x hk with ⟨_, c⟩ | ⟨_, _, _, c⟩ | ⟨_, _, c⟩
  · rw [c]; exact ⟨Nat.le_refl _, fun key a h => ⟨a, h, newI_irr a⟩⟩
  · rw [c]; exact ⟨Nat.le_refl _, fun key a h => ⟨a, h, newI_irr a⟩⟩
  · rw [c]
    have h1 := ins_len x ks
    refine ⟨by show _ ≤ (ins x k).length; rw [h1]; split <;> omega, fun key a h => ?_⟩
    show ∃ z, fnd (ins x k) key = some z ∧ _
    rw [ins_fnd x ks key, h]
    by_cases hx : x.1 = key
    · rw [if_pos hx]
      refine ⟨_, rfl, ?_⟩
      show newI a (bif newI x a then x else a) = false
      cases h2 : newI x a
      · exact newI_irr a
      · exact newI_asym h2
    · rw [if_neg hx]; exact ⟨a, rfl, newI_irr a⟩
theorem stp_grows : ∀ (l : List IT) (s : List IT × Int), keepB s.1 = true → s.1.length ≤ (l.foldl stp s).1.length ∧ ∀ key a, fnd s.1 key = some a → ∃ z, fnd (l.foldl stp s).1 key = some z ∧ newI a z = false
  | [], s, _ => ⟨Nat.le_refl _, fun key a h => ⟨a, h, newI_irr a⟩⟩
  | x :: r, s, hk => by
    obtain ⟨h1, h2⟩ := putV_grows hk x
    obtain ⟨h3, h4⟩ := stp_grows r (stp s x) (putV_keep x hk)
    refine ⟨Nat.le_trans h1 h3, fun key a h => ?_⟩
    obtain ⟨z, h5, h6⟩ := h2 key a h
    obtain ⟨y, h7, h8⟩ := h4 key z h5
    exact ⟨y, h7, newI_ntrans h6 h8⟩
theorem all_c0 {k b : List IT} (hk : k.length ≤ 40) (hb : b.length < 900) (hg : ∀ x ∈ k, ∃ z, getV b x.1 = (z, 0) ∧ newI x z = false) : ∀ (r p : List IT) (n : Nat), k = p ++ r → r.length < n → F12_c0 n k (ofN p.length) b = some true
  | _, _, 0, _, h => by omega
  | [], p, n + 1, e, _ => by
    rw [List.append_nil] at e; subst e
    simp only [F12_c0, lt_out, cond_false, wakes20]; rfl
  | x :: r, p, n + 1, e, h => by
    have hp : p.length ≤ 40 := by rw [e] at hk; simp at hk; omega
    have e1 : ilt (ofN p.length) (ofN k.length) = true := by rw [e]; exact lt_in
    have e2 : inb (ofN p.length) k.length = true := by rw [e]; exact inb_in
    have e3 : k.getD (ofN p.length).toNat (ByteArray.empty, 0, 0, false) = x := by rw [e]; exact get_in
    simp only [List.length_cons] at h
    have ih := all_c0 hk hb hg r (p ++ [x]) n (by rw [e]; simp) (by omega)
    obtain ⟨z, h1, h2⟩ := hg x (by rw [e]; simp)
    simp only [F12_c0, e1, e2, e3, cond_true]
    rw [kget_p _ b hb, h1, Option.bind_some, add_in (x := x) (by omega), ih]
    simp only [mkG, ine_self, cond_false, newer_ri, Option.bind_some, h2]
theorem plain_KeepAll {n : Nat} (k l m : List IT) (hn : 2000 < n) : F12 n k l m = some true := by
  have hf := fuel_big
  unfold F12
  obtain ⟨b1, e1, h1⟩ := igreat_r (n := FUEL) (by omega) k
  obtain ⟨b2, e2, h2⟩ := igreat_r (n := FUEL) (by omega) l
  obtain ⟨b3, e3, h3⟩ := igreat_r (n := FUEL) (by omega) m
  rw [e1, e2, e3, wakes20]
  simp only [Option.bind_some]
  cases b1
  · have h1 := h1 rfl
    rw [cond_false, kright_r (by omega) k (by omega), Option.bind_some]
    cases hk : keepB k
    · rfl
    · cases b2
      · cases b3
        · have h2 := h2 rfl
          have h3 := h3 rfl
          simp only [Bool.not_true, cond_false]
          cases igt (ofN l.length) 20
          · cases igt (ofN m.length) 20
            · have la := allV_len k l (by omega)
              have lb := allV_len (allV k l).1 m la
              have ka : keepB (allV k l).1 = true := stp_keep l (k, 0) hk
              have kb : keepB (allV (allV k l).1 m).1 = true := stp_keep m ((allV k l).1, 0) ka
              have e5 : (allV k (l ++ m)).1 = (allV (allV k l).1 m).1 := by
                unfold allV
                rw [List.foldl_append]
                exact stp_fst m _ _ _
              obtain ⟨g1, g2⟩ := stp_grows l (k, 0) hk
              obtain ⟨g3, g4⟩ := stp_grows m ((allV k l).1, 0) ka
              have g5 : k.length ≤ (allV (allV k l).1 m).1.length := Nat.le_trans g1 g3
              have hloop := all_c0 (k := k) (b := (allV (allV k l).1 m).1) h1 lb (fun x hx => by
                obtain ⟨z, i1, i2⟩ := g2 x.1 x (fnd_of_mem ((keepB_iff k).1 hk).2.2 hx)
                obtain ⟨y, i3, i4⟩ := g4 x.1 z i1
                refine ⟨y, ?_, newI_ntrans i2 i4⟩
                unfold getV
                have i3' : fnd (allV (allV k l).1 m).1 x.1 = some y := i3
                rw [kb, i3']; rfl) k [] n rfl (by omega)
              have hloop' : F12_c0 n k 0 (allV (allV k l).1 m).1 = some true := hloop
              have e6 : ilt (ofN (allV (allV k l).1 m).1.length) (ofN k.length) = false := decide_eq_false (by simp only [ofN]; omega)
              simp only [cond_false]
              rw [room_all (by simp; omega) (by decide), room_all (by simp; omega) (by decide), kall_p (by omega) k l (by omega) (by omega), Option.bind_some, kall_p (by omega) _ m la (by omega), List.nil_append, kall_p (by omega) k (l ++ m) (by omega) (by simp; omega)]
              simp only [Option.bind_some, cond_true, e5]
              rw [items_r (by omega) _ _ (by omega), kright_p (by omega) (allV (allV k l).1 m).1 (by omega), kb]
              simp only [Option.bind_some, decide_true, Bool.not_true, cond_false, e6, hloop']
              by_cases h0 : (allV k l).2 = 0
              · have e7 : (allV k (l ++ m)).2 = (allV (allV k l).1 m).2 := by
                  have : allV k l = ((allV k l).1, 0) := Prod.ext rfl h0
                  unfold allV at this ⊢
                  rw [List.foldl_append, this]
                have e8 : ieq (allV k l).2 0 = true := by rw [ieq_dec]; exact decide_eq_true h0
                have e9 : ine (allV k l).2 0 = false := by rw [ine_dec, decide_eq_true h0]; rfl
                rw [e7, e8, e9, ine_self]; rfl
              · have e7 : (allV k (l ++ m)).2 = (allV k l).2 := by
                  unfold allV at h0 ⊢
                  rw [List.foldl_append]
                  exact stp_err m _ h0
                have e8 : ieq (allV k l).2 0 = false := by rw [ieq_dec]; exact decide_eq_false h0
                have e9 : ine (allV k l).2 0 = true := by rw [ine_dec, decide_eq_false h0]; rfl
                rw [e7, e8, e9, ine_self]; rfl
            · rfl
          · rfl
        · rfl
      · rfl
  · rfl
end Go.Proofs.Ythaomidjgadieaa
