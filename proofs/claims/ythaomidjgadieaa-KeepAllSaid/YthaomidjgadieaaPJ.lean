/-
  In plain words: what keeps answer.
-/
import Derived.Test.YthaomidjgadieaaPK
namespace Go.Proofs.Ythaomidjgadieaa
open Go Go.RowKit

abbrev zIT : IT := (ByteArray.empty, 0, 0, false)
theorem cap_ok {m : Nat} (h : m < 1000) : (inn 0 && ile 0 (ofN m) && decide (ofN m * 40 ≤ 281474976710656) && decide (ofN m ≤ 9223372036854775807)) = true :=
  Bool.and_eq_true_iff.2 ⟨Bool.and_eq_true_iff.2 ⟨Bool.and_eq_true_iff.2 ⟨decide_eq_true (by decide), decide_eq_true (by simp only [ofN]; omega)⟩, decide_eq_true (by simp only [ofN]; omega)⟩, decide_eq_true (by simp only [ofN]; omega)⟩
theorem inb_ofN {i m : Nat} (h : i < m) : inb (ofN i) m = true := Bool.and_eq_true_iff.2 ⟨decide_eq_true (by simp only [ofN]; omega), decide_eq_true (by simp only [ofN]; omega)⟩

/-! ### Great, Own, Items. -/
theorem igreat_c : ∀ (r p : List IT) (n : Nat), 42 < n + p.length → p.length ≤ 41 → ∃ b, F30_c0 n (p ++ r) (ofN p.length) = some b ∧ (b = false → (p ++ r).length ≤ 40)
  | _, _, 0, h, h' => by omega
  | [], p, n + 1, _, _ => by
    simp only [F30_c0, List.append_nil, lt_out, cond_false]
    refine ⟨_, rfl, fun h => ?_⟩
    simp [igt, ofN] at h; omega
  | x :: r, p, n + 1, h, h' => by
    simp only [F30_c0, lt_in, inb_in, get_in, cond_true]
    by_cases hp : p.length ≤ 40
    · rw [show ile (ofN p.length) 40 = true from decide_eq_true (by simp only [ofN]; omega), cond_true]
      cases igt (stlen x.1) 100
      · rw [cond_false, add_in (x := x) (by omega)]
        obtain ⟨b, h1, h2⟩ := igreat_c r (p ++ [x]) n (by simp; omega) (by simp; omega)
        rw [← in_eq] at h1 h2
        exact ⟨b, h1, h2⟩
      · exact ⟨true, rfl, by simp⟩
    · rw [show ile (ofN p.length) 40 = false from decide_eq_false (by simp only [ofN]; omega), cond_false]
      refine ⟨_, rfl, fun h => ?_⟩
      simp [igt, ofN] at h; simp; omega
theorem igreat_r {n : Nat} (hn : 2000 < n) (l : List IT) : ∃ b, F30 n l = some b ∧ (b = false → l.length ≤ 40) := by
  unfold F30
  simpa [ofN] using igreat_c l [] n (by simp; omega) (by simp)
theorem kown_c : ∀ (r p : List IT) (n : Nat) (a : List IT), r.length < n → (p ++ r).length < 1000 → a.length + r.length < 1000 → F43_c0 n (p ++ r) (ofN (p ++ r).length) (ofN p.length) a = some (a ++ r)
  | _, _, 0, _, h, _, _ => by omega
  | [], p, n + 1, a, _, _, _ => by
    simp only [F43_c0, List.append_nil, lt_out, cond_false]
  | x :: r, p, n + 1, a, h, hb, ha => by
    simp only [F43_c0, lt_in, inb_in, get_in, cond_true]
    simp only [List.length_append, List.length_cons] at h hb ha
    rw [room_all (by simp; omega) (by decide), cond_true, add_in (x := x) (by omega)]
    have h1 := kown_c r (p ++ [x]) n (a ++ [x]) (by omega) (by simp; omega) (by simp; omega)
    rw [← in_eq] at h1
    simpa using h1
theorem kown_p {n : Nat} (hn : 2000 < n) (l : List IT) (h : l.length < 1000) : F43 n l = some l := by
  unfold F43
  cases l with
  | nil => rfl
  | cons x r =>
    have e1 : ieq (ofN (x :: r).length) 0 = false := by simp [ieq, ofN]; omega
    have e2 : (inn 0 && ile 0 (ofN (x :: r).length) && decide (ofN (x :: r).length * 40 ≤ 281474976710656) && decide (ofN (x :: r).length ≤ 9223372036854775807)) = true := cap_ok h
    rw [e1, e2, cond_false, cond_true]
    have := kown_c (x :: r) [] n [] (by omega) (by simpa using h) (by simpa using h)
    simpa [ofN] using this
theorem kown_r (n : Nat) (l : List IT) (h : l.length < 1000) : F47 n l = some l := by
  unfold F47
  rw [room_all (by omega) (by decide)]; rfl
theorem ieq4 (a b : IT) : (steq a.1 b.1 && ((ieq a.2.1 b.2.1) && ((ieq a.2.2.1 b.2.2.1) && ((beqb a.2.2.2 b.2.2.2) && true)))) = decide (a = b) := by
  obtain ⟨a1, a2, a3, a4⟩ := a; obtain ⟨b1, b2, b3, b4⟩ := b
  simp only [steq_dec, ieq_dec, beqb_dec, Bool.and_true]
  grind
theorem ieq4' (a1 : ByteArray) (a2 a3 : Int) (a4 : Bool) (b1 : ByteArray) (b2 b3 : Int) (b4 : Bool) : (steq a1 b1 && ((ieq a2 b2) && ((ieq a3 b3) && ((beqb a4 b4) && true)))) = decide (((a1, a2, a3, a4) : IT) = (b1, b2, b3, b4)) := ieq4 (a1, a2, a3, a4) (b1, b2, b3, b4)
theorem items_c : ∀ (r s p q : List IT) (n : Nat), r.length < n → p.length = q.length → r.length = s.length → (p ++ r).length ≤ 9223372036854775807 → F36_c0 n (p ++ r) (q ++ s) (ofN p.length) = some (decide (r = s))
  | _, _, _, _, 0, h, _, _, _ => by omega
  | [], [], p, q, n + 1, _, _, _, _ => by simp only [F36_c0, List.append_nil, lt_out, cond_false]; rfl
  | x :: r, y :: s, p, q, n + 1, h, hp, hs, hb => by
    have e1 : inb (ofN p.length) (q ++ y :: s).length = true := by rw [hp]; exact inb_in
    have e2 : ∀ d, (q ++ y :: s).getD (ofN p.length).toNat d = y := fun d => by rw [hp]; exact get_in
    simp only [F36_c0, lt_in, inb_in, get_in, cond_true, e1, e2]
    simp only [List.length_append, List.length_cons] at h hb hs
    rw [add_in (x := x) (by omega), ieq4]
    have h1 := items_c r s (p ++ [x]) (q ++ [y]) n (by omega) (by simp [hp]) (by omega) (by simp; omega)
    rw [← in_eq, ← in_eq] at h1
    rw [h1]
    by_cases hxy : x = y
    · subst hxy; simp
    · rw [decide_eq_false hxy]; simp [hxy]
theorem items_r {n : Nat} (hn : 2000 < n) (l m : List IT) (h : l.length < 1000) : F36 n l m = some (decide (l = m)) := by
  unfold F36
  by_cases hl : l.length = m.length
  · have e : ine (ofN l.length) (ofN m.length) = false := by simp [ine, ofN, hl]
    rw [e, cond_false]
    simpa [ofN] using items_c l m [] [] n (by omega) rfl hl (by simp; omega)
  · have e : ine (ofN l.length) (ofN m.length) = true := by simp [ine, ofN]; omega
    rw [e, cond_true, decide_eq_false (fun hh => hl (by rw [hh]))]

/-! ### Right. -/
theorem rk2_app (q : List IT) (y x : IT) (r : List IT) : (match (q ++ [y]).getLast? with | none => true | some z => klt z.1 x.1) = klt y.1 x.1 := by simp
theorem rk2_step (p : List IT) (x : IT) (r : List IT) : rk2 (p.getLast?.map Prod.fst) (x :: r) = (pairI x && ((match p.getLast?.map Prod.fst with | none => true | some q => klt q x.1) && rk2 ((p ++ [x]).getLast?.map Prod.fst) r)) := by
  simp only [rk2, List.getLast?_append, List.getLast?_singleton, Option.map_some, Option.some_or]
  cases p.getLast? <;> rfl
theorem kright_c : ∀ (r p : List IT) (n : Nat), r.length < n → (p ++ r).length < 1000 → F41_c0 n (p ++ r) (ofN (p ++ r).length) (ofN p.length) (p ++ r) false = some (rk2 (p.getLast?.map Prod.fst) r)
  | _, _, 0, h, _ => by omega
  | [], p, n + 1, _, _ => by simp only [F41_c0, List.append_nil, lt_out, cond_false]; simp [rk2]
  | x :: r, p, n + 1, h, hb => by
    simp only [F41_c0, lt_in, inb_in, get_in, cond_true, pair_p, Option.bind_some]
    simp only [List.length_append, List.length_cons] at h hb
    have h1 := kright_c r (p ++ [x]) n (by omega) (by simp; omega)
    rw [← in_eq] at h1
    rw [rk2_step, add_in (x := x) (by omega), h1]
    show (bif (!pairI x) then _ else _) = _
    cases pairI x
    · rfl
    · simp only [Bool.not_true, cond_false, Bool.true_and]
      rcases List.eq_nil_or_concat p with rfl | ⟨q, y, rfl⟩
      · rfl
      · rw [List.concat_eq_append] at *
        have e1 : igt (ofN (q ++ [y]).length) 0 = true := by simp [igt, ofN]
        have e3 : q ++ [y] ++ x :: r = q ++ y :: (x :: r) := by simp
        rw [e1, cond_true, sub_in (by simp at hb; omega), e3, inb_in, get_in, stge_k]
        simp only [cond_true, List.getLast?_append, List.getLast?_singleton, Option.map_some, Option.some_or]
        cases klt y.1 x.1 <;> rfl
theorem kright_p {n : Nat} (hn : 2000 < n) (k : List IT) (h : k.length < 1000) : F41 n k = some (keepB k) := by
  unfold F41 keepB
  have e : igt (ofN k.length) 24 = !decide (k.length ≤ 24) := by rw [← decide_not]; unfold igt ofN; apply decide_eq_decide.2; omega
  have := kright_c k [] n (by omega) (by simpa using h)
  simp only [List.nil_append, List.length_nil] at this
  rw [e, show (0 : Int) = ofN 0 from rfl, this]
  cases decide (k.length ≤ 24) <;> rfl
theorem kright_rc : ∀ (r p : List IT) (n : Nat), r.length < n → (p ++ r).length < 1000 → F42_c0 n (p ++ r) (ofN p.length) = some (rk2 (p.getLast?.map Prod.fst) r && decide ((p ++ r).length ≤ 24))
  | _, _, 0, h, _ => by omega
  | [], p, n + 1, _, _ => by
    simp only [F42_c0, List.append_nil, lt_out, cond_false, rk2, Bool.true_and]
    congr 1; unfold ile ofN; apply decide_eq_decide.2; omega
  | x :: r, p, n + 1, h, hb => by
    simp only [F42_c0, lt_in, inb_in, get_in, cond_true, pair_r, Option.bind_some]
    simp only [List.length_append, List.length_cons] at h hb
    have h1 := kright_rc r (p ++ [x]) n (by omega) (by simp; omega)
    rw [← in_eq] at h1
    rw [rk2_step, add_in (x := x) (by omega), h1]
    show (bif (!pairI x) then _ else _) = _
    cases pairI x
    · rfl
    · simp only [Bool.not_true, cond_false, Bool.true_and]
      rcases List.eq_nil_or_concat p with rfl | ⟨q, y, rfl⟩
      · rfl
      · rw [List.concat_eq_append] at *
        have e1 : igt (ofN (q ++ [y]).length) 0 = true := by simp [igt, ofN]
        have e3 : q ++ [y] ++ x :: r = q ++ y :: (x :: r) := by simp
        rw [e1, cond_true, sub_in (by simp at hb; omega), e3, inb_in, get_in, stle_k]
        simp only [cond_true, List.getLast?_append, List.getLast?_singleton, Option.map_some, Option.some_or]
        cases klt y.1 x.1 <;> rfl
theorem kright_r {n : Nat} (hn : 2000 < n) (k : List IT) (h : k.length < 1000) : F42 n k = some (keepB k) := by
  unfold F42 keepB
  have := kright_rc k [] n (by omega) (by simpa using h)
  simp only [List.nil_append, List.length_nil] at this
  rw [show (0 : Int) = ofN 0 from rfl, this, Bool.and_comm]; rfl

/-! ### Newer, as the program has it. -/
theorem cmpi_p (n : Nat) (a b : Int) : F76 n a b = some (bif decide (a < b) then -1 else bif decide (b < a) then 1 else 0) := by
  unfold F76 F78
  have e : ∀ z : Int, ine z z = false := fun z => by simp [ine]
  simp only [e, Option.bind_some, cond_false]
  unfold ilt igt
  rcases Int.lt_trichotomy a b with h | h | h
  · rw [decide_eq_true h]; rfl
  · subst h; simp
  · rw [decide_eq_false (by omega : ¬ a < b), decide_eq_true (show a > b from h)]; rfl
theorem or_p {n : Nat} (hn : 2000 < n) (a b : Int) : F75 n [a, b] = some (bif decide (a = 0) then b else a) := by
  obtain ⟨m, rfl⟩ : ∃ m, n = m + 3 := ⟨n - 3, by omega⟩
  unfold F75
  have e1 : ilt 0 (ofN [a, b].length) = true := rfl
  have e2 : inb 0 [a, b].length = true := rfl
  have e3 : iadd .i64 0 1 = 1 := rfl
  have e4 : ilt 1 (ofN [a, b].length) = true := rfl
  have e5 : inb 1 [a, b].length = true := rfl
  have e6 : iadd .i64 1 1 = 2 := rfl
  have e7 : ilt 2 (ofN [a, b].length) = false := rfl
  have e8 : [a, b].getD (Int.toNat 0) 0 = a := rfl
  have e9 : [a, b].getD (Int.toNat 1) 0 = b := rfl
  simp only [F75_c0, e1, e2, e3, e4, e5, e6, e7, e8, e9, cond_true, cond_false, ine_dec]
  by_cases h : a = 0
  · by_cases h' : b = 0
    · simp [h, h']
    · simp [h, h']
  · simp [h]
theorem newer_p (n : Nat) (k : ByteArray) (v r : Int) (g : Bool) (k' : ByteArray) (v' r' : Int) (g' : Bool) : F62 n k v r g k' v' r' g' = some (newI (k, v, r, g) (k', v', r', g')) := by
  have hf := fuel_big
  unfold F62 F70 F74 newI
  simp only [Option.bind_some, cmpi_p, or_p (by omega : 2000 < FUEL), ieq_dec, beqb_dec, Bool.and_true]
  rcases Int.lt_trichotomy r r' with h1 | h1 | h1
  · have h2 : ¬ r = r' := by omega
    have h3 : ¬ r' < r := by omega
    simp [h1, h2, h3, igt]
  · subst h1
    rcases Int.lt_trichotomy v v' with h4 | h4 | h4
    · have h2 : ¬ v = v' := by omega
      have h3 : ¬ v' < v := by omega
      simp [h4, h2, h3, igt]
    · subst h4
      cases g <;> cases g' <;> simp [igt]
    · have h2 : ¬ v = v' := by omega
      have h3 : ¬ v < v' := by omega
      simp [h4, h2, h3, igt]
  · have h2 : ¬ r = r' := by omega
    have h3 : ¬ r < r' := by omega
    simp [h1, h2, h3, igt]

/-! ### Where a key stands. -/
structure Brk (key : ByteArray) (p r : List IT) : Prop where
  lo : ∀ y ∈ p, klt y.1 key = true
  hi : ∀ y ∈ r, klt y.1 key = false
theorem brk_of : ∀ {k : List IT}, Srt k → ∀ key, ∃ p r, k = p ++ r ∧ Brk key p r
  | [], _, _ => ⟨[], [], rfl, by simp, by simp⟩
  | x :: k, hs, key => by
    cases h : klt x.1 key
    · refine ⟨[], x :: k, rfl, by simp, fun y hy => ?_⟩
      rcases List.mem_cons.1 hy with e | hy
      · rw [e]; exact h
      · cases h2 : klt y.1 key
        · rfl
        · rw [klt_trans (srt_head hs y hy) h2] at h; cases h
    · obtain ⟨p, r, e, b⟩ := brk_of (srt_tail hs) key
      exact ⟨x :: p, r, by rw [e]; rfl, fun y hy => by
        rcases List.mem_cons.1 hy with e | hy
        · rw [e]; exact h
        · exact b.lo y hy, b.hi⟩
def hdK (key : ByteArray) : List IT → Option IT
  | [] => none
  | y :: _ => if y.1 = key then some y else none
theorem brk_fnd : ∀ {p r : List IT} {key : ByteArray}, Srt (p ++ r) → Brk key p r → fnd (p ++ r) key = hdK key r
  | [], [], _, _, _ => rfl
  | [], y :: r, key, hs, b => by
    rw [List.nil_append, fnd_cons, hdK]
    by_cases h : y.1 = key
    · rw [if_pos h, if_pos h]
    · rw [if_neg h, if_neg h]
      have h1 := b.hi y (by simp)
      have h2 : klt key y.1 = true := by
        rcases klt_tri y.1 key with h3 | h3 | h3
        · rw [h1] at h3; cases h3
        · exact absurd h3 h
        · exact h3
      have := srt_none hs h2
      rw [fnd_cons, if_neg h] at this
      exact this
  | x :: p, r, key, hs, b => by
    rw [List.cons_append, fnd_cons, if_neg (klt_ne (b.lo x (by simp)))]
    exact brk_fnd (srt_tail hs) ⟨fun y hy => b.lo y (List.mem_cons_of_mem _ hy), b.hi⟩
theorem brk_ins (x : IT) : ∀ {p : List IT} {r : List IT}, (∀ y ∈ p, klt y.1 x.1 = true) → ins x (p ++ r) = p ++ ins x r
  | [], _, _ => rfl
  | y :: p, r, h => by
    rw [List.cons_append, ins, h y (by simp), cond_true, brk_ins x fun z hz => h z (List.mem_cons_of_mem _ hz)]; rfl
theorem brk_hd {key : ByteArray} {p r : List IT} (b : Brk key p r) {x : IT} (hx : x.1 = key) : ins x r = match r with | [] => [x] | y :: s => if y.1 = key then (bif newI x y then x else y) :: s else x :: y :: s := by
  cases r with
  | nil => rfl
  | cons y s =>
    rw [ins, hx, b.hi y (by simp), cond_false]
    by_cases h : y.1 = key <;> simp [h]
theorem mid_eq {a b : Nat} (h : a ≤ b) (hb : b < 1000) : iadd .i64 (ofN a) (iquo .i64 (isub .i64 (ofN b) (ofN a)) 2) = ofN (a + (b - a) / 2) := by
  simp only [iadd, iquo, isub, ofN]
  rw [wrap_mid (n := (b : Int) - a) (by omega) (by omega)]
  have e : ((b : Int) - a).tdiv 2 = (((b - a) / 2 : Nat) : Int) := by
    rw [Int.tdiv_eq_ediv_of_nonneg (by omega)]; omega
  rw [e, wrap_mid (n := (((b - a) / 2 : Nat) : Int)) (by omega) (by omega), wrap_mid (by omega) (by omega)]
  omega
theorem cmps_p (n : Nat) (a b : ByteArray) : F69 n a b = some (bif klt a b then -1 else bif klt b a then 1 else 0) := by
  unfold F69 F73
  have e : ∀ z : ByteArray, stne z z = false := fun z => by simp [stne]
  simp only [e, Option.bind_some, cond_false, stlt_k, stgt_k]
  cases klt a b
  · cases klt b a <;> rfl
  · rfl
theorem place_c {key : ByteArray} {p r : List IT} (bk : Brk key p r) (hl : (p ++ r).length < 1000) : ∀ (d a b n : Nat), b - a ≤ d → d < n → a ≤ p.length → p.length ≤ b → b ≤ (p ++ r).length →
    F61_c0 n (p ++ r) (ofN a) (ofN b) key = some (ofN p.length, (hdK key r).isSome)
  | _, _, _, 0, _, h, _, _, _ => by omega
  | d, a, b, n + 1, hd, hn, ha, hb, hbl => by
    by_cases hab : a < b
    · obtain ⟨d, rfl⟩ : ∃ d', d = d' + 1 := ⟨d - 1, by omega⟩
      have e1 : ilt (ofN a) (ofN b) = true := decide_eq_true (by simp only [ofN]; omega)
      have e2 : inz 2 = true := rfl
      have e3 : inb (ofN (a + (b - a) / 2)) (p ++ r).length = true := inb_ofN (by omega)
      simp only [F61_c0, e1, e2, mid_eq (by omega : a ≤ b) (by omega : b < 1000), e3, cond_true, cmps_p, Option.bind_some]
      have e4 : iadd .i64 (ofN (a + (b - a) / 2)) 1 = ofN (a + (b - a) / 2 + 1) := by simp only [iadd, ofN]; rw [wrap_mid (by omega) (by omega)]; omega
      rw [e4]
      have hm : a + (b - a) / 2 < (p ++ r).length := by omega
      have e5 : (p ++ r).getD (ofN (a + (b - a) / 2)).toNat (ByteArray.empty, 0, 0, false) = (p ++ r)[a + (b - a) / 2] := by
        show (p ++ r).getD (a + (b - a) / 2) (ByteArray.empty, 0, 0, false) = _
        rw [List.getD, List.getElem?_eq_getElem hm]; rfl
      rw [e5]
      by_cases hmp : a + (b - a) / 2 < p.length
      · have : klt ((p ++ r)[a + (b - a) / 2]).1 key = true := by rw [List.getElem_append_left hmp]; exact bk.lo _ (List.getElem_mem _)
        rw [this]
        exact place_c bk hl d _ b n (by omega) (by omega) (by omega) hb hbl
      · have : klt ((p ++ r)[a + (b - a) / 2]).1 key = false := by rw [List.getElem_append_right (by omega)]; exact bk.hi _ (List.getElem_mem _)
        rw [this, cond_false]
        have e6 : ilt (bif klt key ((p ++ r)[a + (b - a) / 2]).1 then 1 else 0) 0 = false := by cases klt key ((p ++ r)[a + (b - a) / 2]).1 <;> rfl
        rw [e6, cond_false]
        exact place_c bk hl d a _ n (by omega) (by omega) ha (by omega) (by omega)
    · have e1 : ilt (ofN a) (ofN b) = false := decide_eq_false (by simp only [ofN]; omega)
      have ea : a = p.length := by omega
      subst ea
      simp only [F61_c0, e1, cond_false]
      cases r with
      | nil => simp only [List.append_nil, lt_out, cond_false]; rfl
      | cons y s =>
        simp only [lt_in, inb_in, get_in, cond_true, cmps_p, Option.bind_some, bk.hi y (by simp), cond_false, hdK]
        congr 2
        by_cases h : y.1 = key
        · rw [if_pos h, h, klt_irr]; rfl
        · rw [if_neg h]
          have : klt key y.1 = true := by
            rcases klt_tri y.1 key with h1 | h1 | h1
            · rw [bk.hi y (by simp)] at h1; cases h1
            · exact absurd h1 h
            · exact h1
          rw [this]; rfl
theorem kplace_p {n : Nat} (hn : 2000 < n) {key : ByteArray} {p r : List IT} (bk : Brk key p r) (hl : (p ++ r).length < 1000) : F61 n (p ++ r) key = some (ofN p.length, (hdK key r).isSome) := by
  have := place_c bk hl (p ++ r).length 0 (p ++ r).length (n + 1) (by omega) (by omega) (by omega) (by simp) (Nat.le_refl _)
  rw [show ofN 0 = 0 from rfl] at this
  rw [← this]
  unfold F61
  simp only [F61_c0]
theorem set_in {α : Type} {p r : List α} {x y : α} : (p ++ x :: r).set (ofN p.length).toNat y = p ++ y :: r := by simp [ofN]

/-! ### Put. -/
theorem putV_brk {x : IT} {p r : List IT} (hk : keepB (p ++ r) = true) (hx : pairI x = true) (b : Brk x.1 p r) :
    putV (p ++ r) x = bif (hdK x.1 r).isSome || !decide (24 ≤ (p ++ r).length) then (p ++ ins x r, 0) else (p ++ r, 200) := by
  unfold putV
  rw [hk, hx, brk_fnd ((keepB_iff _).1 hk).2.2 b, brk_ins x b.lo]; rfl
theorem take_in' {α : Type} {p r : List α} : List.drop 0 (List.take (ofN p.length).toNat (p ++ r)) = p := by simp [ofN]
theorem drop_in' {α : Type} {p r : List α} : List.drop (ofN p.length).toNat (List.take (p ++ r).length (p ++ r)) = r := by
  rw [List.take_length]; simp [ofN]
theorem ntl {α : Type} {p r : List α} {x : α} : nlt (ofN p.length).toNat (p ++ x :: r).length = true := nlt_in
theorem kput_p {n : Nat} (hn : 2000 < n) (k : List IT) (hl : k.length < 900) (a : ByteArray) (v w : Int) (g : Bool) : F32 n k a v w g = some ((putV k (a, v, w, g)).2, (putV k (a, v, w, g)).1) := by
  have hf := fuel_big
  unfold F32
  rw [kright_p (by omega) k (by omega), Option.bind_some]
  cases hk : keepB k
  · simp only [Bool.not_false, cond_true]
    rw [kown_p (by omega) k (by omega)]
    simp only [putV, hk, Bool.false_and, cond_false, Option.bind_some]
  · simp only [Bool.not_true, cond_false, pair_p, Option.bind_some]
    cases hp : pairB a v w
    · simp only [Bool.not_false, cond_true]
      rw [kown_p (by omega) k (by omega)]
      have : pairI (a, v, w, g) = false := hp
      simp only [putV, hk, this, Bool.and_false, cond_false, Option.bind_some]
    · simp only [Bool.not_true, cond_false]
      obtain ⟨p, r, rfl, b⟩ := brk_of ((keepB_iff k).1 hk).2.2 a
      have hl' := hl
      simp only [List.length_append] at hl'
      rw [kplace_p (by omega) b (by omega), Option.bind_some, putV_brk (x := (a, v, w, g)) hk hp b]
      cases r with
      | nil =>
        simp only [hdK, Option.isSome_none, cond_false, Bool.false_or, List.append_nil] at hl ⊢
        have e1 : ige (ofN p.length) 24 = decide (24 ≤ p.length) := by unfold ige ofN; apply decide_eq_decide.2; omega
        rw [e1]
        by_cases h24 : 24 ≤ p.length
        · simp only [decide_eq_true h24, cond_true, Bool.not_true, cond_false]
          rw [kown_p (by omega) p (by omega)]; rfl
        · simp only [decide_eq_false h24, cond_false, Bool.not_false, cond_true]
          have e2 : iadd .i64 (ofN p.length) 1 = ofN (p.length + 1) := by simp only [iadd, ofN]; rw [wrap_mid (by omega) (by omega)]; omega
          rw [e2]
          have e3 : (inn 0 && ile 0 (ofN (p.length + 1)) && decide (ofN (p.length + 1) * 40 ≤ 281474976710656) && decide (ofN (p.length + 1) ≤ 9223372036854775807)) = true := cap_ok (by omega)
          have e4 : (inn (ofN p.length) && inbs 0 (ofN p.length).toNat p.length) = true := by simp [inn, inbs, ofN]
          have e5 : (inn (ofN p.length) && true && inbs (ofN p.length).toNat p.length p.length) = true := by simp [inn, inbs, ofN]
          have e6 : List.drop 0 (List.take (ofN p.length).toNat p) = p := by simp [ofN]
          have e7 : List.drop (ofN p.length).toNat (List.take p.length p) = [] := by simp [ofN]
          simp only [e3, e4, e5, e6, e7, cond_true, Int.toNat_zero, List.replicate_zero, List.nil_append, List.length_nil, Nat.zero_add]
          rw [room_all (by omega) (by decide), room_all (by simp; omega) (by decide), room_all (by simp; omega) (by decide)]
          simp [ins]
      | cons y s =>
        by_cases hy : y.1 = a
        · have e0 : (hdK a (y :: s)) = some y := by simp [hdK, hy]
          simp only [e0, Option.isSome_some, Bool.true_or, cond_true]
          rw [kown_p (by omega) _ (by omega), Option.bind_some]
          simp only [inb_in, ntl, cond_true, get_in, newer_p, Option.bind_some, set_in]
          have e1 : ins (a, v, w, g) (y :: s) = (bif newI (a, v, w, g) y then (a, v, w, g) else y) :: s := by
            have := brk_hd b (x := (a, v, w, g)) rfl
            simpa [hy] using this
          rw [e1]
          show (bif newI (a, v, w, g) y then _ else _) = _
          cases newI (a, v, w, g) y <;> rfl
        · have e0 : (hdK a (y :: s)) = none := by simp [hdK, hy]
          simp only [e0, Option.isSome_none, Bool.false_or, cond_false]
          have e1 : ige (ofN (p ++ y :: s).length) 24 = decide (24 ≤ (p ++ y :: s).length) := by unfold ige ofN; apply decide_eq_decide.2; omega
          rw [e1]
          by_cases h24 : 24 ≤ (p ++ y :: s).length
          · simp only [decide_eq_true h24, cond_true, Bool.not_true, cond_false]
            rw [kown_p (by omega) _ (by omega)]; rfl
          · simp only [decide_eq_false h24, cond_false, Bool.not_false, cond_true]
            have e2 : iadd .i64 (ofN (p ++ y :: s).length) 1 = ofN ((p ++ y :: s).length + 1) := by simp only [iadd, ofN]; rw [wrap_mid (by omega) (by omega)]; omega
            rw [e2]
            have e3 : (inn 0 && ile 0 (ofN ((p ++ y :: s).length + 1)) && decide (ofN ((p ++ y :: s).length + 1) * 40 ≤ 281474976710656) && decide (ofN ((p ++ y :: s).length + 1) ≤ 9223372036854775807)) = true := cap_ok (by omega)
            have e4 : (inn (ofN p.length) && inbs 0 (ofN p.length).toNat (p ++ y :: s).length) = true := by simp [inn, inbs, ofN]
            have e5 : (inn (ofN p.length) && true && inbs (ofN p.length).toNat (p ++ y :: s).length (p ++ y :: s).length) = true := by simp [inn, inbs, ofN]
            simp only [e3, e4, e5, take_in', drop_in', cond_true, Int.toNat_zero, List.replicate_zero, List.nil_append, List.length_nil, Nat.zero_add]
            rw [room_all (by omega) (by decide), room_all (by simp; omega) (by decide), room_all (by simp at hl' ⊢; omega) (by decide)]
            have e6 : ins (a, v, w, g) (y :: s) = (a, v, w, g) :: y :: s := by
              have := brk_hd b (x := (a, v, w, g)) rfl
              simpa [hy] using this
            rw [e6]; simp
end Go.Proofs.Ythaomidjgadieaa
