/-
  In plain words: memories that may be, what is added.
-/
import Derived.Test.YtcbhmedknbiffaaPY
namespace Go.Proofs.Ytcbhmedknbiffaa
open Go Go.RowKit

/-! ### Right. -/
def rgP : List PT → List PT → Bool
  | _, [] => true
  | p, x :: r => toldP (pm x) && (decide ((pm x).t = x.1) && (decide ((pm x).c = x.2.1) && (!p.any (isk x.1 x.2.1) && rgP (p ++ [x]) r)))
def rightP (l : List PT) : Bool := rgP [] l && decide (l.length ≤ 40)
theorem take_at {α : Type} {p r : List α} : List.drop 0 (List.take (ofN p.length).toNat (p ++ r)) = p := by simp [ofN]
theorem cut_at {α : Type} {p r : List α} : (inn (ofN p.length) && inbs 0 (ofN p.length).toNat (p ++ r).length) = true := by simp [inn, inbs, ofN]
theorem le40 (n : Nat) : ile (ofN n) 40 = decide (n ≤ 40) := by unfold ile ofN; apply decide_eq_decide.2; omega
theorem gt40 (n : Nat) : igt (ofN n) 40 = !decide (n ≤ 40) := by unfold igt ofN; rw [← decide_not]; apply decide_eq_decide.2; omega
theorem sright_c (z : Bool) : ∀ (r p : List PT) (n : Nat), r.length < n → (p ++ r).length < 1000 → shortP (p ++ r) → F16_c0 n (p ++ r) (ofN (p ++ r).length) (ofN p.length) (p ++ r) z = some (rgP p r)
  | _, _, 0, h, _, _ => by omega
  | [], p, n + 1, _, _, _ => by simp only [F16_c0, List.append_nil, lt_out, cond_false, rgP]
  | x :: r, p, n + 1, h, hb, hs => by
    have hf := fuel_big
    simp only [F16_c0, lt_in, inb_in, get_in, cond_true, take_at, cut_at]
    simp only [List.length_append, List.length_cons] at h hb
    have hx := shortP_at hs
    have hr : F30 FUEL x.2.2.1 x.2.2.2.1 x.2.2.2.2.1 x.2.2.2.2.2.1 x.2.2.2.2.2.2.1 x.2.2.2.2.2.2.2.1 x.2.2.2.2.2.2.2.2.1 x.2.2.2.2.2.2.2.2.2.1 x.2.2.2.2.2.2.2.2.2.2.1 x.2.2.2.2.2.2.2.2.2.2.2.1 x.2.2.2.2.2.2.2.2.2.2.2.2.1 x.2.2.2.2.2.2.2.2.2.2.2.2.2.1 x.2.2.2.2.2.2.2.2.2.2.2.2.2.2.1 x.2.2.2.2.2.2.2.2.2.2.2.2.2.2.2.1 x.2.2.2.2.2.2.2.2.2.2.2.2.2.2.2.2 = some (rightM (pm x)) := mright_p (by omega) x.2.2.1 x.2.2.2.1 x.2.2.2.2.1 x.2.2.2.2.2.1 x.2.2.2.2.2.2.1 x.2.2.2.2.2.2.2.1 x.2.2.2.2.2.2.2.2.1 x.2.2.2.2.2.2.2.2.2.1 x.2.2.2.2.2.2.2.2.2.2.1 x.2.2.2.2.2.2.2.2.2.2.2.1 x.2.2.2.2.2.2.2.2.2.2.2.2.1 x.2.2.2.2.2.2.2.2.2.2.2.2.2.1 x.2.2.2.2.2.2.2.2.2.2.2.2.2.2.1 x.2.2.2.2.2.2.2.2.2.2.2.2.2.2.2.1 x.2.2.2.2.2.2.2.2.2.2.2.2.2.2.2.2 hx
    have ha : F31 FUEL x.2.2.1 x.2.2.2.1 x.2.2.2.2.1 x.2.2.2.2.2.1 x.2.2.2.2.2.2.1 x.2.2.2.2.2.2.2.1 x.2.2.2.2.2.2.2.2.1 x.2.2.2.2.2.2.2.2.2.1 x.2.2.2.2.2.2.2.2.2.2.1 x.2.2.2.2.2.2.2.2.2.2.2.1 x.2.2.2.2.2.2.2.2.2.2.2.2.1 x.2.2.2.2.2.2.2.2.2.2.2.2.2.1 x.2.2.2.2.2.2.2.2.2.2.2.2.2.2.1 x.2.2.2.2.2.2.2.2.2.2.2.2.2.2.2.1 x.2.2.2.2.2.2.2.2.2.2.2.2.2.2.2.2 = some (askB (pm x).k) := msgasks_p FUEL x.2.2.1 x.2.2.2.1 x.2.2.2.2.1 x.2.2.2.2.2.1 x.2.2.2.2.2.2.1 x.2.2.2.2.2.2.2.1 x.2.2.2.2.2.2.2.2.1 x.2.2.2.2.2.2.2.2.2.1 x.2.2.2.2.2.2.2.2.2.2.1 x.2.2.2.2.2.2.2.2.2.2.2.1 x.2.2.2.2.2.2.2.2.2.2.2.2.1 x.2.2.2.2.2.2.2.2.2.2.2.2.2.1 x.2.2.2.2.2.2.2.2.2.2.2.2.2.2.1 x.2.2.2.2.2.2.2.2.2.2.2.2.2.2.2.1 x.2.2.2.2.2.2.2.2.2.2.2.2.2.2.2.2
    have ht : F35 FUEL x.1 x.2.1 = some (x.1, x.2.1) := rfl
    rw [hr, ha, ht, add_in (x := x) (by omega)]
    have h1 := sright_c z r (p ++ [x]) n (by omega) (by simp; omega) (by rw [← in_eq]; exact hs)
    rw [← in_eq] at h1
    rw [h1]
    simp only [Option.bind_some]
    rw [first_p (by omega) p x.1 x.2.1 (by omega)]
    simp only [Option.bind_some, first_neg, rgP, toldP, ine_dec]
    show _ = some ((rightM (pm x) && !askB (pm x).k) && _)
    cases rightM (pm x)
    · rfl
    cases askB (pm x).k
    case true => rfl
    show (bif !decide ((pm x).t = x.1) then some false else _) = _
    cases decide ((pm x).t = x.1)
    · rfl
    show (bif !decide ((pm x).c = x.2.1) then some false else _) = _
    cases decide ((pm x).c = x.2.1)
    · rfl
    cases p.any (isk x.1 x.2.1) <;> rfl
theorem sright_p {n : Nat} (hn : 2000 < n) (l : List PT) (h : l.length < 1000) (hs : shortP l) : F16 n l = some (rightP l) := by
  unfold F16 rightP
  rw [gt40]
  by_cases h4 : l.length ≤ 40
  · rw [decide_eq_true h4]
    have := sright_c false l [] n (by omega) (by simpa using h) (by simpa using hs)
    simpa [ofN] using this
  · rw [decide_eq_false h4, Bool.and_false]; rfl
theorem sright_rc : ∀ (r p : List PT) (n : Nat), r.length < n → (p ++ r).length < 1000 → shortP (p ++ r) → F17_c0 n (p ++ r) (ofN p.length) = some (rgP p r && decide ((p ++ r).length ≤ 40))
  | _, _, 0, h, _, _ => by omega
  | [], p, n + 1, _, _, _ => by simp only [F17_c0, List.append_nil, lt_out, cond_false, rgP, le40, Bool.true_and]
  | x :: r, p, n + 1, h, hb, hs => by
    have hf := fuel_big
    simp only [F17_c0, lt_in, inb_in, get_in, cond_true, take_at, cut_at]
    simp only [List.length_append, List.length_cons] at h hb
    have hx := shortP_at hs
    have ho : F12 FUEL x.2.2.1 x.2.2.2.1 x.2.2.2.2.1 x.2.2.2.2.2.1 x.2.2.2.2.2.2.1 x.2.2.2.2.2.2.2.1 x.2.2.2.2.2.2.2.2.1 x.2.2.2.2.2.2.2.2.2.1 x.2.2.2.2.2.2.2.2.2.2.1 x.2.2.2.2.2.2.2.2.2.2.2.1 x.2.2.2.2.2.2.2.2.2.2.2.2.1 x.2.2.2.2.2.2.2.2.2.2.2.2.2.1 x.2.2.2.2.2.2.2.2.2.2.2.2.2.2.1 x.2.2.2.2.2.2.2.2.2.2.2.2.2.2.2.1 x.2.2.2.2.2.2.2.2.2.2.2.2.2.2.2.2 = some (if toldP (pm x) then ⟨(pm x).t, (pm x).c, (pm x).k, (pm x).c, (pm x).f, (pm x).t, (pm x).key, (pm x).s, (pm x).d, (pm x).p, (pm x).pr, (pm x).l, (pm x).ik, (pm x).iv, (pm x).ir, (pm x).ig, (pm x).cd, 0⟩ else ⟨0, 0, 0, 0, 0, 0, 0, false, false, 0, 0, [], ByteArray.empty, 0, 0, false, 0, 2⟩) := of_r FUEL (pm x) hx
    rw [ho, add_in (x := x) (by omega)]
    have h1 := sright_rc r (p ++ [x]) n (by omega) (by simp; omega) (by rw [← in_eq]; exact hs)
    rw [← in_eq] at h1
    rw [h1]
    simp only [Option.bind_some, rgP]
    cases toldP (pm x)
    · rfl
    simp only [if_true]
    rw [show ine 0 0 = false from rfl, cond_false, find_r (by omega) p _ _ (by omega) (fun y hy => hs y (by simp [hy]))]
    simp only [Option.bind_some, mkF_q, ine_dec, Bool.true_and]
    by_cases e1 : (pm x).t = x.1
    case neg => rw [decide_eq_false e1]; rfl
    by_cases e2 : (pm x).c = x.2.1
    case neg => rw [decide_eq_true e1, decide_eq_false e2]; rfl
    rw [decide_eq_true e1, decide_eq_true e2, e1, e2]
    cases p.any (isk x.1 x.2.1) <;> rfl
theorem sright_r {n : Nat} (hn : 2000 < n) (l : List PT) (h : l.length < 1000) (hs : shortP l) : F17 n l = some (rightP l) := by
  unfold F17 rightP
  have := sright_rc l [] n (by omega) (by simpa using h) (by simpa using hs)
  simpa [ofN] using this

/-! ### Too great? -/
theorem gt60 (n : Nat) : igt (ofN n) 60 = !decide (n ≤ 60) := by unfold igt ofN; rw [← decide_not]; apply decide_eq_decide.2; omega
theorem sgreat_c : ∀ (r p : List PT) (n : Nat), 61 - p.length < n → p.length ≤ 61 → (p ++ r).length ≤ 9223372036854775807 → ∃ b, F8_c0 n (p ++ r) (ofN p.length) = some b ∧ (b = false → (p ++ r).length ≤ 60 ∧ ∀ x ∈ r, (pm x).l.length ≤ 40)
  | _, _, 0, h, _, _ => by omega
  | [], p, n + 1, _, _, _ => by
    refine ⟨_, by simp only [F8_c0, List.append_nil, lt_out, cond_false]; rfl, fun hb => ⟨?_, by simp⟩⟩
    rw [gt60] at hb
    simpa using hb
  | x :: r, p, n + 1, h, hp, hb => by
    simp only [F8_c0, lt_in, inb_in, get_in, cond_true]
    by_cases h6 : p.length ≤ 60
    · rw [show ile (ofN p.length) 60 = true from decide_eq_true (by simp only [ofN]; omega), cond_true]
      simp only [List.length_append, List.length_cons] at hb
      rw [add_in (x := x) (by omega)]
      have h1 := sgreat_c r (p ++ [x]) n (by simp; omega) (by simp; omega) (by simp; omega)
      rw [← in_eq] at h1
      obtain ⟨b, h1, h2⟩ := h1
      rw [h1]
      rw [show igt (ofN x.2.2.2.2.2.2.2.2.2.2.2.1.length) 40 = !decide ((pm x).l.length ≤ 40) from gt40 _]
      by_cases h4 : (pm x).l.length ≤ 40
      · rw [decide_eq_true h4]
        cases hk : igt (stlen x.2.2.2.2.2.2.2.2.2.2.2.2.1) 300
        · refine ⟨b, rfl, fun hb => ⟨(h2 hb).1, fun y hy => ?_⟩⟩
          rcases List.mem_cons.1 hy with rfl | hy
          · exact h4
          · exact (h2 hb).2 y hy
        · exact ⟨true, rfl, fun h => by cases h⟩
      · rw [decide_eq_false h4]
        exact ⟨true, rfl, fun h => by cases h⟩
    · rw [show ile (ofN p.length) 60 = false from decide_eq_false (by simp only [ofN]; omega), cond_false]
      refine ⟨_, rfl, fun hb => ?_⟩
      rw [gt60] at hb
      simp at hb
      omega
theorem sgreat {n : Nat} (hn : 2000 < n) (l : List PT) (h : l.length ≤ 9223372036854775807) : ∃ b, F8 n l = some b ∧ (b = false → l.length ≤ 60 ∧ ∀ x ∈ l, (pm x).l.length ≤ 40) := by
  unfold F8
  have := sgreat_c l [] n (by simp; omega) (by simp) (by simpa using h)
  simpa [ofN] using this
theorem sgreatm_c : ∀ (r p : List MT) (n : Nat), 61 - p.length < n → p.length ≤ 61 → (p ++ r).length ≤ 9223372036854775807 → ∃ b, F9_c0 n (p ++ r) (ofN p.length) = some b ∧ (b = false → (p ++ r).length ≤ 60 ∧ ∀ x ∈ r, (mw x).l.length ≤ 40)
  | _, _, 0, h, _, _ => by omega
  | [], p, n + 1, _, _, _ => by
    refine ⟨_, by simp only [F9_c0, List.append_nil, lt_out, cond_false]; rfl, fun hb => ⟨?_, by simp⟩⟩
    rw [gt60] at hb
    simpa using hb
  | x :: r, p, n + 1, h, hp, hb => by
    simp only [F9_c0, lt_in, inb_in, get_in, cond_true]
    by_cases h6 : p.length ≤ 60
    · rw [show ile (ofN p.length) 60 = true from decide_eq_true (by simp only [ofN]; omega), cond_true]
      simp only [List.length_append, List.length_cons] at hb
      rw [add_in (x := x) (by omega)]
      have h1 := sgreatm_c r (p ++ [x]) n (by simp; omega) (by simp; omega) (by simp; omega)
      rw [← in_eq] at h1
      obtain ⟨b, h1, h2⟩ := h1
      rw [h1]
      rw [show igt (ofN x.2.2.2.2.2.2.2.2.2.1.length) 40 = !decide ((mw x).l.length ≤ 40) from gt40 _]
      by_cases h4 : (mw x).l.length ≤ 40
      · rw [decide_eq_true h4]
        cases hk : igt (stlen x.2.2.2.2.2.2.2.2.2.2.1) 300
        · refine ⟨b, rfl, fun hb => ⟨(h2 hb).1, fun y hy => ?_⟩⟩
          rcases List.mem_cons.1 hy with rfl | hy
          · exact h4
          · exact (h2 hb).2 y hy
        · exact ⟨true, rfl, fun h => by cases h⟩
      · rw [decide_eq_false h4]
        exact ⟨true, rfl, fun h => by cases h⟩
    · rw [show ile (ofN p.length) 60 = false from decide_eq_false (by simp only [ofN]; omega), cond_false]
      refine ⟨_, rfl, fun hb => ?_⟩
      rw [gt60] at hb
      simp at hb
      omega
theorem sgreatm {n : Nat} (hn : 2000 < n) (l : List MT) (h : l.length ≤ 9223372036854775807) : ∃ b, F9 n l = some b ∧ (b = false → l.length ≤ 60 ∧ ∀ x ∈ l, (mw x).l.length ≤ 40) := by
  unfold F9
  have := sgreatm_c l [] n (by simp; omega) (by simp) (by simpa using h)
  simpa [ofN] using this

/-! ### Added. -/
def l40 (l : List PT) : List PT := l.drop (l.length - 40)
def addS (l : List PT) (m : MW) : List PT := if toldP m && !l.any (isk m.t m.c) then l40 (l ++ [mkP m]) else l
def addA (l : List PT) (t : List MT) : List PT := t.foldl (fun l x => addS l (mw x)) l
theorem l40_len (l : List PT) : (l40 l).length = min l.length 40 := by unfold l40; rw [List.length_drop]; omega
theorem addS_len (l : List PT) (m : MW) : (addS l m).length ≤ max l.length 40 := by
  unfold addS; split
  · rw [l40_len]; omega
  · omega
theorem shortP_addS {l : List PT} {m : MW} (h : shortP l) (hm : m.l.length < 1000) : shortP (addS l m) := by
  unfold addS; split
  · intro x hx
    have := List.mem_of_mem_drop hx
    rcases List.mem_append.1 this with h1 | h1
    · exact h x h1
    · simp only [List.mem_singleton] at h1; rw [h1]; exact hm
  · exact h
theorem part_at {row : List PT} {off len : Nat} (h : off + len = row.length) : List.take len (List.drop off row) = row.drop off := by
  rw [List.take_of_length_le]; rw [List.length_drop]; omega
theorem room_152 {n : Nat} (h : n < 1000) : room n 152 = true := room_all h (by decide)
theorem sadd_c1 (t : List MT) (L i : Int) (row : List PT) : ∀ (k n off len : Nat), len ≤ 40 + k → 40 ≤ len → len = 40 + k → k < n → F19_c1 n off len t L i row = F19_c0 (n - k - 1) (off + k) 40 t L (iadd .i64 i 1) row
  | _, 0, _, _, _, _, _, h => by omega
  | 0, n + 1, off, len, _, _, h0, _ => by
    subst h0
    simp only [F19_c1, Nat.add_zero]
    rfl
  | k + 1, n + 1, off, len, h1, h2, h0, h => by
    simp only [F19_c1]
    rw [gt40, decide_eq_false (by omega)]
    have e : (inn 1 && true && inbs (Int.toNat 1) len len) = true := by simp [inn, inbs]; omega
    rw [e]
    simp only [Bool.not_false, cond_true]
    rw [show Int.toNat 1 = 1 from rfl]
    rw [sadd_c1 t L i row k n (off + 1) (len - 1) (by omega) (by omega) (by omega) (by omega)]
    congr 1 <;> omega
theorem sadd_c0 (T : List MT) : ∀ (r p : List MT) (n off len : Nat) (row : List PT), T = p ++ r → r.length * 100 < n → T.length < 1000 → shortM r → off + len = row.length → len ≤ 60 → shortP (row.drop off) → F19_c0 n off len T (ofN T.length) (ofN p.length) row = some (addA (row.drop off) r)
  | _, _, 0, _, _, _, _, h, _, _, _, _, _ => by omega
  | [], p, n + 1, off, len, row, hT, _, _, _, hl, _, _ => by
    rw [List.append_nil] at hT
    subst hT
    simp only [F19_c0, lt_out, cond_false, part_at hl]
    rfl
  | x :: r, p, n + 1, off, len, row, hT, h, hb, hm, hl, h60, hs => by
    have hf := fuel_big
    have hT2 : T = (p ++ [x]) ++ r := by rw [hT]; simp
    have hb2 := congrArg List.length hT
    simp only [List.length_append, List.length_cons] at hb2 h
    have e1 : ilt (ofN p.length) (ofN T.length) = true := by rw [hT]; exact lt_in
    have e2 : inb (ofN p.length) T.length = true := by rw [hT]; exact inb_in
    have e3 : ∀ d, T.getD (ofN p.length).toNat d = x := fun d => by rw [hT]; exact get_in
    simp only [F19_c0, e1, e2, e3, cond_true, part_at hl]
    have hx := hm x (by simp)
    have ho : F11 FUEL x.1 x.2.1 x.2.2.1 x.2.2.2.1 x.2.2.2.2.1 x.2.2.2.2.2.1 x.2.2.2.2.2.2.1 x.2.2.2.2.2.2.2.1 x.2.2.2.2.2.2.2.2.1 x.2.2.2.2.2.2.2.2.2.1 x.2.2.2.2.2.2.2.2.2.2.1 x.2.2.2.2.2.2.2.2.2.2.2.1 x.2.2.2.2.2.2.2.2.2.2.2.2.1 x.2.2.2.2.2.2.2.2.2.2.2.2.2.1 x.2.2.2.2.2.2.2.2.2.2.2.2.2.2 = some (if toldP (mw x) then ⟨(mw x).t, (mw x).c, (mw x).k, (mw x).c, (mw x).f, (mw x).t, (mw x).key, (mw x).s, (mw x).d, (mw x).p, (mw x).pr, (mw x).l, (mw x).ik, (mw x).iv, (mw x).ir, (mw x).ig, (mw x).cd, 0⟩ else ⟨0, 0, 0, 0, 0, 0, 0, false, false, 0, 0, [], ByteArray.empty, 0, 0, false, 0, 2⟩) := of_p FUEL (mw x) hx
    have ht : F35 FUEL (mw x).t (mw x).c = some ((mw x).t, (mw x).c) := rfl
    have hdl : (row.drop off).length = len := by rw [List.length_drop]; omega
    have hi : iadd .i64 (ofN p.length) 1 = ofN (p ++ [x]).length := add_in (by omega)
    have IH := fun n off len row hn hl h60 hs => sadd_c0 T r (p ++ [x]) n off len row hT2 hn hb (fun y hy => hm y (by simp [hy])) hl h60 hs
    have hA : ∀ l, addA l (x :: r) = addA (addS l (mw x)) r := fun l => rfl
    rw [ho, hi, hA]
    simp only [Option.bind_some]
    cases hp : toldP (mw x)
    · rw [if_neg (by simp), show ine 2 0 = true from rfl, cond_true, IH n off len row (by omega) hl h60 hs]
      unfold addS; rw [hp]; rfl
    · rw [if_pos rfl, show ine 0 0 = false from rfl, cond_false, ht]
      simp only [Option.bind_some]
      rw [first_p (by omega) _ _ _ (by rw [hdl]; omega)]
      simp only [Option.bind_some, first_neg]
      have hS := shortP_addS (m := mw x) hs hx
      cases ha : (row.drop off).any (isk (mw x).t (mw x).c)
      · have haS : addS (row.drop off) (mw x) = l40 (row.drop off ++ [mkP (mw x)]) := by unfold addS; rw [hp, ha]; rfl
        rw [haS] at hS ⊢
        rw [cond_false, room_152 (by simp; omega), show full off len row.length = true from decide_eq_true hl]
        simp only [Bool.and_self, cond_true]
        have hnl : (row.drop off ++ [mkP (mw x)]).length = len + 1 := by simp [hdl]
        show (bif igt (ofN (row.drop off ++ [mkP (mw x)]).length) 40 then (bif (inn 1 && true && inbs (Int.toNat 1) (row.drop off ++ [mkP (mw x)]).length (row.drop off ++ [mkP (mw x)]).length) then F19_c1 n (Int.toNat 1) ((row.drop off ++ [mkP (mw x)]).length - Int.toNat 1) T (ofN T.length) (ofN p.length) (row.drop off ++ [mkP (mw x)]) else none) else F19_c0 n 0 (row.drop off ++ [mkP (mw x)]).length T (ofN T.length) (ofN (p ++ [x]).length) (row.drop off ++ [mkP (mw x)])) = _
        generalize hrow : row.drop off ++ [mkP (mw x)] = row2 at hnl hS
        rw [gt40, hnl]
        by_cases h4 : len + 1 ≤ 40
        · rw [decide_eq_true h4, Bool.not_true, cond_false]
          have e4 : l40 row2 = row2.drop 0 := by unfold l40; rw [hnl]; congr 1; omega
          rw [e4] at hS ⊢
          exact IH n 0 (len + 1) row2 (by omega) (by omega) (by omega) hS
        · rw [decide_eq_false h4]
          have e : (inn 1 && true && inbs (Int.toNat 1) (len + 1) (len + 1)) = true := by simp [inn, inbs]
          rw [e]
          simp only [Bool.not_false, cond_true]
          rw [show Int.toNat 1 = 1 from rfl, Nat.add_sub_cancel]
          rw [sadd_c1 T (ofN T.length) (ofN p.length) row2 (len - 40) n 1 len (by omega) (by omega) (by omega) (by omega), hi]
          have e4 : l40 row2 = row2.drop (1 + (len - 40)) := by unfold l40; rw [hnl]; congr 1; omega
          rw [e4] at hS ⊢
          exact IH _ _ 40 row2 (by omega) (by omega) (by omega) hS
      · rw [cond_true, IH n off len row (by omega) hl h60 hs]
        unfold addS; rw [hp, ha]; rfl
theorem sadd_p {n : Nat} (hn : 100000 < n) (l : List PT) (t : List MT) (h : l.length ≤ 60) (hs : shortP l) (ht : t.length ≤ 60) (hm : shortM t) : F19 n l t = some (addA l t) := by
  have hf := fuel_big
  unfold F19
  rw [sown_p (by omega) l (by omega) hs, Option.bind_some]
  have := sadd_c0 t t [] n 0 l.length l rfl (by omega) (by omega) hm (by omega) h (by simpa using hs)
  simpa [ofN] using this
theorem sadd_r1 (t : List MT) (i : Int) (row : List PT) : ∀ (k n off len : Nat), len = 40 + k → k < n → F20_c1 n t off len i row = F20_c0 (n - k - 1) t (off + k) 40 (iadd .i64 i 1) row
  | _, 0, _, _, _, h => by omega
  | 0, n + 1, off, len, h0, _ => by
    subst h0
    simp only [F20_c1, Nat.add_zero]
    rfl
  | k + 1, n + 1, off, len, h0, h => by
    simp only [F20_c1]
    rw [gt40, decide_eq_false (by omega)]
    have e : (inn 1 && true && inbs (Int.toNat 1) len len) = true := by simp [inn, inbs]; omega
    rw [e]
    simp only [Bool.not_false, cond_true]
    rw [show Int.toNat 1 = 1 from rfl]
    rw [sadd_r1 t i row k n (off + 1) (len - 1) (by omega) (by omega)]
    congr 1 <;> omega
theorem sadd_r1s (t : List MT) (i : Int) (row : List PT) (n off len : Nat) (h : len ≤ 40) : F20_c1 (n + 1) t off len i row = F20_c0 n t off len (iadd .i64 i 1) row := by
  simp only [F20_c1]
  rw [gt40, decide_eq_true h]; rfl
theorem sadd_r0 (T : List MT) : ∀ (r p : List MT) (n off len : Nat) (row : List PT), T = p ++ r → r.length * 100 < n → T.length < 1000 → shortM r → off + len = row.length → len ≤ 60 → shortP (row.drop off) → F20_c0 n T off len (ofN p.length) row = some (addA (row.drop off) r)
  | _, _, 0, _, _, _, _, h, _, _, _, _, _ => by omega
  | [], p, n + 1, off, len, row, hT, _, _, _, hl, _, _ => by
    rw [List.append_nil] at hT
    subst hT
    simp only [F20_c0, lt_out, cond_false, part_at hl]
    rfl
  | x :: r, p, n + 1, off, len, row, hT, h, hb, hm, hl, h60, hs => by
    have hf := fuel_big
    have hT2 : T = (p ++ [x]) ++ r := by rw [hT]; simp
    have hb2 := congrArg List.length hT
    simp only [List.length_append, List.length_cons] at hb2 h
    have e1 : ilt (ofN p.length) (ofN T.length) = true := by rw [hT]; exact lt_in
    have e2 : inb (ofN p.length) T.length = true := by rw [hT]; exact inb_in
    have e3 : ∀ d, T.getD (ofN p.length).toNat d = x := fun d => by rw [hT]; exact get_in
    simp only [F20_c0, e1, e2, e3, cond_true, part_at hl]
    have hx := hm x (by simp)
    have ho : F12 FUEL x.1 x.2.1 x.2.2.1 x.2.2.2.1 x.2.2.2.2.1 x.2.2.2.2.2.1 x.2.2.2.2.2.2.1 x.2.2.2.2.2.2.2.1 x.2.2.2.2.2.2.2.2.1 x.2.2.2.2.2.2.2.2.2.1 x.2.2.2.2.2.2.2.2.2.2.1 x.2.2.2.2.2.2.2.2.2.2.2.1 x.2.2.2.2.2.2.2.2.2.2.2.2.1 x.2.2.2.2.2.2.2.2.2.2.2.2.2.1 x.2.2.2.2.2.2.2.2.2.2.2.2.2.2 = some (if toldP (mw x) then ⟨(mw x).t, (mw x).c, (mw x).k, (mw x).c, (mw x).f, (mw x).t, (mw x).key, (mw x).s, (mw x).d, (mw x).p, (mw x).pr, (mw x).l, (mw x).ik, (mw x).iv, (mw x).ir, (mw x).ig, (mw x).cd, 0⟩ else ⟨0, 0, 0, 0, 0, 0, 0, false, false, 0, 0, [], ByteArray.empty, 0, 0, false, 0, 2⟩) := of_r FUEL (mw x) hx
    have hdl : (row.drop off).length = len := by rw [List.length_drop]; omega
    have hi : iadd .i64 (ofN p.length) 1 = ofN (p ++ [x]).length := add_in (by omega)
    have IH := fun n off len row hn hl h60 hs => sadd_r0 T r (p ++ [x]) n off len row hT2 hn hb (fun y hy => hm y (by simp [hy])) hl h60 hs
    have hA : ∀ l, addA l (x :: r) = addA (addS l (mw x)) r := fun l => rfl
    have hfd := fun a b => find_r (n := FUEL) (by omega) (row.drop off) a b (by rw [hdl]; omega) hs
    rw [ho, hi, hA]
    simp only [Option.bind_some]
    cases hp : toldP (mw x)
    · rw [if_neg (by simp)]
      simp only [hfd, Option.bind_some]
      rw [show ine 2 0 = true from rfl, cond_true, IH n off len row (by omega) hl h60 hs]
      unfold addS; rw [hp]; rfl
    · rw [if_pos rfl]
      simp only [hfd, Option.bind_some, mkF_q]
      rw [show ine 0 0 = false from rfl, cond_false]
      have hS := shortP_addS (m := mw x) hs hx
      cases ha : (row.drop off).any (isk (mw x).t (mw x).c)
      · have haS : addS (row.drop off) (mw x) = l40 (row.drop off ++ [mkP (mw x)]) := by unfold addS; rw [hp, ha]; rfl
        rw [haS] at hS ⊢
        rw [cond_false, room_152 (by simp; omega), show full off len row.length = true from decide_eq_true hl]
        simp only [Bool.and_self, cond_true]
        have hnl : (row.drop off ++ [mkP (mw x)]).length = len + 1 := by simp [hdl]
        show F20_c1 n T 0 (row.drop off ++ [mkP (mw x)]).length (ofN p.length) (row.drop off ++ [mkP (mw x)]) = _
        generalize hrow : row.drop off ++ [mkP (mw x)] = row2 at hnl hS
        rw [hnl]
        by_cases h4 : len + 1 ≤ 40
        · obtain ⟨n', rfl⟩ : ∃ n', n = n' + 1 := ⟨n - 1, by omega⟩
          rw [sadd_r1s T _ row2 n' 0 (len + 1) h4, hi]
          have e4 : l40 row2 = row2.drop 0 := by unfold l40; rw [hnl]; congr 1; omega
          rw [e4] at hS ⊢
          exact IH n' 0 (len + 1) row2 (by omega) (by omega) (by omega) hS
        · rw [sadd_r1 T (ofN p.length) row2 (len + 1 - 40) n 0 (len + 1) (by omega) (by omega), hi]
          have e4 : l40 row2 = row2.drop (0 + (len + 1 - 40)) := by unfold l40; rw [hnl]; congr 1; omega
          rw [e4] at hS ⊢
          exact IH _ _ 40 row2 (by omega) (by omega) (by omega) hS
      · rw [cond_true, IH n off len row (by omega) hl h60 hs]
        unfold addS; rw [hp, ha]; rfl
theorem sadd_r {n : Nat} (hn : 100000 < n) (l : List PT) (t : List MT) (h : l.length ≤ 60) (hs : shortP l) (ht : t.length ≤ 60) (hm : shortM t) : F20 n l t = some (addA l t) := by
  have hf := fuel_big
  unfold F20
  rw [sown_r (by omega) l (by omega) hs, Option.bind_some]
  have := sadd_r0 t t [] n 0 l.length l rfl (by omega) (by omega) hm (by omega) h (by simpa using hs)
  simpa [ofN] using this
end Go.Proofs.Ytcbhmedknbiffaa
