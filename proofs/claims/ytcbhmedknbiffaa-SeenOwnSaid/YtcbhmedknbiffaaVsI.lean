/-
  The operations of the layer VS are sound: structs and arrays compared.
-/
import Derived.Test.YtcbhmedknbiffaaVsH
namespace Go.Proofs.Ytcbhmedknbiffaa
open Go Go.RowKit
theorem ceqs_length : ∀ {ls : List Nat} {xs ys : List PV} {b : Bool}, ceqs ls xs ys = some b → xs.length = ls.length ∧ ys.length = ls.length
  | [], [], [], _, _ => ⟨rfl, rfl⟩
  | [], [], _ :: _, _, h => by simp [ceqs] at h
  | [], _ :: _, _, _, h => by simp [ceqs] at h
  | _ :: _, [], _, _, h => by simp [ceqs] at h
  | _ :: _, _ :: _, [], _, h => by simp [ceqs] at h
  | l :: ls, x :: xs, y :: ys, b, h => by
    simp only [ceqs] at h
    split at h
    · rename_i hc
      have := ceqs_length hc
      exact ⟨by simp [this.1], by simp [this.2]⟩
    · cases h
theorem ceqs_split : ∀ {ls ls' : List Nat} {xs ys : List PV} {b : Bool}, ceqs (ls ++ ls') xs ys = some b →
    ∃ b1 b2, ceqs ls (xs.take ls.length) (ys.take ls.length) = some b1 ∧ ceqs ls' (xs.drop ls.length) (ys.drop ls.length) = some b2 ∧ b = (b1 && b2)
  | [], ls', xs, ys, b, h => ⟨true, b, by simp [ceqs], by simpa using h, by simp⟩
  | l :: ls, ls', xs, ys, b, h => by
    cases xs with
    | nil => simp [ceqs] at h
    | cons x xs =>
    cases ys with
    | nil => simp [ceqs] at h
    | cons y ys =>
      simp only [List.cons_append, ceqs] at h
      split at h
      · rename_i a c ha hc
        cases h
        obtain ⟨b1, b2, h1, h2, rfl⟩ := ceqs_split hc
        exact ⟨a && b1, b2, by simp [ceqs, ha, h1], by simpa using h2, by simp [Bool.and_assoc]⟩
      · cases h
def partV (T : Tab) (t : Nat) (us : List Value) : Value := if (T.at t).kind.isAgg then .agg (us.take (T.at t).sz).toArray else us.getD 0 undef
theorem run_part {T P} (hT : TOK T P) {t : Nat} (hs : (T.at t).sz ≠ 0) (w : World) (us : List Value) (off : Nat) (h : off + (T.at t).sz ≤ us.length) :
    (part t us.toArray off).run P w = .ok (partV T t (us.drop off)) w := by
  simp only [part, Sem.run_bind, hT.run_isAgg hs, Result.andThen_ok, partV]
  by_cases ha : (T.at t).kind.isAgg = true
  · simp only [ha, if_true, Sem.run_bind, hT.run_sizeOf hs, Result.andThen_ok, Sem.run_pure]
    congr 2
    apply Array.ext'
    simp [List.take_drop]
  · simp only [ha, Bool.false_eq_true, if_false]
    have : us[off]? = some us[off] := List.getElem?_eq_getElem (by omega)
    simp [this, List.getD]
def EqAt (T : Tab) (P : Program) (d t : Nat) (ks : List Nat) : Prop := (T.at t).sz ≠ 0 ∧ ks.length = (T.at t).sz ∧ ∀ (n : Nat) (g : Gh) (w : World) (xs ys : List PV) (us vs : List Value) (b : Bool), d ≤ n → RL g w xs us → RL g w ys vs → ceqs ks xs ys = some b →
  ∀ us' vs' : List Value, (Op.equalIn n t (partV T t (us ++ us')) (partV T t (vs ++ vs'))).run P w = .ok b w
theorem eqFields_ok {T P} (hT : TOK T P) (d n : Nat) (hdn : d ≤ n) (g : Gh) (w : World) : ∀ (fs : List Field) (off fin : Nat) (ls : List Nat) (f : Nat → Option (List Nat)), (∀ t ks, f t = some ks → EqAt T P d t ks) →
    flatFs T f off (fs.map fun f => (f.offset, f.type)) = some (fin, ls) → (fs.all fun f => f.name != "_") = true →
    ∀ (xs ys : List PV) (us vs : List Value) (b : Bool), RL g w xs us → RL g w ys vs → off + ls.length = fin ∧ (ceqs ls (xs.drop off) (ys.drop off) = some b → (Op.eqFields n us.toArray vs.toArray fs).run P w = .ok b w)
  | [], off, fin, ls, f, hf, hfl, hn, xs, ys, us, vs, b, hx, hy => by
    simp only [List.map_nil, flatFs, Option.some.injEq, Prod.mk.injEq] at hfl
    obtain ⟨rfl, rfl⟩ := hfl
    refine ⟨by simp, fun hc => ?_⟩
    have hl := ceqs_length hc
    have e1 : xs.drop off = [] := List.length_eq_zero_iff.1 hl.1
    have e2 : ys.drop off = [] := List.length_eq_zero_iff.1 hl.2
    rw [e1, e2] at hc
    cases hc; simp [Op.eqFields]
  | fd :: fs, off, fin, ls, f, hf, hfl, hn, xs, ys, us, vs, b, hx, hy => by
    simp only [List.map_cons, flatFs] at hfl
    split at hfl
    · rename_i l fin' ls' hft hrest
      split at hfl
      · rename_i ho
        simp only [Option.some.injEq, Prod.mk.injEq] at hfl
        obtain ⟨rfl, rfl⟩ := hfl
        obtain ⟨hs, hlk, heq⟩ := hf _ _ hft
        simp only [List.all_cons, Bool.and_eq_true] at hn
        have ih := fun b => eqFields_ok hT d n hdn g w fs (off + (T.at fd.type).sz) fin' ls' f hf hrest hn.2 xs ys us vs b hx hy
        refine ⟨by rw [List.length_append, hlk]; have := (ih false).1; omega, fun hcq => ?_⟩
        have hlen := ceqs_length hcq
        obtain ⟨b1, b2, h1, h2, rfl⟩ := ceqs_split hcq
        rw [hlk] at h1 h2
        simp only [List.length_drop, List.length_append] at hlen
        have hxu := RL.length hx
        have hyu := RL.length hy
        have hp1 := run_part hT hs w us fd.offset (by omega)
        have hp2 := run_part hT hs w vs fd.offset (by omega)
        have hq := heq n g w _ _ _ _ b1 hdn ((hx.drop off).take (T.at fd.type).sz) ((hy.drop off).take (T.at fd.type).sz) h1 ((us.drop off).drop (T.at fd.type).sz) ((vs.drop off).drop (T.at fd.type).sz)
        rw [List.take_append_drop, List.take_append_drop] at hq
        have hname : fd.name ≠ "_" := by simpa using hn.1
        rw [ho] at hp1 hp2
        simp only [Op.eqFields, ho, hname, ne_eq, not_false_eq_true, if_true, Sem.run_bind, hp1, hp2, Result.andThen_ok, hq, Sem.run_ite]
        cases b1 with
        | false => simp
        | true => rw [List.drop_drop, List.drop_drop] at h2; simpa using (ih b2).2 h2
      · cases hfl
    · cases hfl
theorem run_equalIn_array {P : Program} {w : World} {d t len e sz : Nat} {xs ys : Array Value} (ht : P.underlying t = some (.array len e)) (hs : (sizeOf e).run P w = .ok sz w) (val : Nat → Bool)
    (h : ∀ i, i < len → ∃ a b, (part e xs (i * sz)).run P w = .ok a w ∧ (part e ys (i * sz)).run P w = .ok b w ∧ (Op.equalIn d e a b).run P w = .ok (val i) w) :
    (Op.equalIn (d + 1) t (.agg xs) (.agg ys)).run P w = .ok ((List.range len).all val) w := by
  simp only [Op.equalIn, Sem.run_bind, run_underlying ht, Result.andThen_ok, hs]
  rw [Std.Legacy.Range.forIn_eq_forIn_range']
  have hr : List.range' (Std.Legacy.Range.mk 0 len 1 (by decide)).start (Std.Legacy.Range.mk 0 len 1 (by decide)).size (Std.Legacy.Range.mk 0 len 1 (by decide)).step = List.range len := by
    simp [Std.Legacy.Range.size, List.range_eq_range']
  rw [hr]
  have h' : ∀ i ∈ List.range len, ∃ a b, (part e xs (i * sz)).run P w = .ok a w ∧ (part e ys (i * sz)).run P w = .ok b w ∧ (Op.equalIn d e a b).run P w = .ok (val i) w := fun i hi => h i (List.mem_range.1 hi)
  generalize List.range len = l at h'
  clear h ht hr
  induction l with
  | nil => simp
  | cons i l ih =>
    obtain ⟨a, b, h1, h2, h3⟩ := h' i (by simp)
    simp only [List.forIn_cons, Sem.run_bind, h1, h2, h3, Result.andThen_ok, Sem.run_ite]
    cases hv : val i with
    | false => simp [hv]
    | true =>
      simp only [Bool.not_true, Bool.false_eq_true, if_false, Sem.run_pure, Result.andThen_ok, List.all_cons, hv, Bool.true_and]
      exact ih (fun j hj => h' j (by simp [hj]))
theorem ceqs_all (l : List Nat) : ∀ (n : Nat) (xs ys : List PV) (b : Bool), ceqs (List.replicate n l).flatten xs ys = some b →
    ∃ val : Nat → Bool, (∀ i, i < n → ceqs l ((xs.drop (i * l.length)).take l.length) ((ys.drop (i * l.length)).take l.length) = some (val i)) ∧ b = (List.range n).all val ∧ xs.length = n * l.length ∧ ys.length = n * l.length
  | 0, xs, ys, b, h => by
    have hl := ceqs_length h
    have e1 : xs = [] := List.length_eq_zero_iff.1 (by simpa using hl.1)
    have e2 : ys = [] := List.length_eq_zero_iff.1 (by simpa using hl.2)
    subst e1; subst e2
    cases h
    exact ⟨fun _ => true, fun i hi => absurd hi (Nat.not_lt_zero _), by simp, by simp, by simp⟩
  | n + 1, xs, ys, b, h => by
    have hl0 := ceqs_length h
    rw [List.replicate_succ, List.flatten_cons] at h hl0
    obtain ⟨b1, b2, h1, h2, rfl⟩ := ceqs_split h
    obtain ⟨val, h3, h4, h5, h6⟩ := ceqs_all l n _ _ b2 h2
    simp only [List.length_drop] at h5 h6
    simp only [List.length_append] at hl0
    refine ⟨fun i => match i with | 0 => b1 | j + 1 => val j, fun i hi => ?_, ?_, by rw [Nat.succ_mul]; omega, by rw [Nat.succ_mul]; omega⟩
    · cases i with
      | zero => simpa using h1
      | succ j =>
        have := h3 j (by omega)
        rw [List.drop_drop, List.drop_drop, show l.length + j * l.length = (j + 1) * l.length by rw [Nat.succ_mul]; omega] at this
        exact this
    · rw [List.range_succ_eq_map, List.all_cons, h4, List.all_map]; rfl
theorem flatEq_ok {T P} (hT : TOK T P) : ∀ (d t : Nat) (ks : List Nat), flatK T d t = some ks → EqAt T P d t ks
  | 0, t, ks, h => by simp [flatK] at h
  | d + 1, t, ks, h => by
    unfold flatK at h
    have leaf : ∀ (l : Nat) (us us' : List Value) (g : Gh) (w : World), ∀ {xs ys : List PV} {vs vs' : List Value} {b : Bool}, (T.at t).kind.isAgg = false → RL g w xs us → RL g w ys vs → ceqs [l] xs ys = some b →
        ∃ x y, ceq l x y = some b ∧ RV g w x (partV T t (us ++ us')) ∧ RV g w y (partV T t (vs ++ vs')) := by
      intro l us us' g w xs ys vs vs' b ha hx hy hc
      have hl := ceqs_length hc
      match xs, ys, hl with
      | [x], [y], _ =>
        simp only [RL] at hx hy
        obtain ⟨c, r, rfl, h1, rfl⟩ := hx
        obtain ⟨c', r', rfl, h1', rfl⟩ := hy
        simp only [ceqs] at hc
        split at hc
        · rename_i a b' ha' hb'
          cases hb'; cases hc
          exact ⟨x, y, by rw [Bool.and_true]; exact ha', by simpa [partV, ha] using h1, by simpa [partV, ha] using h1'⟩
        · cases hc
    split at h
    · -- int
      rename_i k hk
      split at h
      · rename_i h1
        cases h
        obtain ⟨dd, hu, hd⟩ := hT.kind (t := t) (by omega)
        rw [hk] at hd
        simp only [KindOK] at hd; subst hd
        refine ⟨by omega, h1.symm, fun n g w xs ys us vs b hn hx hy hc us' vs' => ?_⟩
        obtain ⟨n, rfl⟩ : ∃ n', n = n' + 1 := ⟨n - 1, by omega⟩
        obtain ⟨x, y, hq, r1, r2⟩ := leaf 0 us us' g w (vs' := vs') (by rw [hk]; rfl) hx hy hc
        unfold ceq at hq
        split at hq
        · split at hq
          · rename_i hcc
            obtain ⟨_, rfl⟩ := hcc
            cases hq
            simp only [RV] at r1 r2
            rw [r1, r2]; exact run_equalIn_int w n t _ _ _ _ hu
          · cases hq
        · simp at hq
        · simp at hq
        · cases hq
      · cases h
    · -- bool
      rename_i hk
      split at h
      · rename_i h1
        cases h
        obtain ⟨dd, hu, hd⟩ := hT.kind (t := t) (by omega)
        rw [hk] at hd
        simp only [KindOK] at hd; subst hd
        refine ⟨by omega, h1.symm, fun n g w xs ys us vs b hn hx hy hc us' vs' => ?_⟩
        obtain ⟨n, rfl⟩ : ∃ n', n = n' + 1 := ⟨n - 1, by omega⟩
        obtain ⟨x, y, hq, r1, r2⟩ := leaf 1 us us' g w (vs' := vs') (by rw [hk]; rfl) hx hy hc
        unfold ceq at hq
        split at hq
        · simp at hq
        · simp at hq
          subst hq
          simp only [RV] at r1 r2
          rw [r1, r2]; exact run_equalIn_bool' w n t _ _ hu
        · simp at hq
        · cases hq
      · cases h
    · -- string
      rename_i hk
      split at h
      · rename_i h1
        cases h
        obtain ⟨dd, hu, hd⟩ := hT.kind (t := t) (by omega)
        rw [hk] at hd
        simp only [KindOK] at hd; subst hd
        refine ⟨by omega, h1.symm, fun n g w xs ys us vs b hn hx hy hc us' vs' => ?_⟩
        obtain ⟨n, rfl⟩ : ∃ n', n = n' + 1 := ⟨n - 1, by omega⟩
        obtain ⟨x, y, hq, r1, r2⟩ := leaf 2 us us' g w (vs' := vs') (by rw [hk]; rfl) hx hy hc
        unfold ceq at hq
        split at hq
        · simp at hq
        · simp at hq
        · simp at hq
          subst hq
          simp only [RV] at r1 r2
          rw [r1, r2]; exact run_equalIn_string w n t _ _ hu
        · cases hq
      · cases h
    · -- array
      rename_i len e hk
      split at h
      · rename_i l hle
        split at h
        · rename_i hcond
          obtain ⟨h1, h2⟩ := hcond
          cases h
          obtain ⟨hs, hll, heq⟩ := flatEq_ok hT d e l hle
          obtain ⟨dd, hu, hd⟩ := hT.kind (t := t) h2
          rw [hk] at hd
          simp only [KindOK] at hd
          obtain ⟨hd, _, _⟩ := hd
          subst hd
          refine ⟨h2, by simp [hll, h1], fun n g w xs ys us vs b hn hx hy hc us' vs' => ?_⟩
          obtain ⟨n, rfl⟩ : ∃ n', n = n' + 1 := ⟨n - 1, by omega⟩
          obtain ⟨val, hv, rfl, hlx, hly⟩ := ceqs_all l len xs ys b hc
          rw [hll] at hlx hly
          have hxu := RL.length hx
          have hyu := RL.length hy
          have ha : (T.at t).kind.isAgg = true := by rw [hk]; rfl
          simp only [partV, ha, if_true]
          rw [List.take_append_of_le_length (by omega), List.take_append_of_le_length (by omega), List.take_of_length_le (by omega), List.take_of_length_le (by omega)]
          refine run_equalIn_array hu (hT.run_sizeOf hs w) val fun i hi => ?_
          have hmul : (i + 1) * (T.at e).sz ≤ len * (T.at e).sz := Nat.mul_le_mul_right _ hi
          rw [Nat.succ_mul] at hmul
          refine ⟨_, _, run_part hT hs w us _ (by omega), run_part hT hs w vs _ (by omega), ?_⟩
          have hvi := hv i hi
          rw [hll] at hvi
          have hq := heq n g w _ _ _ _ _ (by omega) ((hx.drop (i * (T.at e).sz)).take (T.at e).sz) ((hy.drop (i * (T.at e).sz)).take (T.at e).sz) hvi ((us.drop (i * (T.at e).sz)).drop (T.at e).sz) ((vs.drop (i * (T.at e).sz)).drop (T.at e).sz)
          rw [List.take_append_drop, List.take_append_drop] at hq
          exact hq
        · cases h
      · cases h
    · -- struct
      rename_i fs hk
      split at h
      · rename_i fin l hle
        split at h
        · rename_i hcond
          obtain ⟨h1, h2⟩ := hcond
          cases h
          obtain ⟨dd, hu, hd⟩ := hT.kind (t := t) h2
          rw [hk] at hd
          simp only [KindOK] at hd
          obtain ⟨⟨F, hdd, hF, hnm⟩, _, hsi, _⟩ := hd
          subst hdd
          have hF' : P.fieldsOf t = F := by simp [Program.fieldsOf, hu]
          have hfo := fun n hn g w xs ys us vs b hx hy => eqFields_ok hT d n hn g w F.toList 0 fin ks (flatK T d) (fun t ks h => flatEq_ok hT d t ks h) (by rw [hF]; exact hle) hnm xs ys us vs b hx hy
          refine ⟨h2, ?_, fun n g w xs ys us vs b hn hx hy hc us' vs' => ?_⟩
          · have := (hfo d (Nat.le_refl _) ⟨fun _ _ => False, 0, fun _ => False, fun _ => ⟨0, 0, 0⟩, []⟩ default [] [] [] [] false (by simp [RL]) (by simp [RL])).1
            omega
          · obtain ⟨n, rfl⟩ : ∃ n', n = n' + 1 := ⟨n - 1, by omega⟩
            have hl := ceqs_length hc
            have hxu := RL.length hx
            have hyu := RL.length hy
            have hq := hfo n (by omega) g w xs ys us vs b hx hy
            have ha : (T.at t).kind.isAgg = true := by rw [hk]; rfl
            simp only [partV, ha, if_true]
            rw [List.take_append_of_le_length (by omega), List.take_append_of_le_length (by omega), List.take_of_length_le (by omega), List.take_of_length_le (by omega)]
            rw [run_equalIn_struct w n t _ _ (by rw [hF']; exact hu) hsi, hF']
            exact hq.2 (by simpa using hc)
        · cases h
      · cases h
    · cases h
end Go.Proofs.Ytcbhmedknbiffaa
