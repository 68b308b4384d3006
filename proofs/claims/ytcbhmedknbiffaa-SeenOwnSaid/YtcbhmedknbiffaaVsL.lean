/-
  The operations of the layer VS are sound: slices, addresses, parts.
-/
import Derived.Test.YtcbhmedknbiffaaVsK
namespace Go.Proofs.Ytcbhmedknbiffaa
open Go Go.RowKit
section
variable {T : Tab} {P : Program} {cx : Cx} {g : Gh} {m : Mem} {w : World} {nm : Nat}
theorem makeSlice_ok (hT : TOK T P) (h : MR T cx g m w) (hnm : ¬ g.dom nm) {t e : Nat} (hk : (T.at t).kind = .slice e) (hs : (T.at t).sz ≠ 0) {a b : Int}
    (h0 : 0 ≤ a) (h1 : a ≤ b) (h2 : b * (T.at e).bytes ≤ 281474976710656) (h3 : b ≤ 9223372036854775807) :
    StepOK T P cx g m w nm (do let u ← Instr.makeSlice t (.int .i64 a) (.int .i64 b); pure (Next.value u)) (.row nm (T.at e).sz 0 a.toNat) [(nm, .row (T.at e).sz (List.replicate a.toNat ((T.at e).zero.map .v)))] := by
  obtain ⟨d, hu, hd⟩ := hT.kind hs
  rw [hk] at hd
  obtain ⟨rfl, he⟩ := hd
  obtain ⟨inf, z, hi1, hi2, hi3, hi4, hi5, hi6⟩ := hT.info he
  obtain ⟨hz1, hz2⟩ := hT.zero_one he
  have hwa : IntKind.i64.wrap a = a := IntWalk.i64_in _ (by omega)
  have hwb : IntKind.i64.wrap b = b := IntWalk.i64_in _ (by omega)
  obtain ⟨an, rfl⟩ := Int.eq_ofNat_of_zero_le h0
  obtain ⟨bn, rfl⟩ := Int.eq_ofNat_of_zero_le (by omega : 0 ≤ b)
  have hrz : ∀ n : Nat, n = bn * (T.at e).sz → ∀ zc : Array Value, (n = 0 ∧ zc = #[] ∨ zc = z.cells) → ((Array.range n).map (zc[· % zc.size]!)).toList = (List.replicate bn (T.at e).zero).flatten := by
    intro n hn zc hzc
    rcases hzc with ⟨h0, rfl⟩ | rfl
    · subst h0
      have : bn = 0 := by
        rcases Nat.mul_eq_zero.1 hn.symm with h | h
        · exact h
        · exact absurd h he
      subst this; simp
    · rw [hn, ← hi6, zeros_flat, hi5]
  have hrun : ∃ cs : Array Value, cs.toList = (List.replicate bn (T.at e).zero).flatten ∧ (Instr.makeSlice t (.int .i64 an) (.int .i64 bn)).run P w = .ok (.slice (some ⟨w.heap.size, 0, none⟩) an bn) (w.alloc (.cells cs e)) := by
    have hb2 : ¬ (281474976710656 : Int) < (inf.bytes : Int) * bn := by rw [hi3, Int.mul_comm]; omega
    by_cases hn : bn * (T.at e).sz = 0
    · refine ⟨(Array.range (bn * (T.at e).sz)).map ((#[] : Array Value)[· % (#[] : Array Value).size]!), hrz _ rfl #[] (.inl ⟨hn, rfl⟩), ?_⟩
      simp only [Instr.makeSlice, Sem.run_bind, run_underlying hu, Result.andThen_ok, asInt, asIntOf, Sem.run_pure, typeInfo, run_program, hi1, hwa, hwb]
      rw [if_neg (by simp; omega)]
      simp only [Int.toNat_natCast, Sem.run_bind, run_askRoom, Result.andThen_ok, hT.run_sizeOf he]
      rw [if_pos hn]
      simp [newRow]
    · refine ⟨(Array.range (bn * (T.at e).sz)).map (z.cells[· % z.cells.size]!), hrz _ rfl z.cells (.inr rfl), ?_⟩
      simp only [Instr.makeSlice, Sem.run_bind, run_underlying hu, Result.andThen_ok, asInt, asIntOf, Sem.run_pure, typeInfo, run_program, hi1, hwa, hwb]
      rw [if_neg (by simp; omega)]
      simp only [Int.toNat_natCast, Sem.run_bind, run_askRoom, Result.andThen_ok, hT.run_sizeOf he]
      rw [if_neg hn]
      simp [newRow, zeroValue, typeInfo, hi1, hi4]
  obtain ⟨cs, hcs, hrun⟩ := hrun
  have hsize : cs.size = bn * (T.at e).sz := by
    have := congrArg List.length hcs
    simpa [hz1] using this
  obtain ⟨hm, hex⟩ := h.alloc (nm := nm) (off := 0) (cap := bn) (bx := .row (T.at e).sz (List.replicate an ((T.at e).zero.map .v))) (o := .cells cs e) hnm
    (fun g' w' hx' hw => ⟨by simp; omega, by simp [maxLen]; omega, fun _ => ⟨cs, e, hw, by simp; omega, by
        simp only [List.drop_zero]
        have : cs.toList = (List.replicate an (T.at e).zero).flatten ++ (List.replicate (bn - an) (T.at e).zero).flatten := by
          rw [hcs, ← List.flatten_append, List.replicate_append_replicate]; congr 2; omega
        rw [this]
        refine (RC.of_flat (fun z hz => by rw [List.mem_replicate] at hz; rw [hz.2]; simp [hz1]) ?_).more _
        have : (List.replicate an ((T.at e).zero.map PV.v)).flatten = ((List.replicate an (T.at e).zero).flatten).map PV.v := by
          rw [List.map_flatten, List.map_replicate]
        rw [this]; exact RL.map_v _⟩⟩)
  refine ⟨_, _, _, .inl (run_value hrun), ?_, hm, hex, fun k hk => hk⟩
  simp only [RV, Int.toNat_natCast]
  exact ⟨.inr rfl, _, _, rfl, by omega, by simp [maxLen]; omega, fun _ => by rw [Gh.add_gb_new]; exact ⟨by rw [Nat.zero_mul], Nat.zero_add _⟩⟩
theorem bounds_ok {ρ : Operand → PV} {a : Act} (hρ : ∀ x, RV g w (ρ x) (a.eval x)) {lo hi : Option Operand} {p q : Prop} {l hh n cap : Nat} {isS : Bool} (hl : boundV ρ 0 lo = some (p, l)) (hp : p) (hh' : boundV ρ n hi = some (q, hh)) (hq : q)
    (h1 : l ≤ hh) (h2 : hh ≤ n) (h3 : n ≤ cap) : (Instr.sliceBounds isS n cap (lo.map a.eval) (hi.map a.eval) none).run P w = .ok (l, hh, cap) w := by
  have key : ∀ (o : Option Operand) (d y r : Nat) (s : Prop) (c : BoundsCode), boundV ρ d o = some (s, r) → s → r ≤ y → (match o.map a.eval with | some v => Instr.sliceBound v y c | none => pure d).run P w = .ok r w := by
    intro o d y r s c ho hs hr
    cases o with
    | none => simp only [boundV] at ho; cases ho; rfl
    | some x =>
      simp only [boundV] at ho
      split at ho
      · rename_i k i hx
        cases ho
        have hv := hρ x
        rw [hx] at hv
        simp only [RV] at hv
        have : i ≤ (y : Int) := by omega
        simp [hv, Instr.sliceBound, asIntOf, hs, this]
      · cases ho
  have e1 := key hi n cap hh q (if isS then .sliceAcap else .sliceAlen) hh' hq (by omega)
  have e2 := key lo 0 hh l p .sliceB hl hp h1
  unfold Instr.sliceBounds
  cases hhi : hi.map a.eval with
  | none =>
    rw [hhi] at e1
    cases hlo : lo.map a.eval with
    | none => rw [hlo] at e2; simp only [Sem.run_pure, Result.ok.injEq, and_true] at e1 e2; subst e1; subst e2; simp
    | some v => rw [hlo] at e2; simp only [Sem.run_pure, Result.ok.injEq, and_true] at e1; subst e1; simp [e2]
  | some u =>
    rw [hhi] at e1
    cases hlo : lo.map a.eval with
    | none => rw [hlo] at e2; simp only [Sem.run_pure, Result.ok.injEq, and_true] at e2; subst e2; simp [e1]
    | some v => rw [hlo] at e2; simp [e1, e2]
theorem Addr.add_none (b o n : Nat) : (⟨b, o, none⟩ : Addr).add n = ⟨b, o + n, none⟩ := Addr.add_lit b o n
theorem RE.drop {sz b : Nat} : ∀ {es : List (List PV)} {off : Nat} (n : Nat), RE g w sz b off es → RE g w sz b (off + n * sz) (es.drop n)
  | [], _, n, _ => by simp [RE]
  | e :: es, off, n, h => by
    cases n with
    | zero => simpa using h
    | succ n =>
      simp only [RE] at h
      have := RE.drop n h.2.2
      rw [Nat.succ_mul, List.drop_succ_cons, show off + (n * sz + sz) = off + sz + n * sz by omega]
      exact this
theorem RE.take {sz b : Nat} : ∀ {es : List (List PV)} {off : Nat} (n : Nat), RE g w sz b off es → RE g w sz b off (es.take n)
  | [], _, n, _ => by simp [RE]
  | e :: es, off, n, h => by
    cases n with
    | zero => simp [RE]
    | succ n =>
      simp only [RE] at h
      simp only [List.take_succ_cons, RE]
      exact ⟨h.1, h.2.1, RE.take n h.2.2⟩
theorem slice_ok (hT : TOK T P) (h : MR T cx g m w) {ρ : Operand → PV} {a : Act} (hρ : ∀ x, RV g w (ρ x) (a.eval x)) {t : Nat} (hs : (T.at t).sz ≠ 0) {x : Operand} {lo hi : Option Operand} {side : Prop} {v : PV}
    (he : sliceV T ρ m.bx t (ρ x) lo hi = some (side, v)) (hside : side) :
    StepOK T P cx g m w nm (do let u ← Instr.sliceAt t (a.eval x) (lo.map a.eval) (hi.map a.eval) none; pure (Next.value u)) v [] := by
  have hx := hρ x
  obtain ⟨d, hu, hd⟩ := hT.kind hs
  unfold sliceV at he
  split at he
  · -- a slice
    rename_i e hk
    rw [hk] at hd
    obtain ⟨rfl, hes⟩ := hd
    split at he
    · -- a row
      rename_i k sz i n hrow
      rw [hrow] at hx
      split at he
      · rename_i p l q hh hl hhh
        split at he
        · rename_i hsz
          cases he
          obtain ⟨hp, hq, h1, h2⟩ := hside
          simp only [RV] at hx
          obtain ⟨hdom, ad, cap, hv, h3, h4, h5⟩ := hx
          have hb := bounds_ok (P := P) (isS := true) hρ hl hp hhh hq h1 h2 h3
          refine .val (u := .slice (if cap = l then ad else ad.map (·.add (l * (T.at e).sz))) (hh - l) (cap - l)) h ?_ ?_
          · simp only [Instr.sliceAt, Sem.run_bind, run_underlying hu, Result.andThen_ok, Instr.slice, hv, hb, hT.run_sizeOf hes, Sem.run_pure]
          · simp only [RV]
            refine ⟨hdom, _, _, rfl, by omega, by omega, fun hc => ?_⟩
            obtain ⟨e1, e2⟩ := h5 (by omega)
            subst e1
            rw [if_neg (by omega), hsz]
            refine ⟨?_, by omega⟩
            simp only [Option.map_some, Addr.add_none, Nat.add_mul, Nat.add_assoc]
        · cases he
      · cases he
    · -- nil
      rename_i hnil
      rw [hnil] at hx
      split at he
      · rename_i p l q hh hl hhh
        cases he
        obtain ⟨hp, hq, h1, h2⟩ := hside
        simp only [RV] at hx
        have hb := bounds_ok (P := P) (w := w) (cap := 0) (isS := true) hρ hl hp hhh hq h1 h2 (Nat.le_refl _)
        have e0 : l = 0 := by omega
        have e1 : hh = 0 := by omega
        refine .val (u := .slice none 0 0) h ?_ (by simp only [RV])
        simp only [Instr.sliceAt, Sem.run_bind, run_underlying hu, Result.andThen_ok, Instr.slice, hx, hb, hT.run_sizeOf hes, Sem.run_pure]
        subst e0; subst e1; rfl
      · cases he
    · rename_i hnr _
      split at he
      · rename_i es hel
        split at he
        · rename_i p l q hh hl hhh
          cases he
          obtain ⟨hp, hq, h1, h2, hz⟩ := hside
          -- the elements read on
          obtain ⟨ad, cap, sz, b, off, hv, h3, h4, h5, h6, h7⟩ : ∃ ad cap sz b off, a.eval x = .slice ad es.length cap ∧ es.length ≤ cap ∧ cap ≤ maxLen ∧ (es.isEmpty = false → ad = some ⟨b, off, none⟩) ∧ (frOf (ρ x) = true → g.base ≤ b) ∧ RE g w sz b off es := by
            cases hrx : ρ x with
            | sl fr es' =>
              rw [hrx] at hx hel
              cases hel
              simpa only [RV, frOf] using hx
            | v y =>
              rw [hrx] at hx hel
              simp only [RV] at hx
              unfold elems at hel
              split at hel
              · rename_i heq; cases heq
              · rename_i heq; cases heq; cases hel
                exact ⟨none, 0, 0, 0, 0, hx, Nat.le_refl _, by simp [maxLen], fun h0 => by simp at h0, fun h0 => by simp [frOf] at h0, by simp [RE]⟩
              · rename_i heq; cases heq
              · cases hel
            | row k sz i n => exact absurd hrx (hnr k sz i n)
            | _ => rw [hrx] at hel; cases hel
          have hb := bounds_ok (P := P) (isS := true) hρ hl hp hhh hq h1 h2 h3
          refine .val (u := .slice (if cap = l then ad else ad.map (·.add (l * (T.at e).sz))) (hh - l) (cap - l)) h ?_ ?_
          · simp only [Instr.sliceAt, Sem.run_bind, run_underlying hu, Result.andThen_ok, Instr.slice, hv, hb, hT.run_sizeOf hes, Sem.run_pure]
          · have hlen : ((es.take hh).drop l).length = hh - l := by simp; omega
            simp only [RV]
            refine ⟨_, _, sz, b, off + l * sz, by rw [hlen], by rw [hlen]; omega, by omega, fun hne => ?_, h6, RE.drop l (RE.take hh h7)⟩
            have hnz : hh - l ≠ 0 := fun h0 => by
              rw [← hlen] at h0
              have := List.length_eq_zero_iff.1 h0
              rw [this] at hne; simp at hne
            have hes0 : es ≠ [] := fun h0 => by subst h0; simp at h2; omega
            have hsz : sz = (T.at e).sz := by
              cases es with
              | nil => exact absurd rfl hes0
              | cons z r => simp only [RE] at h7; rw [← h7.1]; exact hz z (by simp)
            rw [if_neg (by omega), h5 (by cases es with | nil => exact absurd rfl hes0 | cons _ _ => rfl), hsz]
            simp only [Option.map_some, Addr.add_none]
        · cases he
      · cases he
  · -- an array's address
    rename_i n e hk
    rw [hk] at hd
    obtain ⟨rfl, hes, _⟩ := hd
    split at he
    · rename_i k off hrow
      rw [hrow] at hx
      split at he
      · rename_i p l q hh hl hhh
        cases he
        obtain ⟨hp, hq, h1, h2, h9⟩ := hside
        simp only [RV] at hx
        obtain ⟨hdom, hv⟩ := hx
        have hb := bounds_ok (P := P) (isS := false) hρ hl hp hhh hq h1 h2 (Nat.le_refl _)
        refine .val (u := .slice (some (if n = l then ⟨(g.gb k).b, off, none⟩ else ⟨(g.gb k).b, off + l * (T.at e).sz, none⟩)) (hh - l) (n - l)) h ?_ ?_
        · simp only [Instr.sliceAt, Sem.run_bind, run_underlying hu, Result.andThen_ok, Instr.sureAddr, hv, hb, hT.run_sizeOf hes, Sem.run_pure, Addr.add_none]
        · simp only [RV]
          refine ⟨hdom, _, _, rfl, by omega, by simp [maxLen]; omega, fun hc => ?_⟩
          have : hh - l ≠ 0 := fun h0 => hc (by rw [h0, Nat.zero_mul])
          rw [if_neg (by omega)]
      · cases he
    · cases he
  · -- a string
    rename_i hk
    rw [hk] at hd
    simp only [KindOK] at hd
    subst hd
    split at he
    · rename_i b hrow
      rw [hrow] at hx
      split at he
      · rename_i p l q hh hl hhh
        cases he
        obtain ⟨hp, hq, h1, h2⟩ := hside
        simp only [RV] at hx
        have hb := bounds_ok (P := P) (isS := false) hρ hl hp hhh hq h1 h2 (Nat.le_refl _)
        refine .val (u := .string (b.extract l hh)) h ?_ (by simp only [RV])
        simp only [Instr.sliceAt, Sem.run_bind, run_underlying hu, Result.andThen_ok, Instr.slice, hx, Option.isSome_none, Bool.false_eq_true, if_false, hb, Sem.run_pure]
      · cases he
    · cases he
  · cases he
theorem indexAddr_ok (hT : TOK T P) (h : MR T cx g m w) {t : Nat} (hs : (T.at t).sz ≠ 0) {x : PV} {u : Value} (hx : RV g w x u) {k : IntKind} {i : Int} {side : Prop} {v : PV} (he : indexAddrV T t x i = some (side, v)) (hside : side) :
    StepOK T P cx g m w nm (do let z ← Instr.indexAt t u (.int k i); pure (Next.value z)) v [] := by
  obtain ⟨d, hu, hd⟩ := hT.kind hs
  unfold indexAddrV at he
  split at he
  · rename_i n e hk
    rw [hk] at hd
    obtain ⟨rfl, hes, _⟩ := hd
    have hrun : ∀ b off : Nat, 0 ≤ i ∧ i < (n : Int) → (Instr.indexAt t (.pointer (some ⟨b, off, none⟩)) (.int k i)).run P w = .ok (.pointer (some ⟨b, off + i.toNat * (T.at e).sz, none⟩)) w := fun b off hi => by
      simp only [Instr.indexAt, Sem.run_bind, asIntOf, Sem.run_pure, Result.andThen_ok, run_underlying hu, Instr.sureAddr]
      rw [if_pos hi]
      simp only [Sem.run_bind, hT.run_sizeOf hes, Result.andThen_ok, Sem.run_pure, Addr.add_none]
    split at he
    · cases he
      simp only [RV] at hx
      obtain ⟨hd, rfl⟩ := hx
      exact .val h (hrun _ _ hside) (by simp only [RV, and_true]; exact hd)
    · cases he
      simp only [RV] at hx
      obtain ⟨hd, rfl⟩ := hx
      exact .val h (hrun _ _ hside) (by simp only [RV]; exact ⟨hd, by rw [Nat.add_assoc]⟩)
    · cases he
      simp only [RV] at hx
      obtain ⟨b, off, rfl, hf, hm⟩ := hx
      exact .val h (hrun _ _ hside) (by simp only [RV]; exact ⟨b, _, rfl, hf, hm.drop _⟩)
    · cases he
  · rename_i e hk
    rw [hk] at hd
    obtain ⟨rfl, hes⟩ := hd
    have hrun : ∀ (b off len cap : Nat), 0 ≤ i ∧ i < (len : Int) → (Instr.indexAt t (.slice (some ⟨b, off, none⟩) len cap) (.int k i)).run P w = .ok (.pointer (some ⟨b, off + i.toNat * (T.at e).sz, none⟩)) w := fun b off len cap hi => by
      simp only [Instr.indexAt, Sem.run_bind, asIntOf, Sem.run_pure, Result.andThen_ok, run_underlying hu]
      rw [if_pos hi]
      simp only [Sem.run_bind, hT.run_sizeOf hes, Result.andThen_ok, Sem.run_pure, Addr.add_none]
    split at he
    · rename_i k' sz j n
      split at he
      · rename_i hsz
        cases he
        simp only [RV] at hx
        obtain ⟨hd, a, cap, rfl, h1, h2, h3⟩ := hx
        obtain ⟨e1, e2⟩ := h3 (by omega)
        subst e1
        refine .val h (hrun _ _ _ _ hside) ?_
        simp only [RV]
        refine ⟨hd, ?_⟩
        rw [hsz, Nat.add_mul, Nat.add_zero, Nat.add_assoc]
      · cases he
    · rename_i fr es
      split at he
      · rename_i c hc
        cases he
        obtain ⟨h0, hl⟩ := hside
        simp only [RV] at hx
        obtain ⟨a, cap, sz, b, off, rfl, h1, h2, h3, h4, h5⟩ := hx
        have hlt := (List.getElem?_eq_some_iff.1 hc).1
        obtain ⟨h6, h7⟩ := RE.get h5 _ c hc
        have ha := h3 (by cases es with | nil => simp at hlt | cons _ _ => rfl)
        subst ha
        refine .val h (hrun _ _ _ _ ⟨h0, by omega⟩) ?_
        simp only [RV]
        refine ⟨b, _, rfl, h4, ?_⟩
        rw [← hl, h6]; exact h7
      · cases he
    · rename_i k' off sz n
      split at he
      · rename_i hsz
        cases he
        simp only [RV] at hx
        obtain ⟨hd, a, cap, rfl, h1, h2, h3⟩ := hx
        have hn : n ≠ 0 := by omega
        have e1 := h3 (Nat.mul_ne_zero hn (by rw [hsz]; exact hes))
        subst e1
        refine .val h (hrun _ _ _ _ hside) ?_
        simp only [RV]
        exact ⟨hd, by rw [hsz]⟩
      · cases he
    · cases he
  · cases he
theorem makeMap_ok (h : MR T cx g m w) (hnm : ¬ g.dom nm) {t : Nat} {kd : IntKind} :
    StepOK T P cx g m w nm (do let a ← Instr.makeMap t none; pure (Next.value a)) (.mp nm) [(nm, .mp kd [])] := by
  obtain ⟨hm, hex⟩ := h.alloc (nm := nm) (off := 0) (cap := 0) (bx := .mp kd []) (o := .map #[] 0) hnm
    (fun g' w' hx' hw => ⟨rfl, _, 0, hw, rfl, by simp only [List.map_nil, RL]⟩)
  refine ⟨.map (some w.heap.size), _, _, .inl (run_value (by simp [Instr.makeMap])), ?_, hm, hex, fun k hk => hk⟩
  simp only [RV]
  exact ⟨.inr rfl, by rw [Gh.add_gb_new]⟩
theorem run_checkKey_int {b : Bool} {d t : Nat} {kd k : IntKind} {n : Int} (hu : P.underlying t = some (.int kd)) (w : World) : (Instr.checkKey b (d + 1) t (.int k n)).run P w = .ok () w := by
  simp only [Instr.checkKey, Sem.run_bind, run_underlying hu, Result.andThen_ok, Sem.run_pure]
theorem findNow_ok {kd : IntKind} {n : Int} : ∀ {ps : List (Int × PV)} {es : List MapEntry} (i : Nat), es.map (·.key) = ps.map (fun e => Value.int kd e.1) → RL g w (ps.map (·.2)) (es.map (·.val)) →
    ∃ r, Instr.findNow (.int kd) (.int kd n) es i = some r ∧ match lookE ps n with
      | none => r = none
      | some p => ∃ j v, r = some (j, v) ∧ RV g w p v
  | [], es, i, hk, _ => by
    have : es = [] := by simpa using hk
    subst this
    exact ⟨none, rfl, rfl⟩
  | (k, p) :: ps, [], i, hk, _ => by simp at hk
  | (k, p) :: ps, e :: es, i, hk, hl => by
    simp only [List.map_cons, List.cons.injEq] at hk
    simp only [List.map_cons, RL, List.cons.injEq] at hl
    obtain ⟨c, r, ⟨rfl, rfl⟩, h1, h2⟩ := hl
    simp only [Instr.findNow, hk.1, Instr.sameNow, if_true, lookE]
    by_cases e' : n = k
    · subst e'
      rw [if_pos rfl]
      simp only [beq_self_eq_true]
      exact ⟨_, rfl, i, _, rfl, h1⟩
    · have hb : (n == k) = false := by simpa using e'
      rw [if_neg e']
      simp only [hb]
      exact findNow_ok (i + 1) hk.2 h2
theorem getObj_run {b : Nat} {es : Array MapEntry} {ck : Nat} (h : w.heap[b]? = some (.map es ck)) : (getObj b).run P w = .ok (.map es ck) w := by
  simp [getObj, Sem.run, h]
theorem setObj_run {b : Nat} {es : Array MapEntry} {ck : Nat} {o' : Obj} (h : w.heap[b]? = some (.map es ck)) : (setObj b o').run P w = .ok () (w.putObj b o') := by
  simp [setObj, Sem.run, h, World.putObj]
theorem run_findKey {kt : Nat} {kd : IntKind} {n : Int} {es : List MapEntry} {r} (hu : P.underlying kt = some (.int kd)) (h : Instr.findNow (.int kd) (.int kd n) es 0 = some r) (w : World) : (Instr.findKey kt (.int kd n) es).run P w = .ok r w := by
  simp only [Instr.findKey, Sem.run_bind, run_underlying hu, Result.andThen_ok, h, Sem.run_pure]
theorem lookup_ok (hT : TOK T P) (h : MR T cx g m w) {t kt e b : Nat} {kd : IntKind} {n : Int} {es : List (Int × PV)} {ok : Bool} {u : Value} (hk : (T.at t).kind = .map kt e) (hkk : (T.at kt).kind = .int kd) (hb : m.bx b = .mp kd es) (he : (T.at e).sz ≠ 0) (hx : RV g w (.mp b) u) :
    StepOK T P cx g m w nm (do let z ← Instr.lookup t u (.int kd n) ok; pure (Next.value z)) (lookV es n ok) [] := by
  simp only [RV] at hx
  obtain ⟨hd, rfl⟩ := hx
  have hbx := h.box b hd
  rw [hb] at hbx
  obtain ⟨h0, ms, ck, h1, h2, h3⟩ := hbx
  obtain ⟨d, hu, hd'⟩ := hT.kind (hT.sz hk (by simp))
  rw [hk] at hd'; simp only [KindOK] at hd'; subst hd'
  obtain ⟨d2, hu2, hd2⟩ := hT.kind (hT.sz hkk (by simp))
  rw [hkk] at hd2; simp only [KindOK] at hd2; subst hd2
  obtain ⟨r, hr, hm⟩ := findNow_ok (n := n) 0 h2 h3
  obtain ⟨z, hz, _⟩ := hT.run_zeroValue he w
  have hfk := run_findKey (n := n) hu2 hr w
  have hck := run_checkKey_int (b := ms.isEmpty) (d := 9999) (k := kd) (n := n) hu2 w
  have key : ∀ v t', (match r with | some (_, v) => (v, true) | none => (z, false)) = (v, t') → (Instr.lookup t (.map (some (g.gb b).b)) (.int kd n) ok).run P w = .ok (if ok then .tuple #[v, .bool t'] else v) w := by
    intro v t' hv
    cases r with
    | none =>
      cases hv
      simp only [Instr.lookup, Sem.run_bind, run_underlying hu, Result.andThen_ok, getObj_run h1, Sem.run_pure, hck, hfk, hz]
    | some jv =>
      cases hv
      simp only [Instr.lookup, Sem.run_bind, run_underlying hu, Result.andThen_ok, getObj_run h1, Sem.run_pure, hck, hfk]
  unfold lookV
  cases hl : lookE es n with
  | none =>
    rw [hl] at hm
    subst hm
    refine .val h (key z false rfl) ?_
    cases ok
    · simp only [RV, Bool.false_eq_true, if_false]
    · simp only [RV, if_true, RL]
      exact ⟨[z, .bool false], rfl, _, _, rfl, trivial, _, _, rfl, rfl, rfl⟩
  | some p =>
    rw [hl] at hm
    obtain ⟨j, v, rfl, hv⟩ := hm
    refine .val h (key v true rfl) ?_
    cases ok
    · simp only [Bool.false_eq_true, if_false]; exact hv
    · simp only [RV, if_true, RL]
      exact ⟨[v, .bool true], rfl, _, _, rfl, hv, _, _, rfl, rfl, rfl⟩
theorem insert_ok (hT : TOK T P) (h : MR T cx g m w) {t kt e b : Nat} {kd : IntKind} {n : Int} {es : List (Int × PV)} {u y : Value} {x : PV} (hk : (T.at t).kind = .map kt e) (hkk : (T.at kt).kind = .int kd) (hb : m.bx b = .mp kd es) (hn : lookE es n = none) (hx : RV g w (.mp b) u) (hy : RV g w x y) :
    StepOK T P cx g m w nm (do Instr.mapUpdate t u (.int kd n) y; pure .skip) .any [(b, .mp kd (es ++ [(n, x)]))] := by
  simp only [RV] at hx
  obtain ⟨hd, rfl⟩ := hx
  have hbx := h.box b hd
  rw [hb] at hbx
  obtain ⟨h0, ms, ck, h1, h2, h3⟩ := hbx
  obtain ⟨d, hu, hd'⟩ := hT.kind (hT.sz hk (by simp))
  rw [hk] at hd'; simp only [KindOK] at hd'; subst hd'
  obtain ⟨d2, hu2, hd2⟩ := hT.kind (hT.sz hkk (by simp))
  rw [hkk] at hd2; simp only [KindOK] at hd2; subst hd2
  obtain ⟨r, hr, hm⟩ := findNow_ok (n := n) 0 h2 h3
  rw [hn] at hm
  subst hm
  have hfk := run_findKey (n := n) hu2 hr w
  have hck := run_checkKey_int (b := false) (d := 9999) (k := kd) (n := n) hu2 w
  have hown : Owns g m b := ⟨hd, by rw [hb]; rfl⟩
  have hrun : (Instr.mapUpdate t (.map (some (g.gb b).b)) (.int kd n) y).run P w = .ok () (w.putObj (g.gb b).b (.map (ms.push { key := .int kd n, val := y, born := ck }) (ck + 1))) := by
    simp only [Instr.mapUpdate, Sem.run_bind, run_underlying hu, Result.andThen_ok, getObj_run h1, hck, hfk, setObj_run h1]
  obtain ⟨hm, he⟩ := h.upd (w' := w.putObj (g.gb b).b (.map (ms.push { key := .int kd n, val := y, born := ck }) (ck + 1))) (bx := .mp kd (es ++ [(n, x)])) hown (World.putObj_size ..) rfl rfl rfl
    (fun j hj => World.putObj_heap_other hj) rfl
    (fun hx' => ⟨h0, _, _, World.putObj_heap_same (h.owns_block hown), by simp [h2], by
      simp only [List.map_append, List.map_cons, List.map_nil, Array.toList_push]
      exact (h3.mono hx').append (by simp only [RL]; exact ⟨_, _, rfl, hy.mono hx', rfl⟩)⟩)
  exact ⟨undef, _, g, .inr ⟨by simp only [Sem.run_bind, hrun, Result.andThen_ok, Sem.run_pure], rfl⟩, by simp only [RV], hm, he, fun _ hk => .inl hk⟩
theorem RC.pre {sz : Nat} : ∀ {es : List (List PV)} {cs : List Value} (i : Nat), RC g w sz es cs → RC g w sz (es.take i) cs
  | [], _, i, _ => by simp [RC]
  | x :: es, cs, 0, _ => by simp [RC]
  | x :: es, cs, i + 1, h => by
    simp only [RC] at h
    obtain ⟨h1, c, r, rfl, h2, h3⟩ := h
    simp only [List.take_succ_cons, RC]
    exact ⟨h1, c, r, rfl, h2, RC.pre i h3⟩
theorem clear_ok (hT : TOK T P) (h : MR T cx g m w) {t ty e k sz i n : Nat} {es : List (List PV)} {u : Value} (hk : (T.at t).kind = .slice e) (hb : m.bx k = .row sz es) (hsz : sz = (T.at e).sz) (hle : i + n ≤ es.length) (hx : RV g w (.row k sz i n) u) :
    StepOK T P cx g m w nm (do pure (Next.value (← Builtin.clear_ #[t] ty #[u]))) .any [(k, .row sz (es.take i ++ List.replicate n ((T.at e).zero.map .v) ++ es.drop (i + n)))] := by
  simp only [RV] at hx
  obtain ⟨hd, a, cap, rfl, h1, h2, h3⟩ := hx
  obtain ⟨d, hu, hd'⟩ := hT.kind (hT.sz hk (by simp))
  rw [hk] at hd'
  obtain ⟨rfl, hes⟩ := hd'
  have hbx := h.box k hd
  rw [hb] at hbx
  obtain ⟨b1, b2, b3⟩ := hbx
  cases n with
  | zero =>
    have hrun : (Builtin.clear_ #[t] ty #[.slice a 0 cap]).run P w = .ok (.tuple #[]) w := by
      cases a <;> simp [Builtin.clear_, run_underlying hu]
    have hsame : setBs m.bx [(k, .row sz (es.take i ++ List.replicate 0 ((T.at e).zero.map .v) ++ es.drop (i + 0)))] = m.bx := by
      funext j
      simp only [setBs, setB, List.replicate_zero, List.append_nil, Nat.add_zero, List.take_append_drop]
      by_cases e' : j = k
      · subst e'; simp [hb]
      · have : (j == k) = false := by simpa using e'
        simp [this]
    refine ⟨.tuple #[], w, g, .inl (run_value hrun), by simp only [RV], ?_, ?_, fun _ hk => .inl hk⟩
    · rw [hsame]; exact h
    · rw [hsame]; exact EX.refl _ _ _ _
  | succ n =>
    obtain ⟨ha, hcap⟩ := h3 (by omega)
    subst ha
    obtain ⟨cs, te, c1, c2, c3⟩ := b3 (by omega)
    obtain ⟨z, hz, z1, z2⟩ := hT.run_zeroValue hes w
    obtain ⟨zl, zone⟩ := hT.zero_one hes
    obtain ⟨zs, hzs⟩ : ∃ zs : List Value, zs = (List.replicate (n + 1) (T.at e).zero).flatten := ⟨_, rfl⟩
    have hzc : (Builtin.zeroCells z.cells (n + 1)).toList = zs := by
      rw [hzs]; unfold Builtin.zeroCells; rw [zeros_flat, z1]
    have hzl : zs.length = (n + 1) * sz := by rw [hzs, hsz]; simp [zl]
    have hone : ∀ c ∈ zs, c.oneCell' = true := by
      intro c hc
      rw [hzs, List.mem_flatten] at hc
      obtain ⟨l, hl, hc⟩ := hc
      rw [(List.mem_replicate.1 hl).2] at hc
      exact zone c hc
    have hfit : (i + (n + 1)) * sz ≤ (g.gb k).cap * sz := Nat.mul_le_mul_right _ (by omega)
    rw [Nat.add_mul] at hfit
    have hst := run_storeCells_at P (g.gb k).b ((g.gb k).off + i * sz) te zs 0 cs w c1 (by rw [hzl]; omega) hone
    simp only [Nat.add_zero] at hst
    have hrun : (Builtin.clear_ #[t] ty #[.slice (some ⟨(g.gb k).b, (g.gb k).off + i * sz, none⟩) (n + 1) cap]).run P w = .ok (.tuple #[]) (w.setRow (g.gb k).b (cs.toList.take ((g.gb k).off + i * sz) ++ zs ++ cs.toList.drop ((g.gb k).off + i * sz + zs.length)).toArray) := by
      simp [Builtin.clear_, run_underlying hu, hz, hzc, hst]
    have hown : Owns g m k := ⟨hd, by rw [hb]; simp [Box.owns]; omega⟩
    have hcs : cs.toList.length = cs.size := by simp
    obtain ⟨hm, he⟩ := h.upd (w' := w.setRow (g.gb k).b (cs.toList.take ((g.gb k).off + i * sz) ++ zs ++ cs.toList.drop ((g.gb k).off + i * sz + zs.length)).toArray)
      (bx := .row sz (es.take i ++ List.replicate (n + 1) ((T.at e).zero.map .v) ++ es.drop (i + (n + 1)))) hown (by simp) rfl rfl rfl
      (fun j hj => setRow_other w _ j _ hj) (by simp [Box.owns]; omega)
      (fun hx' => by
        refine ⟨by simp; omega, b2, fun _ => ⟨_, te, setRow_at w _ cs _ te c1, by simp; omega, ?_⟩⟩
        have c3' := RC.mono hx' es sz _ c3
        have hlist : ((cs.toList.take ((g.gb k).off + i * sz) ++ zs ++ cs.toList.drop ((g.gb k).off + i * sz + zs.length)).toArray.toList).drop (g.gb k).off = (cs.toList.drop (g.gb k).off).take (i * sz) ++ zs ++ (cs.toList.drop (g.gb k).off).drop ((i + (n + 1)) * sz) := by
          rw [List.append_assoc, List.append_assoc, List.drop_append_of_le_length (by simp; omega), List.drop_take, List.drop_drop]
          congr 1
          · congr 1; omega
          · have e9 : (g.gb k).off + i * sz + zs.length = (g.gb k).off + (i + (n + 1)) * sz := by rw [hzl, Nat.add_mul i (n + 1) sz, Nat.add_assoc]
            rw [e9]
        rw [hlist]
        have hlen := RC.length c3'
        have p1 := (RC.pre i c3').take
        rw [show (es.take i).length = i by rw [List.length_take]; exact Nat.min_eq_left (by omega)] at p1
        have p2 : RC g (w.setRow (g.gb k).b (cs.toList.take ((g.gb k).off + i * sz) ++ zs ++ cs.toList.drop ((g.gb k).off + i * sz + zs.length)).toArray) sz (List.replicate (n + 1) ((T.at e).zero.map PV.v)) zs := by
          refine RC.of_flat (fun e' he' => ?_) ?_
          · rw [(List.mem_replicate.1 he').2, hsz]; simp [zl]
          · have : (List.replicate (n + 1) ((T.at e).zero.map PV.v)).flatten = zs.map PV.v := by rw [hzs, List.map_flatten, List.map_replicate]
            rw [this]; exact RL.map_v _
        have hmul : i * sz ≤ es.length * sz := Nat.mul_le_mul_right _ (by omega)
        have hti : (es.take i).length = i := by rw [List.length_take]; exact Nat.min_eq_left (by omega)
        have hl1 : ((cs.toList.drop (g.gb k).off).take (i * sz)).length = i * sz := by rw [List.length_take]; exact Nat.min_eq_left (by omega)
        exact RC.append (RC.append p1 (by rw [hl1, hti]) p2) (by rw [List.length_append, hl1, hzl, List.length_append, hti, List.length_replicate, Nat.add_mul i (n + 1) sz]) (RC.drop _ c3'))
    exact ⟨.tuple #[], _, g, .inl (run_value hrun), by simp only [RV], hm, he, fun _ hk => .inl hk⟩
theorem part_ok (hT : TOK T P) {t off : Nat} {xs : List PV} {us : List Value} {v : PV} (hx : RL g w xs us) (hv : ofCells (T.at t) (xs.drop off) = some v) :
    ∃ u, (part t us.toArray off).run P w = .ok u w ∧ RV g w v u := by
  unfold ofCells at hv
  by_cases hs : (T.at t).sz = 0
  · simp [hs] at hv
  rw [if_neg hs] at hv
  have hd := hx.drop off
  by_cases ha : (T.at t).kind.isAgg = true
  · rw [if_pos ha] at hv
    split at hv
    · rename_i hle
      cases hv
      refine ⟨.agg ((us.drop off).take (T.at t).sz).toArray, ?_, by simp only [RV]; exact ⟨_, rfl, hd.take _⟩⟩
      simp only [part, Sem.run_bind, hT.run_isAgg hs, Result.andThen_ok, ha, if_true, hT.run_sizeOf hs, Sem.run_pure]
      congr 2
      apply Array.ext'
      simp [List.take_drop]
    · cases hv
  · rw [if_neg ha] at hv
    cases hxs : xs.drop off with
    | nil => rw [hxs] at hv; cases hv
    | cons x r =>
      rw [hxs] at hv hd
      cases hv
      simp only [RL] at hd
      obtain ⟨c, r', e, hc, _⟩ := hd
      refine ⟨c, ?_, hc⟩
      have : us[off]? = some c := by
        have := congrArg (fun l => l[0]?) e
        simpa using this
      simp only [part, Sem.run_bind, hT.run_isAgg hs, Result.andThen_ok, ha, Bool.false_eq_true, if_false, List.getElem?_toArray, this, Sem.run_pure]
end
end Go.Proofs.Ytcbhmedknbiffaa
