/-
  The operations of the layer VS are sound: slices, addresses, parts.
-/
import Derived.Test.YthaomidjgadieaaVsK
namespace Go.Proofs.Ythaomidjgadieaa
open Go Go.RowKit

section
variable {T : Tab} {P : Program} {cx : Cx} {g : Gh} {m : Mem} {w : World} {nm : Nat}

theorem makeSlice_ok (hT : TOK T P) (h : MR T cx g m w) (hnm : ¬ g.dom nm) {t e : Nat} (hk : (T.at t).kind = .slice e) (hs : (T.at t).sz ≠ 0) {a b : Int}
    (h0 : 0 ≤ a) (h1 : a ≤ b) (h2 : b * (T.at e).bytes ≤ 281474976710656) (h3 : b ≤ 9223372036854775807) :
    StepOK T P cx g m w nm (do let u ← Instr.makeSlice t (.int .i64 a) (.int .i64 b); pure (Next.value u)) (.row nm (T.at e).sz 0 a.toNat) [(nm, .row (T.at e).sz (List.replicate a.toNat ((T.at e).zero.map .v)))] := by
  obtain ⟨d, hu, hd⟩ := hT.kind hs
  rw [hk] at hd
  obtain ⟨rfl, he⟩ := hd
  obtain ⟨inf, z, hi1, hi2, hi3, hi4, hi5, hi6⟩ := hT.info he
  obtain ⟨hz1, hz2⟩ := hT.zero_one he
  have hwa : IntKind.i64.wrap a = a := IntWalk.i64_in _ (by omega)
  have hwb : IntKind.i64.wrap b = b := IntWalk.i64_in _ (by omega)
  obtain ⟨an, rfl⟩ := Int.eq_ofNat_of_zero_le h0
  obtain ⟨bn, rfl⟩ := Int.eq_ofNat_of_zero_le (by omega : 0 ≤ b)
  have hrz : ∀ n : Nat, n = bn * (T.at e).sz → ∀ zc : Array Value, (n = 0 ∧ zc = #[] ∨ zc = z.cells) → ((Array.range n).map (zc[· % zc.size]!)).toList = (List.replicate bn (T.at e).zero).flatten := by
    intro n hn zc hzc
    rcases hzc with ⟨h0, rfl⟩ | rfl
    · subst h0
      have : bn = 0 := by
        rcases Nat.mul_eq_zero.1 hn.symm with h | h
        · exact h
        · exact absurd h he
      subst this; simp
    · rw [hn, ← hi6, zeros_flat, hi5]
  have hrun : ∃ cs : Array Value, cs.toList = (List.replicate bn (T.at e).zero).flatten ∧ (Instr.makeSlice t (.int .i64 an) (.int .i64 bn)).run P w = .ok (.slice (some ⟨w.heap.size, 0, none⟩) an bn) (w.alloc (.cells cs e)) := by
    have hb2 : ¬ (281474976710656 : Int) < (inf.bytes : Int) * bn := by rw [hi3, Int.mul_comm]; omega
    by_cases hn : bn * (T.at e).sz = 0
    · refine ⟨(Array.range (bn * (T.at e).sz)).map ((#[] : Array Value)[· % (#[] : Array Value).size]!), hrz _ rfl #[] (.inl ⟨hn, rfl⟩), ?_⟩
      simp only [Instr.makeSlice, Sem.run_bind, run_underlying hu, Result.andThen_ok, asInt, asIntOf, Sem.run_pure, typeInfo, run_program, hi1, hwa, hwb]
      rw [if_neg (by simp; omega)]
      simp only [Int.toNat_natCast, Sem.run_bind, run_askRoom, Result.andThen_ok, hT.run_sizeOf he]
      rw [if_pos hn]
      simp [newRow]
    · refine ⟨(Array.range (bn * (T.at e).sz)).map (z.cells[· % z.cells.size]!), hrz _ rfl z.cells (.inr rfl), ?_⟩
      simp only [Instr.makeSlice, Sem.run_bind, run_underlying hu, Result.andThen_ok, asInt, asIntOf, Sem.run_pure, typeInfo, run_program, hi1, hwa, hwb]
      rw [if_neg (by simp; omega)]
      simp only [Int.toNat_natCast, Sem.run_bind, run_askRoom, Result.andThen_ok, hT.run_sizeOf he]
      rw [if_neg hn]
      simp [newRow, zeroValue, typeInfo, hi1, hi4]
  obtain ⟨cs, hcs, hrun⟩ := hrun
  have hsize : cs.size = bn * (T.at e).sz := by
    have := congrArg List.length hcs
    simpa [hz1] using this
  obtain ⟨hm, hex⟩ := h.alloc (nm := nm) (off := 0) (cap := bn) (bx := .row (T.at e).sz (List.replicate an ((T.at e).zero.map .v))) (o := .cells cs e) hnm
    (fun g' w' hx' hw => ⟨by simp; omega, by simp [maxLen]; omega, fun _ => ⟨cs, e, hw, by simp; omega, by
        simp only [List.drop_zero]
        have : cs.toList = (List.replicate an (T.at e).zero).flatten ++ (List.replicate (bn - an) (T.at e).zero).flatten := by
          rw [hcs, ← List.flatten_append, List.replicate_append_replicate]; congr 2; omega
        rw [this]
        refine (RC.of_flat (fun z hz => by rw [List.mem_replicate] at hz; rw [hz.2]; simp [hz1]) ?_).more _
        have : (List.replicate an ((T.at e).zero.map PV.v)).flatten = ((List.replicate an (T.at e).zero).flatten).map PV.v := by
          rw [List.map_flatten, List.map_replicate]
        rw [this]; exact RL.map_v _⟩⟩)
  refine ⟨_, _, _, .inl (run_value hrun), ?_, hm, hex, fun k hk => hk⟩
  simp only [RV, Int.toNat_natCast]
  exact ⟨.inr rfl, _, _, rfl, by omega, by simp [maxLen]; omega, fun _ => by rw [Gh.add_gb_new]; exact ⟨by rw [Nat.zero_mul], Nat.zero_add _⟩⟩

/-! ### Slices -/

theorem bounds_ok {ρ : Operand → PV} {a : Act} (hρ : ∀ x, RV g w (ρ x) (a.eval x)) {lo hi : Option Operand} {p q : Prop} {l hh n cap : Nat} {isS : Bool} (hl : boundV ρ 0 lo = some (p, l)) (hp : p) (hh' : boundV ρ n hi = some (q, hh)) (hq : q)
    (h1 : l ≤ hh) (h2 : hh ≤ n) (h3 : n ≤ cap) : (Instr.sliceBounds isS n cap (lo.map a.eval) (hi.map a.eval) none).run P w = .ok (l, hh, cap) w := by
  have key : ∀ (o : Option Operand) (d y r : Nat) (s : Prop) (c : BoundsCode), boundV ρ d o = some (s, r) → s → r ≤ y → (match o.map a.eval with | some v => Instr.sliceBound v y c | none => pure d).run P w = .ok r w := by
    intro o d y r s c ho hs hr
    cases o with
    | none => simp only [boundV] at ho; cases ho; rfl
    | some x =>
      simp only [boundV] at ho
      split at ho
      · rename_i k i hx
        cases ho
        have hv := hρ x
        rw [hx] at hv
        simp only [RV] at hv
        have : i ≤ (y : Int) := by omega
        simp [hv, Instr.sliceBound, asIntOf, hs, this]
      · cases ho
  have e1 := key hi n cap hh q (if isS then .sliceAcap else .sliceAlen) hh' hq (by omega)
  have e2 := key lo 0 hh l p .sliceB hl hp h1
  unfold Instr.sliceBounds
  cases hhi : hi.map a.eval with
  | none =>
    rw [hhi] at e1
    cases hlo : lo.map a.eval with
    | none => rw [hlo] at e2; simp only [Sem.run_pure, Result.ok.injEq, and_true] at e1 e2; subst e1; subst e2; simp
    | some v => rw [hlo] at e2; simp only [Sem.run_pure, Result.ok.injEq, and_true] at e1; subst e1; simp [e2]
  | some u =>
    rw [hhi] at e1
    cases hlo : lo.map a.eval with
    | none => rw [hlo] at e2; simp only [Sem.run_pure, Result.ok.injEq, and_true] at e2; subst e2; simp [e1]
    | some v => rw [hlo] at e2; simp [e1, e2]

theorem Addr.add_none (b o n : Nat) : (⟨b, o, none⟩ : Addr).add n = ⟨b, o + n, none⟩ := Addr.add_lit b o n

theorem RE.drop {sz b : Nat} : ∀ {es : List (List PV)} {off : Nat} (n : Nat), RE g w sz b off es → RE g w sz b (off + n * sz) (es.drop n)
  | [], _, n, _ => by simp [RE]
  | e :: es, off, n, h => by
    cases n with
    | zero => simpa using h
    | succ n =>
      simp only [RE] at h
      have := RE.drop n h.2.2
      rw [Nat.succ_mul, List.drop_succ_cons, show off + (n * sz + sz) = off + sz + n * sz by omega]
      exact this

theorem RE.take {sz b : Nat} : ∀ {es : List (List PV)} {off : Nat} (n : Nat), RE g w sz b off es → RE g w sz b off (es.take n)
  | [], _, n, _ => by simp [RE]
  | e :: es, off, n, h => by
    cases n with
    | zero => simp [RE]
    | succ n =>
      simp only [RE] at h
      simp only [List.take_succ_cons, RE]
      exact ⟨h.1, h.2.1, RE.take n h.2.2⟩

theorem slice_ok (hT : TOK T P) (h : MR T cx g m w) {ρ : Operand → PV} {a : Act} (hρ : ∀ x, RV g w (ρ x) (a.eval x)) {t : Nat} (hs : (T.at t).sz ≠ 0) {x : Operand} {lo hi : Option Operand} {side : Prop} {v : PV}
    (he : sliceV T ρ m.bx t (ρ x) lo hi = some (side, v)) (hside : side) :
    StepOK T P cx g m w nm (do let u ← Instr.sliceAt t (a.eval x) (lo.map a.eval) (hi.map a.eval) none; pure (Next.value u)) v [] := by
  have hx := hρ x
  obtain ⟨d, hu, hd⟩ := hT.kind hs
  unfold sliceV at he
  split at he
  · -- a slice
    rename_i e hk
    rw [hk] at hd
    obtain ⟨rfl, hes⟩ := hd
    split at he
    · -- a row
      rename_i k sz i n hrow
      rw [hrow] at hx
      split at he
      · rename_i p l q hh hl hhh
        split at he
        · rename_i hsz
          cases he
          obtain ⟨hp, hq, h1, h2⟩ := hside
          simp only [RV] at hx
          obtain ⟨hdom, ad, cap, hv, h3, h4, h5⟩ := hx
          have hb := bounds_ok (P := P) (isS := true) hρ hl hp hhh hq h1 h2 h3
          refine .val (u := .slice (if cap = l then ad else ad.map (·.add (l * (T.at e).sz))) (hh - l) (cap - l)) h ?_ ?_
          · simp only [Instr.sliceAt, Sem.run_bind, run_underlying hu, Result.andThen_ok, Instr.slice, hv, hb, hT.run_sizeOf hes, Sem.run_pure]
          · simp only [RV]
            refine ⟨hdom, _, _, rfl, by omega, by omega, fun hc => ?_⟩
            obtain ⟨e1, e2⟩ := h5 (by omega)
            subst e1
            rw [if_neg (by omega), hsz]
            refine ⟨?_, by omega⟩
            simp only [Option.map_some, Addr.add_none, Nat.add_mul, Nat.add_assoc]
        · cases he
      · cases he
    · -- nil
      rename_i hnil
      rw [hnil] at hx
      split at he
      · rename_i p l q hh hl hhh
        cases he
        obtain ⟨hp, hq, h1, h2⟩ := hside
        simp only [RV] at hx
        have hb := bounds_ok (P := P) (w := w) (cap := 0) (isS := true) hρ hl hp hhh hq h1 h2 (Nat.le_refl _)
        have e0 : l = 0 := by omega
        have e1 : hh = 0 := by omega
        refine .val (u := .slice none 0 0) h ?_ (by simp only [RV])
        simp only [Instr.sliceAt, Sem.run_bind, run_underlying hu, Result.andThen_ok, Instr.slice, hx, hb, hT.run_sizeOf hes, Sem.run_pure]
        subst e0; subst e1; rfl
      · cases he
    · rename_i hnr _
      split at he
      · rename_i es hel
        split at he
        · rename_i p l q hh hl hhh
          cases he
          obtain ⟨hp, hq, h1, h2, hz⟩ := hside
          -- the elements read on
          obtain ⟨ad, cap, sz, b, off, hv, h3, h4, h5, h6, h7⟩ : ∃ ad cap sz b off, a.eval x = .slice ad es.length cap ∧ es.length ≤ cap ∧ cap ≤ maxLen ∧ (es.isEmpty = false → ad = some ⟨b, off, none⟩) ∧ (frOf (ρ x) = true → g.base ≤ b) ∧ RE g w sz b off es := by
            cases hrx : ρ x with
            | sl fr es' =>
              rw [hrx] at hx hel
              cases hel
              simpa only [RV, frOf] using hx
            | v y =>
              rw [hrx] at hx hel
              simp only [RV] at hx
              unfold elems at hel
              split at hel
              · rename_i heq; cases heq
              · rename_i heq; cases heq; cases hel
                exact ⟨none, 0, 0, 0, 0, hx, Nat.le_refl _, by simp [maxLen], fun h0 => by simp at h0, fun h0 => by simp [frOf] at h0, by simp [RE]⟩
              · rename_i heq; cases heq
              · cases hel
            | row k sz i n => exact absurd hrx (hnr k sz i n)
            | _ => rw [hrx] at hel; cases hel
          have hb := bounds_ok (P := P) (isS := true) hρ hl hp hhh hq h1 h2 h3
          refine .val (u := .slice (if cap = l then ad else ad.map (·.add (l * (T.at e).sz))) (hh - l) (cap - l)) h ?_ ?_
          · simp only [Instr.sliceAt, Sem.run_bind, run_underlying hu, Result.andThen_ok, Instr.slice, hv, hb, hT.run_sizeOf hes, Sem.run_pure]
          · have hlen : ((es.take hh).drop l).length = hh - l := by simp; omega
            simp only [RV]
            refine ⟨_, _, sz, b, off + l * sz, by rw [hlen], by rw [hlen]; omega, by omega, fun hne => ?_, h6, RE.drop l (RE.take hh h7)⟩
            have hnz : hh - l ≠ 0 := fun h0 => by
              rw [← hlen] at h0
              have := List.length_eq_zero_iff.1 h0
              rw [this] at hne; simp at hne
            have hes0 : es ≠ [] := fun h0 => by subst h0; simp at h2; omega
            have hsz : sz = (T.at e).sz := by
              cases es with
              | nil => exact absurd rfl hes0
              | cons z r => simp only [RE] at h7; rw [← h7.1]; exact hz z (by simp)
            rw [if_neg (by omega), h5 (by cases es with | nil => exact absurd rfl hes0 | cons _ _ => rfl), hsz]
            simp only [Option.map_some, Addr.add_none]
        · cases he
      · cases he
  · -- an array's address
    rename_i n e hk
    rw [hk] at hd
    obtain ⟨rfl, hes, _⟩ := hd
    split at he
    · rename_i k off hrow
      rw [hrow] at hx
      split at he
      · rename_i p l q hh hl hhh
        cases he
        obtain ⟨hp, hq, h1, h2, h9⟩ := hside
        simp only [RV] at hx
        obtain ⟨hdom, hv⟩ := hx
        have hb := bounds_ok (P := P) (isS := false) hρ hl hp hhh hq h1 h2 (Nat.le_refl _)
        refine .val (u := .slice (some (if n = l then ⟨(g.gb k).b, off, none⟩ else ⟨(g.gb k).b, off + l * (T.at e).sz, none⟩)) (hh - l) (n - l)) h ?_ ?_
        · simp only [Instr.sliceAt, Sem.run_bind, run_underlying hu, Result.andThen_ok, Instr.sureAddr, hv, hb, hT.run_sizeOf hes, Sem.run_pure, Addr.add_none]
        · simp only [RV]
          refine ⟨hdom, _, _, rfl, by omega, by simp [maxLen]; omega, fun hc => ?_⟩
          have : hh - l ≠ 0 := fun h0 => hc (by rw [h0, Nat.zero_mul])
          rw [if_neg (by omega)]
      · cases he
    · cases he
  · -- a string
    rename_i hk
    rw [hk] at hd
    simp only [KindOK] at hd
    subst hd
    split at he
    · rename_i b hrow
      rw [hrow] at hx
      split at he
      · rename_i p l q hh hl hhh
        cases he
        obtain ⟨hp, hq, h1, h2⟩ := hside
        simp only [RV] at hx
        have hb := bounds_ok (P := P) (isS := false) hρ hl hp hhh hq h1 h2 (Nat.le_refl _)
        refine .val (u := .string (b.extract l hh)) h ?_ (by simp only [RV])
        simp only [Instr.sliceAt, Sem.run_bind, run_underlying hu, Result.andThen_ok, Instr.slice, hx, Option.isSome_none, Bool.false_eq_true, if_false, hb, Sem.run_pure]
      · cases he
    · cases he
  · cases he

/-! ### Addresses and parts -/

theorem indexAddr_ok (hT : TOK T P) (h : MR T cx g m w) {t : Nat} (hs : (T.at t).sz ≠ 0) {x : PV} {u : Value} (hx : RV g w x u) {k : IntKind} {i : Int} {side : Prop} {v : PV} (he : indexAddrV T t x i = some (side, v)) (hside : side) :
    StepOK T P cx g m w nm (do let z ← Instr.indexAt t u (.int k i); pure (Next.value z)) v [] := by
  obtain ⟨d, hu, hd⟩ := hT.kind hs
  unfold indexAddrV at he
  split at he
  · rename_i n e hk
    rw [hk] at hd
    obtain ⟨rfl, hes, _⟩ := hd
    have hrun : ∀ b off : Nat, 0 ≤ i ∧ i < (n : Int) → (Instr.indexAt t (.pointer (some ⟨b, off, none⟩)) (.int k i)).run P w = .ok (.pointer (some ⟨b, off + i.toNat * (T.at e).sz, none⟩)) w := fun b off hi => by
      simp only [Instr.indexAt, Sem.run_bind, asIntOf, Sem.run_pure, Result.andThen_ok, run_underlying hu, Instr.sureAddr]
      rw [if_pos hi]
      simp only [Sem.run_bind, hT.run_sizeOf hes, Result.andThen_ok, Sem.run_pure, Addr.add_none]
    split at he
    · cases he
      simp only [RV] at hx
      obtain ⟨hd, rfl⟩ := hx
      exact .val h (hrun _ _ hside) (by simp only [RV, and_true]; exact hd)
    · cases he
      simp only [RV] at hx
      obtain ⟨hd, rfl⟩ := hx
      exact .val h (hrun _ _ hside) (by simp only [RV]; exact ⟨hd, by rw [Nat.add_assoc]⟩)
    · cases he
      simp only [RV] at hx
      obtain ⟨b, off, rfl, hf, hm⟩ := hx
      exact .val h (hrun _ _ hside) (by simp only [RV]; exact ⟨b, _, rfl, hf, hm.drop _⟩)
    · cases he
  · rename_i e hk
    rw [hk] at hd
    obtain ⟨rfl, hes⟩ := hd
    have hrun : ∀ (b off len cap : Nat), 0 ≤ i ∧ i < (len : Int) → (Instr.indexAt t (.slice (some ⟨b, off, none⟩) len cap) (.int k i)).run P w = .ok (.pointer (some ⟨b, off + i.toNat * (T.at e).sz, none⟩)) w := fun b off len cap hi => by
      simp only [Instr.indexAt, Sem.run_bind, asIntOf, Sem.run_pure, Result.andThen_ok, run_underlying hu]
      rw [if_pos hi]
      simp only [Sem.run_bind, hT.run_sizeOf hes, Result.andThen_ok, Sem.run_pure, Addr.add_none]
    split at he
    · rename_i k' sz j n
      split at he
      · rename_i hsz
        cases he
        simp only [RV] at hx
        obtain ⟨hd, a, cap, rfl, h1, h2, h3⟩ := hx
        obtain ⟨e1, e2⟩ := h3 (by omega)
        subst e1
        refine .val h (hrun _ _ _ _ hside) ?_
        simp only [RV]
        refine ⟨hd, ?_⟩
        rw [hsz, Nat.add_mul, Nat.add_zero, Nat.add_assoc]
      · cases he
    · rename_i fr es
      split at he
      · rename_i c hc
        cases he
        obtain ⟨h0, hl⟩ := hside
        simp only [RV] at hx
        obtain ⟨a, cap, sz, b, off, rfl, h1, h2, h3, h4, h5⟩ := hx
        have hlt := (List.getElem?_eq_some_iff.1 hc).1
        obtain ⟨h6, h7⟩ := RE.get h5 _ c hc
        have ha := h3 (by cases es with | nil => simp at hlt | cons _ _ => rfl)
        subst ha
        refine .val h (hrun _ _ _ _ ⟨h0, by omega⟩) ?_
        simp only [RV]
        refine ⟨b, _, rfl, h4, ?_⟩
        rw [← hl, h6]; exact h7
      · cases he
    · cases he
  · cases he

theorem part_ok (hT : TOK T P) {t off : Nat} {xs : List PV} {us : List Value} {v : PV} (hx : RL g w xs us) (hv : ofCells (T.at t) (xs.drop off) = some v) :
    ∃ u, (part t us.toArray off).run P w = .ok u w ∧ RV g w v u := by
  unfold ofCells at hv
  by_cases hs : (T.at t).sz = 0
  · simp [hs] at hv
  rw [if_neg hs] at hv
  have hd := hx.drop off
  by_cases ha : (T.at t).kind.isAgg = true
  · rw [if_pos ha] at hv
    split at hv
    · rename_i hle
      cases hv
      refine ⟨.agg ((us.drop off).take (T.at t).sz).toArray, ?_, by simp only [RV]; exact ⟨_, rfl, hd.take _⟩⟩
      simp only [part, Sem.run_bind, hT.run_isAgg hs, Result.andThen_ok, ha, if_true, hT.run_sizeOf hs, Sem.run_pure]
      congr 2
      apply Array.ext'
      simp [List.take_drop]
    · cases hv
  · rw [if_neg ha] at hv
    cases hxs : xs.drop off with
    | nil => rw [hxs] at hv; cases hv
    | cons x r =>
      rw [hxs] at hv hd
      cases hv
      simp only [RL] at hd
      obtain ⟨c, r', e, hc, _⟩ := hd
      refine ⟨c, ?_, hc⟩
      have : us[off]? = some c := by
        have := congrArg (fun l => l[0]?) e
        simpa using this
      simp only [part, Sem.run_bind, hT.run_isAgg hs, Result.andThen_ok, ha, Bool.false_eq_true, if_false, List.getElem?_toArray, this, Sem.run_pure]

end
end Go.Proofs.Ythaomidjgadieaa
