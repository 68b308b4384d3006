/-
  The operations of the layer VS are sound: memory made, addresses, slices.
-/
import Derived.Test.YtcbhmedknbiffaaVsJ
namespace Go.Proofs.Ytcbhmedknbiffaa
open Go Go.RowKit
section
variable {T : Tab} {P : Program} {cx : Cx} {g : Gh} {m : Mem} {w : World} {nm : Nat}
theorem box_ok (h : MR T cx g m w) (hnm : ¬ g.dom nm) {e : Nat} {x : PV} {u : Value} {xs : List PV} (hx : RV g w x u) (hc : cellsOf x = some xs) :
    StepOK T P cx g m w nm (do let a ← Instr.box e u; pure (Next.value a)) (.ref nm 0) [(nm, .cells xs)] := by
  obtain ⟨hl, _⟩ := RV.cells hx hc
  obtain ⟨hm, hex⟩ := h.alloc (nm := nm) (off := 0) (cap := 0) (bx := .cells xs) (o := .cells u.cells e) hnm
    (fun g' w' hx' hw => ⟨rfl, _, e, hw, hl.mono hx'⟩)
  refine ⟨.pointer (some ⟨w.heap.size, 0, none⟩), _, _, .inl (run_value (by simp [Instr.box, newVar, newRow])), ?_, hm, hex, fun k hk => hk⟩
  simp only [RV]
  exact ⟨.inr rfl, by rw [Gh.add_gb_new]⟩
theorem alloc_ok (hT : TOK T P) (h : MR T cx g m w) (hnm : ¬ g.dom nm) {e : Nat} (hs : (T.at e).sz ≠ 0) :
    StepOK T P cx g m w nm (do let a ← Instr.alloc e true (.tuple #[]); pure (Next.value a)) (.ref nm 0) [(nm, .cells ((T.at e).zero.map .v))] := by
  obtain ⟨z, hz, h1, h2⟩ := hT.run_zeroValue hs w
  obtain ⟨hm, hex⟩ := h.alloc (nm := nm) (off := 0) (cap := 0) (bx := .cells ((T.at e).zero.map .v)) (o := .cells z.cells e) hnm
    (fun g' w' hx' hw => ⟨rfl, _, e, hw, by rw [h1]; exact RL.map_v _⟩)
  refine ⟨.pointer (some ⟨w.heap.size, 0, none⟩), _, _, .inl (run_value (by simp [Instr.alloc, hz, newVar, newRow])), ?_, hm, hex, fun k hk => hk⟩
  simp only [RV]
  exact ⟨.inr rfl, by rw [Gh.add_gb_new]⟩
theorem evs_ok {ρ : Operand → PV} {a : Act} (hρ : ∀ x, RV g w (ρ x) (a.eval x)) (ps : List (Nat × Operand)) :
    (evs ρ ps).length = (ps.map fun (i, x) => (i, a.eval x)).length ∧ ∀ (j : Nat) (p : Nat × PV) (u : Nat × Value), (evs ρ ps)[j]? = some p → (ps.map fun (i, x) => (i, a.eval x))[j]? = some u → p.1 = u.1 ∧ RV g w p.2 u.2 := by
  refine ⟨by simp [evs], fun j p u hp hu => ?_⟩
  simp only [evs, List.getElem?_map] at hp hu
  cases hj : ps[j]? with
  | none => simp [hj] at hp
  | some q =>
    simp only [hj, Option.map_some, Option.some.injEq] at hp hu
    subst hp; subst hu
    exact ⟨rfl, hρ _⟩
theorem placeOf_ok (hT : TOK T P) {t : Nat} (_hs : (T.at t).sz ≠ 0) {d : TypeDesc} (_hu : P.underlying t = some d) (hk : KindOK T P t d (T.at t).kind) (F : Array Field) (hd : d = .struct F) (ha : (T.at t).kind.isAgg = true) :
    ∃ pl : Array (Nat × Nat), (F.mapM fun f => (do pure (f.offset, ← sizeOf f.type) : Sem (Nat × Nat))).run P w = .ok pl w ∧ ∀ i, pl[i]? = placeOf T t i := by
  cases hkk : (T.at t).kind with
  | struct fs =>
    rw [hkk] at hk
    obtain ⟨⟨F', hd', hF, _⟩, hsz, _⟩ := hk
    rw [hd] at hd'; cases hd'
    have hall : ∀ l : List Field, (∀ f ∈ l, (T.at f.type).sz ≠ 0) → l.mapM (fun f => (P.info? f.type).map fun i => (f.offset, i.size)) = some (l.map fun f => (f.offset, (T.at f.type).sz)) := by
      intro l
      induction l with
      | nil => intro _; rfl
      | cons f l ih =>
        intro hl
        obtain ⟨inf, z, h1, h2, _⟩ := hT.info (hl f (by simp))
        simp [List.mapM_cons, h1, h2, ih (fun f hf => hl f (by simp [hf]))]
    have hf : ∀ f ∈ F.toList, (T.at f.type).sz ≠ 0 := fun f hf => by
      have := List.all_eq_true.1 hsz (f.offset, f.type) (by rw [← hF]; exact List.mem_map.2 ⟨f, hf, rfl⟩)
      simpa using this
    refine ⟨(F.toList.map fun f => (f.offset, (T.at f.type).sz)).toArray, ?_, fun i => ?_⟩
    · have := run_places (P := P) w F.toList _ (hall F.toList hf)
      rw [Array.mapM_eq_mapM_toList]
      simp only [Sem.run_map]
      have e : (fun f : Field => (do pure (f.offset, ← sizeOf f.type) : Sem (Nat × Nat))) = fun f => Prod.mk f.offset <$> sizeOf f.type := by funext f; rfl
      rw [e, this]; rfl
    · simp only [placeOf, hkk, ← hF, List.getElem?_map, List.getElem?_toArray, Option.map_map]; rfl
  | _ => simp only [hkk, KindOK] at hk; first | (rw [hkk] at ha; cases ha; done) | (rw [hd] at hk; cases hk.1; done) | (rw [hd] at hk; cases hk)
theorem build_ok (hT : TOK T P) (h : MR T cx g m w) {ρ : Operand → PV} {a : Act} (hρ : ∀ x, RV g w (ρ x) (a.eval x)) {t : Nat} {ps : Array (Nat × Operand)} {xs : List PV} (ha : (T.at t).kind.isAgg = true) (hs : (T.at t).sz ≠ 0)
    (hf : fillV (placeOf T t) ((T.at t).zero.map .v) (evs ρ ps.toList) = some xs) :
    StepOK T P cx g m w nm (do let a ← Instr.build t (ps.map fun (i, x) => (i, a.eval x)); pure (Next.value a)) (.agg xs) [] := by
  obtain ⟨z, hz, h1, h2⟩ := hT.run_zeroValue hs w
  obtain ⟨d, hu, hk⟩ := hT.kind hs
  obtain ⟨he1, he2⟩ := evs_ok hρ ps.toList
  have hzl : RL g w ((T.at t).zero.map .v) z.cells.toList := by rw [h1]; exact RL.map_v _
  cases hkk : (T.at t).kind with
  | struct fs =>
    have hk' := hk
    rw [hkk] at hk'
    obtain ⟨⟨F, hd, hF, _⟩, _⟩ := hk'
    obtain ⟨pl, hp1, hp2⟩ := placeOf_ok (w := w) hT hs hu hk F hd ha
    obtain ⟨ds, hfill, hl⟩ := fill_ok (place := fun i => pl[i]?) (by rw [show (fun i => pl[i]?) = placeOf T t from funext hp2]; exact hf) hzl he1 he2
    refine .val (u := .agg ds) h ?_ (by simp only [RV]; exact ⟨ds.toList, by simp, hl⟩)
    subst hd
    simp only [Instr.build, Sem.run_bind, hz, Result.andThen_ok, run_underlying hu, hp1, Array.toList_map, hfill, Sem.run_pure]
  | arr n e =>
    have hk' := hk
    rw [hkk] at hk'
    obtain ⟨hd, he, _⟩ := hk'
    obtain ⟨ds, hfill, hl⟩ := fill_ok (place := fun i => some (i * (T.at e).sz, (T.at e).sz)) (by
      have : placeOf T t = fun i => some (i * (T.at e).sz, (T.at e).sz) := by funext i; simp [placeOf, hkk]
      rw [this] at hf; exact hf) hzl he1 he2
    refine .val (u := .agg ds) h ?_ (by simp only [RV]; exact ⟨ds.toList, by simp, hl⟩)
    subst hd
    simp only [Instr.build, Sem.run_bind, hz, Result.andThen_ok, run_underlying hu, hT.run_sizeOf he, Array.toList_map, hfill, Sem.run_pure]
  | _ => rw [hkk] at ha; cases ha
theorem zeros_flat (z : Array Value) (n : Nat) : ((Array.range (n * z.size)).map (z[· % z.size]!)).toList = (List.replicate n z.toList).flatten := by
  rw [Array.toList_map, Array.toList_range]
  induction n with
  | zero => simp
  | succ n ih =>
    rw [Nat.succ_mul, Nat.add_comm, List.range_add, List.map_append, List.map_map, List.replicate_succ, List.flatten_cons, ← ih]
    congr 1
    · apply List.ext_getElem
      · simp
      · intro i h1 h2
        simp only [List.getElem_map, List.getElem_range]
        have hi : i < z.size := by simpa using h2
        rw [Nat.mod_eq_of_lt hi]; simp [hi]
    · apply List.map_congr_left
      intro i _
      simp
theorem buildSlice_ok (hT : TOK T P) (h : MR T cx g m w) (hnm : ¬ g.dom nm) {ρ : Operand → PV} {a : Act} (hρ : ∀ x, RV g w (ρ x) (a.eval x)) {t e len : Nat} {ps : Array (Nat × Operand)} {xs : List PV} (hk : (T.at t).kind = .slice e) (hs : (T.at t).sz ≠ 0)
    (hle : len * (T.at e).sz ≤ 16777216) (hf : fillV (placeOf T t) ((List.replicate len (T.at e).zero).flatten.map .v) (evs ρ ps.toList) = some xs) :
    StepOK T P cx g m w nm (do let a ← Instr.buildSlice t len (ps.map fun (i, x) => (i, a.eval x)); pure (Next.value a)) (.row nm (T.at e).sz 0 len) [(nm, .row (T.at e).sz (chunk (T.at e).sz len xs))] := by
  obtain ⟨d, hu, hd⟩ := hT.kind hs
  rw [hk] at hd
  obtain ⟨rfl, he⟩ := hd
  obtain ⟨z, hz, h1, h2⟩ := hT.run_zeroValue he w
  obtain ⟨he1, he2⟩ := evs_ok hρ ps.toList
  have hz0 : ((Array.range (len * (T.at e).sz)).map (z.cells[· % z.cells.size]!)).toList = (List.replicate len (T.at e).zero).flatten := by
    rw [← h2, zeros_flat, h1]
  obtain ⟨ds, hfill, hl⟩ := fill_ok (place := fun i => some (i * (T.at e).sz, (T.at e).sz)) (cs := (Array.range (len * (T.at e).sz)).map (z.cells[· % z.cells.size]!)) (by
      have : placeOf T t = fun i => some (i * (T.at e).sz, (T.at e).sz) := by funext i; simp [placeOf, hk]
      rw [this] at hf; exact hf) (by rw [hz0]; exact RL.map_v _) he1 he2
  -- the filled cells are as many
  have hlen : xs.length = len * (T.at e).sz := by
    have : ∀ (ps : List (Nat × PV)) (cs out : List PV) (pl : Nat → Option (Nat × Nat)), fillV pl cs ps = some out → out.length = cs.length := by
      intro ps
      induction ps with
      | nil => intro cs out pl h; simp only [fillV] at h; cases h; rfl
      | cons p ps ih =>
        intro cs out pl h
        obtain ⟨i, x⟩ := p
        simp only [fillV] at h
        split at h
        · split at h
          · rename_i hc
            rw [ih _ _ _ h]; simp [splice]; omega
          · cases h
        · cases h
    rw [this _ _ _ _ hf]
    obtain ⟨h3, _⟩ := hT.zero_one he
    simp [h3]
  obtain ⟨hm, hex⟩ := h.alloc (nm := nm) (off := 0) (cap := len) (bx := .row (T.at e).sz (chunk (T.at e).sz len xs)) (o := .cells ds e) hnm
    (fun g' w' hx' hw => ⟨by rw [chunk_length]; exact Nat.le_refl _, by
        have : 0 < (T.at e).sz := by omega
        have : len ≤ len * (T.at e).sz := Nat.le_mul_of_pos_right _ this
        simp [maxLen]; omega, fun _ => ⟨ds, e, hw, by
          have := RL.length hl; simp at this; simp; omega, by
          simp only [List.drop_zero]
          refine RC.of_flat (chunk_sizes len xs (by omega)) ?_
          rw [chunk_flat, List.take_of_length_le (by omega)]
          exact hl.mono hx'⟩⟩)
  refine ⟨.slice (some ⟨w.heap.size, 0, none⟩) len len, _, _, .inl (run_value ?_), ?_, hm, hex, fun k hk => hk⟩
  · simp only [Instr.buildSlice, Sem.run_bind, run_underlying hu, Result.andThen_ok, hT.run_sizeOf he]
    rw [Sem.run_ite, if_neg (by omega)]
    by_cases h0 : len * (T.at e).sz = 0
    · have e0 : (Array.range (len * (T.at e).sz)).map (fun x => (#[] : Array Value)[x % (#[] : Array Value).size]!) = (Array.range (len * (T.at e).sz)).map (z.cells[· % z.cells.size]!) := by simp [h0]
      rw [if_pos h0]
      simp only [Sem.run_bind, Sem.run_pure, Result.andThen_ok, e0, Array.toList_map, hfill, newRow, run_newObj_alloc]
    · rw [if_neg h0]
      simp only [Sem.run_bind, hz, Sem.run_pure, Result.andThen_ok, Array.toList_map, hfill, newRow, run_newObj_alloc]
  · simp only [RV]
    refine ⟨.inr rfl, _, _, rfl, Nat.le_refl _, ?_, fun _ => by rw [Gh.add_gb_new]; exact ⟨by rw [Nat.zero_mul], Nat.zero_add _⟩⟩
    have : 0 < (T.at e).sz := by omega
    have : len ≤ len * (T.at e).sz := Nat.le_mul_of_pos_right _ this
    simp [maxLen]; omega
theorem buildCells_ok (hT : TOK T P) (h : MR T cx g m w) (hnm : ¬ g.dom nm) {ρ : Operand → PV} {a : Act} (hρ : ∀ x, RV g w (ρ x) (a.eval x)) {t e len : Nat} {ps : Array (Nat × Operand)} {xs : List PV} (hk : (T.at t).kind = .slice e) (hs : (T.at t).sz ≠ 0)
    (hle : len * (T.at e).sz ≤ 16777216) (hf : fillV (placeOf T t) ((List.replicate len (T.at e).zero).flatten.map .v) (evs ρ ps.toList) = some xs) :
    StepOK T P cx g m w nm (do let a ← Instr.buildSlice t len (ps.map fun (i, x) => (i, a.eval x)); pure (Next.value a)) (.asl nm 0 (T.at e).sz len) [(nm, .cells xs)] := by
  obtain ⟨d, hu, hd⟩ := hT.kind hs
  rw [hk] at hd
  obtain ⟨rfl, he⟩ := hd
  obtain ⟨z, hz, h1, h2⟩ := hT.run_zeroValue he w
  obtain ⟨he1, he2⟩ := evs_ok hρ ps.toList
  have hz0 : ((Array.range (len * (T.at e).sz)).map (z.cells[· % z.cells.size]!)).toList = (List.replicate len (T.at e).zero).flatten := by
    rw [← h2, zeros_flat, h1]
  obtain ⟨ds, hfill, hl⟩ := fill_ok (place := fun i => some (i * (T.at e).sz, (T.at e).sz)) (cs := (Array.range (len * (T.at e).sz)).map (z.cells[· % z.cells.size]!)) (by
      have : placeOf T t = fun i => some (i * (T.at e).sz, (T.at e).sz) := by funext i; simp [placeOf, hk]
      rw [this] at hf; exact hf) (by rw [hz0]; exact RL.map_v _) he1 he2
  obtain ⟨hm, hex⟩ := h.alloc (nm := nm) (off := 0) (cap := 0) (bx := .cells xs) (o := .cells ds e) hnm
    (fun g' w' hx' hw => ⟨rfl, _, e, hw, hl.mono hx'⟩)
  refine ⟨.slice (some ⟨w.heap.size, 0, none⟩) len len, _, _, .inl (run_value ?_), ?_, hm, hex, fun k hk => hk⟩
  · simp only [Instr.buildSlice, Sem.run_bind, run_underlying hu, Result.andThen_ok, hT.run_sizeOf he]
    rw [Sem.run_ite, if_neg (by omega)]
    by_cases h0 : len * (T.at e).sz = 0
    · have e0 : (Array.range (len * (T.at e).sz)).map (fun x => (#[] : Array Value)[x % (#[] : Array Value).size]!) = (Array.range (len * (T.at e).sz)).map (z.cells[· % z.cells.size]!) := by simp [h0]
      rw [if_pos h0]
      simp only [Sem.run_bind, Sem.run_pure, Result.andThen_ok, e0, Array.toList_map, hfill, newRow, run_newObj_alloc]
    · rw [if_neg h0]
      simp only [Sem.run_bind, hz, Sem.run_pure, Result.andThen_ok, Array.toList_map, hfill, newRow, run_newObj_alloc]
  · simp only [RV]
    refine ⟨.inr rfl, _, _, rfl, Nat.le_refl _, ?_, fun _ => by rw [Gh.add_gb_new]⟩
    have : 0 < (T.at e).sz := by omega
    have : len ≤ len * (T.at e).sz := Nat.le_mul_of_pos_right _ this
    simp [maxLen]; omega
end
end Go.Proofs.Ytcbhmedknbiffaa
