/-
  The operations of the layer VS are sound: what an operation does to memory.
-/
import Derived.Test.YtcbhmedknbiffaaVsD
namespace Go.Proofs.Ytcbhmedknbiffaa
open Go Go.RowKit
def KindOK (T : Tab) (P : Program) (t : Nat) (d : TypeDesc) : TK → Prop
  | .int k => d = .int k
  | .str => d = .string
  | .bool => d = .bool
  | .slice e => d = .slice e ∧ (T.at e).sz ≠ 0
  | .arr n e => d = .array n e ∧ (T.at e).sz ≠ 0 ∧ P.eqGuardType P.depth t = false
  | .struct fs => (∃ F : Array Field, d = .struct F ∧ F.toList.map (fun f => (f.offset, f.type)) = fs ∧ (F.toList.all fun f => f.name != "_") = true) ∧ (fs.all fun f => (T.at f.2).sz != 0) = true ∧ P.stoodInHeld t = false ∧ P.eqGuardType P.depth t = false
  | .ptr e => d = .pointer e
  | .map k e => d = .map k e
  | .func => ∃ a b c, d = .func a b c
  | .other => True
def RowOK (T : Tab) (P : Program) (t : Nat) (i : TI) : Prop :=
  ∃ (inf : TypeInfo) (z : Value) (d : TypeDesc), P.info? t = some inf ∧ inf.size = i.sz ∧ inf.bytes = i.bytes ∧ inf.zero = some z ∧ z.cells.toList = i.zero ∧ z.cells.size = i.sz ∧ (i.zero.all Value.oneCell') = true ∧
    (i.kind.isAgg = true → ∃ cs, z = .agg cs) ∧ P.underlying t = some d ∧ (i.kind.isAgg = (match d with | .struct _ => true | .array _ _ => true | _ => false)) ∧ KindOK T P t d i.kind
structure TOK (T : Tab) (P : Program) : Prop where
  row : ∀ t, (T.at t).sz ≠ 0 → RowOK T P t (T.at t)
  ks : ∀ t, (T.at t).sz = 0 → (T.at t).kind = .other
theorem TOK.sz {T P} (h : TOK T P) {t : Nat} {k : TK} (hk : (T.at t).kind = k) (hn : k ≠ .other) : (T.at t).sz ≠ 0 := fun h0 => hn (hk.symm.trans (h.ks t h0))
theorem TOK.kind {T P} (h : TOK T P) {t : Nat} (hs : (T.at t).sz ≠ 0) : ∃ d, P.underlying t = some d ∧ KindOK T P t d (T.at t).kind := by
  obtain ⟨_, _, d, _, _, _, _, _, _, _, _, h1, _, h2⟩ := h.row t hs
  exact ⟨d, h1, h2⟩
theorem TOK.info {T P} (h : TOK T P) {t : Nat} (hs : (T.at t).sz ≠ 0) : ∃ inf z, P.info? t = some inf ∧ inf.size = (T.at t).sz ∧ inf.bytes = (T.at t).bytes ∧ inf.zero = some z ∧ z.cells.toList = (T.at t).zero ∧ z.cells.size = (T.at t).sz := by
  obtain ⟨inf, z, _, h1, h2, h3, h4, h5, h6, _⟩ := h.row t hs
  exact ⟨inf, z, h1, h2, h3, h4, h5, h6⟩
theorem TOK.run_isAgg {T P} (h : TOK T P) {t : Nat} (hs : (T.at t).sz ≠ 0) (w : World) : (isAgg t).run P w = .ok (T.at t).kind.isAgg w := by
  obtain ⟨_, _, d, _, _, _, _, _, _, _, _, h1, h2, _⟩ := h.row t hs
  simp only [isAgg, Sem.run_bind, run_underlying h1, Result.andThen_ok, h2]
  cases d <;> rfl
theorem TOK.run_sizeOf {T P} (h : TOK T P) {t : Nat} (hs : (T.at t).sz ≠ 0) (w : World) : (sizeOf t).run P w = .ok (T.at t).sz w := by
  obtain ⟨inf, z, h1, h2, _⟩ := h.info hs
  simp [sizeOf, typeInfo, h1, h2]
theorem TOK.run_zeroValue {T P} (h : TOK T P) {t : Nat} (hs : (T.at t).sz ≠ 0) (w : World) : ∃ z, (zeroValue t).run P w = .ok z w ∧ z.cells.toList = (T.at t).zero ∧ z.cells.size = (T.at t).sz := by
  obtain ⟨inf, z, h1, h2, h3, h4, h5, h6⟩ := h.info hs
  exact ⟨z, by simp [zeroValue, typeInfo, h1, h4], h5, h6⟩
theorem TOK.zero_one {T P} (h : TOK T P) {t : Nat} (hs : (T.at t).sz ≠ 0) : (T.at t).zero.length = (T.at t).sz ∧ ∀ c ∈ (T.at t).zero, c.oneCell' = true := by
  obtain ⟨_, z, _, _, _, _, _, h5, h6, h7, _⟩ := h.row t hs
  exact ⟨by rw [← h5]; simpa using h6, fun c hc => List.all_eq_true.1 h7 c hc⟩
theorem run_loadCells_RD {P : Program} {g w b off xs} (h : RD g w b off xs) : ∃ cs : List Value, (loadCells ⟨b, off, none⟩ xs.length).run P w = .ok cs.toArray w ∧ RL g w xs cs := by
  obtain ⟨cs, hl, hc⟩ := h.list
  refine ⟨cs, ?_, hl⟩
  rw [RL.length hl]
  exact run_loadCells_list w _ cs fun j v hj => by rw [Addr.add_lit]; exact hc j v hj
theorem run_loadVar_RD {T P} (hT : TOK T P) {g w b off xs v} {t : Nat} (h : RD g w b off xs) (hv : ofCells (T.at t) xs = some v) :
    ∃ u, (loadVar t ⟨b, off, none⟩).run P w = .ok u w ∧ RV g w v u := by
  unfold ofCells at hv
  by_cases hs : (T.at t).sz = 0
  · simp [hs] at hv
  rw [if_neg hs] at hv
  by_cases ha : (T.at t).kind.isAgg = true
  · rw [if_pos ha] at hv
    split at hv
    · rename_i hle
      cases hv
      obtain ⟨cs, hr, hl⟩ := run_loadCells_RD (P := P) (h.take (T.at t).sz)
      rw [List.length_take, Nat.min_eq_left hle] at hr
      refine ⟨.agg cs.toArray, ?_, by simp only [RV]; exact ⟨cs, rfl, hl⟩⟩
      simp only [loadVar, Sem.run_bind, hT.run_isAgg hs, Result.andThen_ok, ha, if_true, hT.run_sizeOf hs, hr, Sem.run_pure]
    · cases hv
  · rw [if_neg ha] at hv
    cases xs with
    | nil => cases hv
    | cons x xs =>
      cases hv
      obtain ⟨u, hu, hr⟩ := h 0 _ rfl
      refine ⟨u, ?_, hr⟩
      simp only [Nat.add_zero] at hu
      simp only [loadVar, Sem.run_bind, hT.run_isAgg hs, Result.andThen_ok, ha, Bool.false_eq_true, if_false, run_load, hu]
theorem cellsAt_ok {T cx g m w} (h : MR T cx g m w) {x : PV} {u : Value} {xs : List PV} (hx : RV g w x u) (hc : cellsAt m.bx x = some xs) :
    ∃ b off, u = .pointer (some ⟨b, off, none⟩) ∧ RD g w b off xs := by
  cases x with
  | ref k off =>
    simp only [RV] at hx
    obtain ⟨hd, rfl⟩ := hx
    have hb := h.box k hd
    simp only [cellsAt] at hc
    generalize m.bx k = bx at hb hc
    cases bx with
    | cells ys =>
      cases hc
      obtain ⟨_, cs, ty, h1, h2⟩ := hb
      refine ⟨_, _, rfl, RD.of_block h1 (ds := cs.toList.drop off) (fun j c hj => by simpa using hj) (RL.drop off h2)⟩
    | row sz es => cases hc
    | mp _ _ => cases hc
    | dead => cases hc
  | rp k sz i off =>
    simp only [RV] at hx
    obtain ⟨hd, rfl⟩ := hx
    have hb := h.box k hd
    simp only [cellsAt] at hc
    generalize m.bx k = bx at hb hc
    cases bx with
    | cells ys => cases hc
    | mp _ _ => cases hc
    | dead => cases hc
    | row sz' es =>
      simp only at hc
      split at hc
      · rename_i hsz
        subst hsz
        obtain ⟨e, he, rfl⟩ := Option.map_eq_some_iff.1 hc
        obtain ⟨h0, h9, h1⟩ := hb
        have hlt := (List.getElem?_eq_some_iff.1 he).1
        obtain ⟨cs, ty, h2, h3, h4⟩ := h1 (by omega)
        obtain ⟨h5, c, h6, h7⟩ := RC.get h4 i e he
        refine ⟨_, _, rfl, ?_⟩
        refine RD.of_block h2 (ds := c.drop off) (fun j u hj => ?_) (RL.drop off h6)
        rw [List.getElem?_drop] at hj
        have := h7 _ _ hj
        rw [List.getElem?_drop] at this
        rw [← this, Array.getElem?_toList]
        congr 1; omega
      · cases hc
  | ep fr cs =>
    simp only [RV] at hx
    obtain ⟨b, off, rfl, _, hm⟩ := hx
    cases hc
    exact ⟨b, off, rfl, hm.rd⟩
  | _ => cases hc
def Gh.add (g : Gh) (nm : Nat) (G : GB) : Gh := { g with dom := fun k => g.dom k ∨ k = nm, gb := fun k => bif k == nm then G else g.gb k }
theorem Gh.add_gb_new (g : Gh) (nm : Nat) (G : GB) : (g.add nm G).gb nm = G := by simp [Gh.add]
theorem Gh.add_gb_old (g : Gh) {nm k : Nat} (G : GB) (h : ¬ k = nm) : (g.add nm G).gb k = g.gb k := by
  have : (k == nm) = false := by simpa using h
  simp [Gh.add, this]
theorem setB_new (bx : Nat → Box) (k : Nat) (b : Box) : setB bx k b k = b := by simp [setB]
theorem setB_old (bx : Nat → Box) {k j : Nat} (b : Box) (h : ¬ j = k) : setB bx k b j = bx j := by
  have : (j == k) = false := by simpa using h
  simp [setB, this]
theorem GX.add {g w w' nm G} (hnm : ¬ g.dom nm) (h : GX g w g w') : GX g w (g.add nm G) w' where
  p := h.p
  base := h.base
  dom _k hk := .inl hk
  gb _k hk := g.add_gb_old G (fun e => hnm (e ▸ hk))
  ls := h.ls
  cell := h.cell
theorem MR.add {T cx g m w w' nm G bx} (h : MR T cx g m w) (hnm : ¬ g.dom nm) (hx : GX g w g w')
    (hsz : w.heap.size ≤ w'.heap.size) (hold : ∀ j, Owns g m j → w'.heap[(g.gb j).b]? = w.heap[(g.gb j).b]?)
    (hfix : ∀ (k : Nat) (o : Obj), w.heap[k]? = some o → boxy o = false → w'.heap[k]? = some o)
    (hbx : BoxOK (g.add nm G) w' G bx)
    (hG : bx.owns G.cap = true → (∀ o, ¬ g.p G.b o) ∧ (∀ j, Owns g m j → (g.gb j).b ≠ G.b) ∧ g.base ≤ G.b) :
    MR T cx (g.add nm G) ⟨m.nb, setB m.bx nm bx, m.ys⟩ w' := by
  have hx' := hx.add (G := G) hnm
  have hown : ∀ k, Owns (g.add nm G) ⟨m.nb, setB m.bx nm bx, m.ys⟩ k → (k = nm ∧ bx.owns G.cap = true) ∨ (k ≠ nm ∧ Owns g m k) := by
    rintro k ⟨hd, ho⟩
    replace ho : (setB m.bx nm bx k).owns _ = true := ho
    by_cases e : k = nm
    · subst e; left; rw [setB_new, Gh.add_gb_new] at ho; exact ⟨rfl, ho⟩
    · right; rw [setB_old _ _ e, Gh.add_gb_old _ _ e] at ho; exact ⟨e, hd.resolve_right e, ho⟩
  exact {
    pin := fun b o hp => Nat.lt_of_lt_of_le (h.pin b o hp) hsz
    base := Nat.le_trans h.base hsz
    box := fun k hk => by
      by_cases e : k = nm
      · subst e; rw [Gh.add_gb_new]; show BoxOK _ _ _ (setB _ _ _ _); rw [setB_new]; exact hbx
      · rw [Gh.add_gb_old _ _ e]; show BoxOK _ _ _ (setB _ _ _ _); rw [setB_old _ _ e]
        exact (h.box k (hk.resolve_right e)).mono hx' (fun ho => hold k ⟨hk.resolve_right e, ho⟩)
    np := fun k hk => by
      rcases hown k hk with ⟨rfl, ho⟩ | ⟨e, ho⟩
      · rw [Gh.add_gb_new]; exact (hG ho).1
      · rw [Gh.add_gb_old _ _ e]; exact h.np k ho
    inj := fun k k' hk hk' heq => by
      rcases hown k hk with ⟨rfl, ho⟩ | ⟨e, ho⟩ <;> rcases hown k' hk' with ⟨e', ho'⟩ | ⟨e', ho'⟩
      · exact e'.symm
      · rw [Gh.add_gb_new, Gh.add_gb_old _ _ e'] at heq; exact absurd heq.symm ((hG ho).2.1 k' ho')
      · subst e'; rw [Gh.add_gb_new, Gh.add_gb_old _ _ e] at heq; exact absurd heq ((hG ho').2.1 k ho)
      · rw [Gh.add_gb_old _ _ e, Gh.add_gb_old _ _ e'] at heq; exact h.inj k k' ho ho' heq
    fresh := fun k hk => by
      rcases hown k hk with ⟨rfl, ho⟩ | ⟨e, ho⟩
      · rw [Gh.add_gb_new]; exact (hG ho).2.2
      · rw [Gh.add_gb_old _ _ e]; exact h.fresh k ho
    fix := fun k o hk => by obtain ⟨h1, h2, h3⟩ := h.fix k o hk; exact ⟨hfix k o h1 h2, h2, h3⟩
    ys := fun l r hy => hfix l _ (h.ys l r hy) rfl
    glob := h.glob.mono hx' }
theorem EX.add {cx g m w w' nm G bx} (hnm : ¬ g.dom nm) (hx : GX g w g w') (hsz : w.heap.size ≤ w'.heap.size) (h1 : w'.os = w.os) (h2 : w'.tape = w.tape) (h3 : w'.output = w.output)
    (hsame : ∀ k, k < w.heap.size → (∀ j, Owns g m j → (g.gb j).b ≠ k) → w'.heap[k]? = w.heap[k]?)
    (mb : Nat → Box) (hmb : ∀ k, k ≠ nm → (mb k).owns (g.gb k).cap = true → (m.bx k).owns (g.gb k).cap = true)
    (hG : bx.owns G.cap = true → w.heap.size ≤ G.b ∨ ∃ j0, Owns g m j0 ∧ (g.gb j0).b = G.b) :
    EX cx g m w (g.add nm G) ⟨m.nb, setB mb nm bx, m.ys⟩ w' where
  gx := hx.add hnm
  size := hsz
  os := h1
  tape := h2
  output := h3
  same k hk ho _ := hsame k hk ho
  pn b o hp := .inl hp
  bn j hj := by
    obtain ⟨hd, ho⟩ := hj
    by_cases e : j = nm
    · subst e
      replace ho : (setB mb j bx j).owns _ = true := ho
      rw [setB_new, Gh.add_gb_new] at ho; rw [Gh.add_gb_new]; exact hG ho
    · replace ho : (setB mb nm bx j).owns _ = true := ho
      rw [setB_old _ _ e, Gh.add_gb_old _ _ e] at ho
      rw [Gh.add_gb_old _ _ e]
      exact .inr ⟨j, ⟨hd.resolve_right e, hmb j e ho⟩, rfl⟩
theorem heap_alloc_old' (w : World) (o : Obj) {k : Nat} {v : Obj} (h : w.heap[k]? = some v) : (w.alloc o).heap[k]? = some v := by
  rw [Below.heap_alloc w o k (Array.getElem?_eq_some_iff.1 h).1]; exact h
theorem GX.alloc (g : Gh) (w : World) (o : Obj) : GX g w g (w.alloc o) :=
  ⟨fun _ _ h => h, rfl, fun _ h => h, fun _ _ => rfl, fun _ _ h => h, fun b o' v _ hc => by
    have hb := World.block_lt_of_cell? w _ hc
    rw [World.cell?_of_block (w := w) (Below.heap_alloc w o _ hb)]; exact hc⟩
theorem MR.alloc {T cx g m w nm off cap bx} {o : Obj} (h : MR T cx g m w) (hnm : ¬ g.dom nm)
    (hbx : ∀ g' w', GX g w g' w' → w'.heap[w.heap.size]? = some o → BoxOK g' w' ⟨w.heap.size, off, cap⟩ bx) :
    MR T cx (g.add nm ⟨w.heap.size, off, cap⟩) ⟨m.nb, setB m.bx nm bx, m.ys⟩ (w.alloc o) ∧
    EX cx g m w (g.add nm ⟨w.heap.size, off, cap⟩) ⟨m.nb, setB m.bx nm bx, m.ys⟩ (w.alloc o) := by
  have hx := GX.alloc g w o
  have hsz : w.heap.size ≤ (w.alloc o).heap.size := by simp
  refine ⟨h.add hnm hx hsz (fun j hj => Below.heap_alloc w o _ (h.owns_block hj)) (fun k o' hk _ => heap_alloc_old' w o hk) (hbx _ _ (hx.add hnm) (World.alloc_heap_new w o))
    (fun _ => ⟨fun o' hp => Nat.lt_irrefl _ (h.pin _ _ hp), fun j hj e => by have := h.owns_block hj; rw [e] at this; exact Nat.lt_irrefl _ this, h.base⟩), ?_⟩
  exact EX.add hnm hx hsz rfl rfl rfl (fun k hk _ => Below.heap_alloc w o k hk) m.bx (fun _ _ h => h) (fun _ => .inl (Nat.le_refl _))
theorem MR.virtual {T cx g m w nm sz} (h : MR T cx g m w) (hnm : ¬ g.dom nm) :
    MR T cx (g.add nm ⟨0, 0, 0⟩) ⟨m.nb, setB m.bx nm (.row sz []), m.ys⟩ w ∧ EX cx g m w (g.add nm ⟨0, 0, 0⟩) ⟨m.nb, setB m.bx nm (.row sz []), m.ys⟩ w := by
  have hx := GX.refl g w
  refine ⟨h.add hnm hx (Nat.le_refl _) (fun _ _ => rfl) (fun _ _ hk _ => hk) ⟨by simp, by simp [maxLen], fun h0 => absurd rfl h0⟩ (fun ho => by simp [Box.owns] at ho), ?_⟩
  exact EX.add hnm hx (Nat.le_refl _) rfl rfl rfl (fun _ _ _ => rfl) m.bx (fun _ _ h => h) (fun ho => by simp [Box.owns] at ho)
theorem MR.upd {T cx g m w w' k bx} (h : MR T cx g m w) (hk : Owns g m k) (hsz : w'.heap.size = w.heap.size) (h1 : w'.os = w.os) (h2 : w'.tape = w.tape) (h3 : w'.output = w.output)
    (hother : ∀ j, j ≠ (g.gb k).b → w'.heap[j]? = w.heap[j]?) (ho : bx.owns (g.gb k).cap = true) (hbx : GX g w g w' → BoxOK g w' (g.gb k) bx) :
    MR T cx g ⟨m.nb, setB m.bx k bx, m.ys⟩ w' ∧ EX cx g m w g ⟨m.nb, setB m.bx k bx, m.ys⟩ w' := by
  have hx : GX g w g w' := ⟨fun _ _ h => h, rfl, fun _ h => h, fun _ _ => rfl, fun _ _ h => h, fun b o v hp hc => by
    rw [World.cell?_of_block (w := w) (hother b (fun e => h.np k hk o (e ▸ hp)))]; exact hc⟩
  have hown : ∀ j, Owns g ⟨m.nb, setB m.bx k bx, m.ys⟩ j → Owns g m j := by
    rintro j ⟨hd, hj⟩
    by_cases e : j = k
    · subst e; exact hk
    · replace hj : (setB m.bx k bx j).owns _ = true := hj
      rw [setB_old _ _ e] at hj; exact ⟨hd, hj⟩
  have hne : ∀ (j : Nat) (o : Obj), w.heap[j]? = some o → boxy o = false → w'.heap[j]? = some o := fun j o hj hc => by
    rw [hother j (fun e => h.not_owned hj hc k hk e.symm)]; exact hj
  refine ⟨{
    pin := fun b o hp => by rw [hsz]; exact h.pin b o hp
    base := by rw [hsz]; exact h.base
    box := fun j hd => by
      show BoxOK _ _ _ (setB _ _ _ _)
      by_cases e : j = k
      · subst e; rw [setB_new]; exact hbx hx
      · rw [setB_old _ _ e]
        exact (h.box j hd).mono hx (fun hj => hother _ (fun e' => e (h.inj j k ⟨hd, hj⟩ hk e')))
    np := fun j hj => h.np j (hown j hj)
    inj := fun j j' hj hj' => h.inj j j' (hown j hj) (hown j' hj')
    fresh := fun j hj => h.fresh j (hown j hj)
    fix := fun j o hj => by obtain ⟨a, b, c⟩ := h.fix j o hj; exact ⟨hne j o a b, b, c⟩
    ys := fun l r hy => hne l _ (h.ys l r hy) rfl
    glob := h.glob.mono hx }, {
    gx := hx
    size := by rw [hsz]; exact Nat.le_refl _
    os := h1
    tape := h2
    output := h3
    same := fun j hj hn _ => hother j (fun e => hn k hk e.symm)
    pn := fun b o hp => .inl hp
    bn := fun j hj => .inr ⟨j, hown j hj, rfl⟩ }⟩
end Go.Proofs.Ytcbhmedknbiffaa
