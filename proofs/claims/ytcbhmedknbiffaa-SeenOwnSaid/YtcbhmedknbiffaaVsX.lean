/-
  The layer VS: a region that draws its order, walks through one call, makes one box and writes to it.
-/
import Derived.Test.YtcbhmedknbiffaaVsW
namespace Go.Proofs.Ytcbhmedknbiffaa
open Go Go.RowKit
section
variable {T : Tab} {P : Program} {Y : Nat → YS} {cx : Cx}
theorem setB_setB (bx : Nat → Box) (k : Nat) (b c : Box) : setB (setB bx k b) k c = setB bx k c := by
  funext j
  by_cases e : j = k
  · subst e; rw [setB_new, setB_new]
  · rw [setB_old _ _ e, setB_old _ _ e, setB_old _ _ e]
theorem op_step (hT : TOK T P) {ops : Array Oper} {vs : List PV} {env0 : List (Nat × PV)} {n nb0 : Nat} {g0 : Gh} {m0 : Mem} {a0 : Act} {w0 : World} {m : Mem} {listed : Array Bool} {g : Gh} {a : Act} {w : World} (inv : QInv T P Y cx ops vs env0 n nb0 g0 m0 a0 w0 m listed g a w)
    (hlen : vs.length = ops.toList.length) (hchk : qchk ops.toList = true) (hnb : nb0 + ops.size ≤ m.nb) {i : Nat} {o : Oper} {E : List (Nat × PV)} {v : PV} {side : Prop} {ws : List (Nat × Box)} (ho : ops[i]? = some o) (hun : listed.getD i false = false)
    (hed : ∀ e ∈ o.after, Region.binds .any e = true → listed.getD e.on false = true) (hfit : Fit ops.toList vs env0 E i o) (hdst : dstOK n o.dst = true) (hgd : o.guard = none) (hpv : popv T (peval T (qenv ops.toList E o)) m.bx (nb0 + i) o.op = some (side, v, ws)) (hside : side) (hv : vs[i]? = some v)
    {r : Option Nat} {nn fuel : Nat} {Q : Exit → Act → World → Prop} (next : ∀ g' a' w', QInv T P Y cx ops vs env0 n nb0 g0 m0 a0 w0 ⟨m.nb, setBs m.bx ws, m.ys⟩ (listed.setIfInBounds i true) g' a' w' → wpAnyIn (FW r) nn P .any ops Q fuel (listed.setIfInBounds i true) a' w') :
    wpOpIn (FW r) nn P ops Q i (wpAnyIn (FW r) nn P .any ops Q fuel (listed.setIfInBounds i true)) a w := by
  have hlt := (Array.getElem?_eq_some_iff.1 ho).1
  have henv := inv.look hlen hchk ho hun hed hfit
  have hnm : ¬ g.dom (nb0 + i) := fun hk => by
    rcases inv.dom _ hk with h1 | ⟨j, hj, hlj, e⟩ | h1
    · omega
    · have : j = i := by omega
      subst this; rw [hun] at hlj; cases hlj
    · omega
  have hs : RS T cx g ⟨n, qenv ops.toList E o, m⟩ a w := ⟨inv.mr, inv.dl, henv, inv.tz⟩
  have hw : Region.wanted o (yielded ops a.tmps) = true := by simp [Region.wanted, hgd]
  unfold wpOpIn
  simp only [ho]
  rw [if_pos hw]
  refine pop1_ok (F := fun s' => s' = St.put ⟨n, qenv ops.toList E o, m⟩ o.dst v ⟨m.nb, setBs m.bx ws, m.ys⟩) hT inv.yok hs hnm (by show nb0 + i < m.nb; omega) ?_ ?_
  · unfold pop1
    have : popE T (fun s' => s' = St.put ⟨n, qenv ops.toList E o, m⟩ o.dst v ⟨m.nb, setBs m.bx ws, m.ys⟩) (nb0 + i) o ⟨n, qenv ops.toList E o, m⟩ := by
      unfold popE
      simp only [hpv]
      exact ⟨hside, hdst, trivial⟩
    split
    · rename_i f args ats hop
      rw [hop] at hpv
      simp [popv] at hpv
    · exact this
  · rintro s' g' a' w' hs' hx' hnb' hdom' hdf' hn' rfl ⟨u, v2, m2, rfl, hu, hs2⟩
    have hv2 : ∀ d, o.dst = some d → v2 = v := by
      intro d hd
      rw [hd] at hs2; simp only [St.put, St.mk.injEq, List.cons.injEq, Prod.mk.injEq] at hs2; exact hs2.2.1.1.2.symm
    have hmr := hs'.mr
    have hdl := hs'.dl
    rw [st_put_m] at hmr hdl hx' hnb'
    have hdm : ∀ k, g'.dom k → g.dom k ∨ k = nb0 + i ∨ nb0 + ops.size ≤ k := fun k hk => by
      rcases hdom' k hk with h1 | h1 | h1
      · exact .inl h1
      · exact .inr (.inl h1)
      · have := hdl k hk
        simp only at h1 this
        omega
    exact next _ _ _ (inv.next hchk ho hun hed (fun v' d hv' hd => by rw [hv] at hv'; cases hv'; rw [← hv2 d hd]; exact hu) hdst hmr hdl hx' hdm)
theorem call_step (hT : TOK T P) {ops : Array Oper} {vs : List PV} {env0 : List (Nat × PV)} {n nb0 : Nat} {g0 : Gh} {m0 : Mem} {a0 : Act} {w0 : World} {m : Mem} {listed : Array Bool} {g : Gh} {a : Act} {w : World} (inv : QInv T P Y cx ops vs env0 n nb0 g0 m0 a0 w0 m listed g a w)
    (hlen : vs.length = ops.toList.length) (hchk : qchk ops.toList = true) (hnb : nb0 + ops.size ≤ m.nb) {i : Nat} {o : Oper} {E : List (Nat × PV)} {f : Operand} {args : Array Operand} {ats : Array Nat} {gf : Nat} {caps : List PV} (ho : ops[i]? = some o) (hun : listed.getD i false = false)
    (hed : ∀ e ∈ o.after, Region.binds .any e = true → listed.getD e.on false = true) (hfit : Fit ops.toList vs env0 E i o) (hdst : dstOK n o.dst = true) (hgd : o.guard = none) (hop : o.op = .call ⟨.value f, args, ats⟩) (hfc : peval T (qenv ops.toList E o) f = .clos gf caps)
    {Qc : PV → Mem → Prop} (hb : SpecM T P Y gf (args.toList.map (peval T (qenv ops.toList E o)) ++ caps) m Qc)
    {r : Option Nat} {nn fuel : Nat} {Q : Exit → Act → World → Prop} (next : ∀ rr m2, Qc rr m2 → m.nb ≤ m2.nb → ∃ vs2 : List PV, vs2[i]? = some rr ∧ (∀ j, listed.getD j false = true → vs2[j]? = vs[j]?) ∧ ∀ g' a' w', QInv T P Y cx ops vs2 env0 n nb0 g0 m0 a0 w0 m2 (listed.setIfInBounds i true) g' a' w' → wpAnyIn (FW r) nn P .any ops Q fuel (listed.setIfInBounds i true) a' w') :
    wpOpIn (FW r) nn P ops Q i (wpAnyIn (FW r) nn P .any ops Q fuel (listed.setIfInBounds i true)) a w := by
  have hlt := (Array.getElem?_eq_some_iff.1 ho).1
  have henv := inv.look hlen hchk ho hun hed hfit
  have hnm : ¬ g.dom (nb0 + i) := fun hk => by
    rcases inv.dom _ hk with h1 | ⟨j, hj, hlj, e⟩ | h1
    · omega
    · have : j = i := by omega
      subst this; rw [hun] at hlj; cases hlj
    · omega
  have hs : RS T cx g ⟨n, qenv ops.toList E o, m⟩ a w := ⟨inv.mr, inv.dl, henv, inv.tz⟩
  have hw : Region.wanted o (yielded ops a.tmps) = true := by simp [Region.wanted, hgd]
  unfold wpOpIn
  simp only [ho]
  rw [if_pos hw]
  refine pop1_ok (F := fun s' => ∃ rr m2, s' = St.put ⟨n, qenv ops.toList E o, m⟩ o.dst rr m2 ∧ Qc rr m2) hT inv.yok hs hnm (by show nb0 + i < m.nb; omega) ?_ ?_
  · unfold pop1
    rw [hop]
    simp only [popC, hfc]
    exact ⟨hdst, hb.mono fun rr m2 hq => ⟨rr, m2, rfl, hq⟩⟩
  · rintro s' g' a' w' hs' hx' hnb' hdom' hdf' hn' ⟨rr, m2, rfl, hq⟩ ⟨u, v2, m3, rfl, hu, hs2⟩
    have hv2 : ∀ d, o.dst = some d → v2 = rr := by
      intro d hd
      rw [hd] at hs2; simp only [St.put, St.mk.injEq, List.cons.injEq, Prod.mk.injEq] at hs2; exact hs2.2.1.1.2.symm
    have hmr := hs'.mr
    have hdl := hs'.dl
    rw [st_put_m] at hmr hdl hx' hnb'
    obtain ⟨vs2, hvi, hsame, next⟩ := next rr m2 hq hnb'
    refine next _ _ _ ((inv.vals (vs' := vs2) hsame).next hchk ho hun hed (fun v d hv hd => by rw [hvi] at hv; cases hv; rw [← hv2 d hd]; exact hu) hdst hmr hdl hx' (fun k hk => by
      rcases hdom' k hk with h1 | h1 | h1
      · exact .inl h1
      · exact .inr (.inl h1)
      · refine .inr (.inr ?_)
        have h1' : m.nb ≤ k := h1
        omega))
structure TailA (T : Tab) (ops : List Oper) (vs : List PV) (env0 : List (Nat × PV)) (n nb0 b ia is te : Nat) (os : Oper) (A U C : Nat → Bool) (F : St → Prop) (r : PV) (m2 : Mem) (vs2 : List PV) (EF Es : List (Nat × PV)) (vS : PV) (bS : Box) (side : Prop) : Prop where
  len : vs2.length = ops.length
  vb : vs2[b]? = some r
  va : ∀ i, A i = true → vs2[i]? = vs[i]?
  vi : vs2[ia]? = some (.ref (nb0 + ia) 0)
  vw : vs2[is]? = some vS
  free : ∀ i o v, (U i = true ∨ C i = true) → ops[i]? = some o → vs2[i]? = some v → ∃ E, Fit ops vs2 env0 E i o ∧ dstOK n o.dst = true ∧ o.guard = none ∧ ∃ sd : Prop, (∀ bx nm, popv T (peval T (qenv ops E o)) bx nm o.op = some (sd, v, [])) ∧ sd
  fs : Fit ops vs2 env0 Es is os
  st : popv T (peval T (qenv ops Es os)) (setB m2.bx (nb0 + ia) (.cells ((T.at te).zero.map .v))) (nb0 + is) os.op = some (side, vS, [(nb0 + ia, bS)])
  sd : side
  fin : Fin ops vs2 env0 EF
  q : F ⟨n, EF, ⟨m2.nb, setB m2.bx (nb0 + ia) bS, m2.ys⟩⟩
theorem pw_bigA (hT : TOK T P) (hmix : P.follows .mixedOrders = true) {rid : Nat} {ops : Array Oper} {Q : Exit → St → Prop} {s : St} {b ia is : Nat} {ob oa os : Oper} {f : Operand} {args : Array Operand} {ats : Array Nat} {gf : Nat} {caps : List PV} {EB : List (Nat × PV)} {te : Nat} {A U C : Nat → Bool} {vs : List PV}
    (hchk : qchk ops.toList = true) (hob : ops.toList[b]? = some ob) (hop : ob.op = .call ⟨.value f, args, ats⟩) (hgd : ob.guard = none) (hfc : peval T (qenv ops.toList EB ob) f = .clos gf caps) (hdst : dstOK s.n ob.dst = true)
    (hoa : ops.toList[ia]? = some oa) (hopa : oa.op = .alloc te) (hsz : (T.at te).sz ≠ 0) (hga : oa.guard = none) (hda : dstOK s.n oa.dst = true)
    (hos : ops.toList[is]? = some os) (hgs : os.guard = none) (hds : dstOK s.n os.dst = true)
    (hlen : vs.length = ops.toList.length) (hva : vs[ia]? = some (.ref (s.m.nb + ia) 0))
    (hpart : ∀ i, i < ops.size → A i = true ∨ i = b ∨ i = ia ∨ i = is ∨ U i = true ∨ C i = true)
    (hne : b ≠ ia ∧ b ≠ is ∧ ia ≠ is)
    (hAn : ∀ i, A i = true → i ≠ b ∧ i ≠ ia ∧ i ≠ is ∧ U i = false ∧ C i = false)
    (hUn : ∀ i, U i = true → i ≠ b ∧ i ≠ ia ∧ i ≠ is ∧ C i = false)
    (hCn : ∀ i, C i = true → i ≠ b ∧ i ≠ ia ∧ i ≠ is)
    (hAe : ∀ i, A i = true → Behind ops.toList ob i)
    (hUe : ∀ i o, U i = true → ops.toList[i]? = some o → ∃ e ∈ o.after, Region.binds .any e = true ∧ (e.on = b ∨ U e.on = true))
    (hse1 : ∃ e ∈ os.after, Region.binds .any e = true ∧ e.on = ia) (hse2 : ∃ e ∈ os.after, Region.binds .any e = true ∧ (e.on = b ∨ U e.on = true))
    (hCe : ∀ i o, C i = true → ops.toList[i]? = some o → ∃ e ∈ o.after, Region.binds .any e = true ∧ (e.on = is ∨ C e.on = true))
    (hfb : Fit ops.toList vs s.env EB b ob)
    (hA : ∀ i o v, A i = true → ops.toList[i]? = some o → vs[i]? = some v → ∃ E, Fit ops.toList vs s.env E i o ∧ efact T ops.toList s.n s.m.bx s.m.nb i o E v ∧ ∀ k ∈ fpV (peval T (qenv ops.toList E o)) o.op, k ≠ s.m.nb + ia)
    (hb : SpecM T P Y gf (args.toList.map (peval T (qenv ops.toList EB ob)) ++ caps) ⟨s.m.nb + ops.toList.length, setB s.m.bx (s.m.nb + ia) .dead, s.m.ys⟩ (fun rr m2 => ∃ (vs2 : List PV) (EF Es : List (Nat × PV)) (vS : PV) (bS : Box) (side : Prop), TailA T ops.toList vs s.env s.n s.m.nb b ia is te os A U C (Q .normal) rr m2 vs2 EF Es vS bS side)) : PW T P Y (.region rid ops true) Q s := by
  intro r n cx lo ds g a w hr hy hf0
  have hget : ∀ i, ops.toList[i]? = ops[i]? := fun i => by rw [Array.getElem?_toList]
  have nsz : ops.toList.length = ops.size := by simp
  have hobA : ops[b]? = some ob := by rw [← hget]; exact hob
  have hoaA : ops[ia]? = some oa := by rw [← hget]; exact hoa
  have hosA : ops[is]? = some os := by rw [← hget]; exact hos
  have hbl := (Array.getElem?_eq_some_iff.1 hobA).1
  have hil := (Array.getElem?_eq_some_iff.1 hoaA).1
  have hsl := (Array.getElem?_eq_some_iff.1 hosA).1
  obtain ⟨n1, n2, n3⟩ := hne
  refine wpIn_region_any hmix ?_
  have hw : (({ w with drawn := w.drawn + 1 } : World)).heap = w.heap := rfl
  have hex : EX cx g s.m w g ⟨s.m.nb + ops.toList.length, s.m.bx, s.m.ys⟩ { w with drawn := w.drawn + 1 } := (EX.of_heap (m := s.m) hw rfl rfl rfl).nb
  have hm0 : MR T cx g ⟨s.m.nb + ops.toList.length, s.m.bx, s.m.ys⟩ { w with drawn := w.drawn + 1 } := ((hf0.rs.reserve ops.toList.length).mr).of_heap hw
  have rep : ∀ i, (Array.replicate ops.size false).getD i false = false := fun i => by
    simp only [Array.getD, Array.size_replicate]
    split <;> simp
  have inv0 : QInv T P Y cx ops vs s.env s.n s.m.nb g s.m a w ⟨s.m.nb + ops.toList.length, s.m.bx, s.m.ys⟩ (Array.replicate ops.size false) g a { w with drawn := w.drawn + 1 } := {
    yok := hy.gx hex.gx
    sz := by simp
    cl := fun j o hj => by rw [rep] at hj; cases hj
    mr := hm0
    dl := fun k hk => Nat.lt_of_lt_of_le (hf0.rs.dl k hk) (Nat.le_add_right _ _)
    tz := hf0.rs.sz
    dom := fun k hk => .inl (hf0.rs.dl k hk)
    v1 := fun i o v d hj => by rw [rep] at hj; cases hj
    v2 := fun k _ => (hf0.rs.env k).mono hex.gx
    ex := hex
    dn := fun k hk => .inl hk
    df := rfl }
  have set_self : ∀ (L : Array Bool) (i : Nat), L.size = ops.size → i < ops.size → (L.setIfInBounds i true).getD i false = true := fun L i h1 h2 => by simp [Array.getD, h1, h2]
  have dec : ∀ {i j : Nat}, decide (i = j) = true → i = j := fun h => of_decide_eq_true h
  -- all but what comes behind the write
  have p3 : ∀ (rr : PV) (m2 : Mem) (vs2 : List PV) (EF Es : List (Nat × PV)) (vS : PV) (bS : Box) (side : Prop), TailA T ops.toList vs s.env s.n s.m.nb b ia is te os A U C (Q .normal) rr m2 vs2 EF Es vS bS side → s.m.nb + ops.toList.length ≤ m2.nb →
      ∀ (fuel : Nat) (L : Array Bool) (g1 : Gh) (a1 : Act) (w1 : World), QInv T P Y cx ops vs2 s.env s.n s.m.nb g s.m a w ⟨m2.nb, setB m2.bx (s.m.nb + ia) bS, m2.ys⟩ L g1 a1 w1 → (∀ i, A i = true ∨ i = b ∨ i = ia ∨ i = is → L.getD i false = true) → (List.range ops.size).countP (fun j => !L.getD j true) ≤ fuel → wpAnyIn (FW r) n P .any ops (Post T cx lo g s w Q) fuel L a1 w1 := by
    intro rr m2 vs2 EF Es vS bS side t hnb fuel L g1 a1 w1 inv hL hcnt
    refine quiet2_go hT (EF := EF) (skip := fun j => A j || (decide (j = b) || (decide (j = ia) || decide (j = is)))) (D := fun _ => false) (B := fun _ => false) t.len hchk (by rw [← nsz]; exact hnb) ?_ (fun i o hi => by cases hi) (fun _ => t.fin) (fun i o hi => by cases hi) ?_ fuel L g1 a1 w1 inv (fun i hi => ?_) (fun i hi => by cases hi) hcnt
    · intro i o v hsk _ _ ho hv
      simp only [Bool.or_eq_false_iff, decide_eq_false_iff_not] at hsk
      have hi : i < ops.size := by rw [← nsz]; exact (List.getElem?_eq_some_iff.1 ho).1
      have huc : U i = true ∨ C i = true := by
        rcases hpart i hi with h | h | h | h | h
        · rw [hsk.1] at h; cases h
        · exact absurd h hsk.2.1
        · exact absurd h hsk.2.2.1
        · exact absurd h hsk.2.2.2
        · exact h
      obtain ⟨E, h1, h2, h3, sd, h4, h5⟩ := t.free i o v huc ho hv
      exact ⟨E, h1, h2, h3, sd, h4 _ _, h5⟩
    · intro _ g2 a2 w2 j1 j2 j3 j4 j5 j6 j7
      exact ⟨⟨s.n, EF, ⟨m2.nb, setB m2.bx (s.m.nb + ia) bS, m2.ys⟩⟩, cx.fx, ds, g2, fun _ h => h, hf0.fx_keep ⟨j1, j2, j3, j4⟩ j5 j7, j5, Nat.le_trans (Nat.le_add_right _ _) hnb, j6, rfl, t.q⟩
    · simp only [Bool.or_eq_true] at hi
      rcases hi with h | h | h | h
      · exact hL i (.inl h)
      · exact hL i (.inr (.inl (dec h)))
      · exact hL i (.inr (.inr (.inl (dec h))))
      · exact hL i (.inr (.inr (.inr (dec h))))
  -- behind the call, the box made
  have p2 : ∀ (rr : PV) (m2 : Mem) (vs2 : List PV) (EF Es : List (Nat × PV)) (vS : PV) (bS : Box) (side : Prop), TailA T ops.toList vs s.env s.n s.m.nb b ia is te os A U C (Q .normal) rr m2 vs2 EF Es vS bS side → s.m.nb + ops.toList.length ≤ m2.nb →
      ∀ (fuel : Nat) (L : Array Bool) (g1 : Gh) (a1 : Act) (w1 : World), QInv T P Y cx ops vs2 s.env s.n s.m.nb g s.m a w ⟨m2.nb, setB m2.bx (s.m.nb + ia) (.cells ((T.at te).zero.map .v)), m2.ys⟩ L g1 a1 w1 → (∀ i, A i = true ∨ i = b ∨ i = ia → L.getD i false = true) → (∀ i, i = is ∨ C i = true → L.getD i false = false) →
      (List.range ops.size).countP (fun j => !L.getD j true) ≤ fuel → wpAnyIn (FW r) n P .any ops (Post T cx lo g s w Q) fuel L a1 w1 := by
    intro rr m2 vs2 EF Es vS bS side t hnb fuel L g1 a1 w1 inv hL hN hcnt
    refine quiet2_go hT (EF := EF) (skip := fun j => A j || (decide (j = b) || decide (j = ia))) (D := fun j => decide (j = is) || C j) (B := fun j => decide (j = is)) t.len hchk (by rw [← nsz]; exact hnb) ?_ ?_ ?_ ?_ ?_ fuel L g1 a1 w1 inv (fun i hi => ?_) (fun i hi => ?_) hcnt
    · intro i o v hsk hD _ ho hv
      simp only [Bool.or_eq_false_iff, decide_eq_false_iff_not] at hsk hD
      have hi : i < ops.size := by rw [← nsz]; exact (List.getElem?_eq_some_iff.1 ho).1
      have hu : U i = true := by
        rcases hpart i hi with h | h | h | h | h | h
        · rw [hsk.1] at h; cases h
        · exact absurd h hsk.2.1
        · exact absurd h hsk.2.2
        · exact absurd h hD.1
        · exact h
        · rw [hD.2] at h; cases h
      obtain ⟨E, h1, h2, h3, sd, h4, h5⟩ := t.free i o v (.inl hu) ho hv
      exact ⟨E, h1, h2, h3, sd, h4 _ _, h5⟩
    · intro i o hD hBi ho
      simp only [Bool.or_eq_true] at hD
      rcases hD with h | h
      · rw [h] at hBi; cases hBi
      · obtain ⟨e, he, hbe, hor⟩ := hCe i o h ho
        refine ⟨e, he, hbe, ?_⟩
        rcases hor with h1 | h1
        · simp [h1]
        · simp [h1]
    · intro h0
      have := h0 is hsl
      simp at this
    · intro i o hBi ho fuel L2 g2 a2 w2 inv2 hsk hDl hun hed hcnt2
      have hi : i = is := dec hBi
      subst hi
      rw [hosA] at ho; cases ho
      refine op_step hT inv2 t.len hchk (by rw [← nsz]; exact hnb) hosA hun hed t.fs hds hgs t.st t.sd t.vw fun g3 a3 w3 inv3 => ?_
      have hmm : (⟨m2.nb, setBs (setB m2.bx (s.m.nb + ia) (.cells ((T.at te).zero.map .v))) [(s.m.nb + ia, bS)], m2.ys⟩ : Mem) = ⟨m2.nb, setB m2.bx (s.m.nb + ia) bS, m2.ys⟩ := by simp only [setBs, setB_setB]
      rw [show (⟨(⟨m2.nb, setB m2.bx (s.m.nb + ia) (.cells ((T.at te).zero.map .v)), m2.ys⟩ : Mem).nb, setBs (⟨m2.nb, setB m2.bx (s.m.nb + ia) (.cells ((T.at te).zero.map .v)), m2.ys⟩ : Mem).bx [(s.m.nb + ia, bS)], (⟨m2.nb, setB m2.bx (s.m.nb + ia) (.cells ((T.at te).zero.map .v)), m2.ys⟩ : Mem).ys⟩ : Mem) = _ from hmm] at inv3
      refine p3 rr m2 vs2 EF Es vS bS side t hnb _ _ _ _ _ inv3 (fun j hj => ?_) hcnt2
      rcases hj with h | h | h | h
      · exact getD_set_true (hsk j (by simp [h]))
      · exact getD_set_true (hsk j (by simp [h]))
      · exact getD_set_true (hsk j (by simp [h]))
      · rw [h]; exact set_self _ _ inv2.sz hsl
    · intro h0
      have := h0 is hsl
      simp at this
    · simp only [Bool.or_eq_true] at hi
      rcases hi with h | h | h
      · exact hL i (.inl h)
      · exact hL i (.inr (.inl (dec h)))
      · exact hL i (.inr (.inr (dec h)))
    · simp only [Bool.or_eq_true] at hi
      exact hN i (hi.imp dec id)
  have allocv : ∀ (ρ : Operand → PV) (bx : Nat → Box), popv T ρ bx (s.m.nb + ia) oa.op = some (True, .ref (s.m.nb + ia) 0, [(s.m.nb + ia, .cells ((T.at te).zero.map .v))]) := fun ρ bx => by
    rw [hopa]; simp only [popv, if_neg hsz]
  have fitA : ∀ vs', Fit ops.toList vs' s.env s.env ia oa := fun vs' k hk => by
    rw [hopa, show opTmps (.alloc te) = [] from rfl] at hk
    simp [glook, hga] at hk
  -- behind the call, the box not made yet
  have p1b : ∀ (rr : PV) (m2 : Mem) (x0 : Box) (vs2 : List PV) (EF Es : List (Nat × PV)) (vS : PV) (bS : Box) (side : Prop), TailA T ops.toList vs s.env s.n s.m.nb b ia is te os A U C (Q .normal) rr m2 vs2 EF Es vS bS side → s.m.nb + ops.toList.length ≤ m2.nb →
      ∀ (fuel : Nat) (L : Array Bool) (g1 : Gh) (a1 : Act) (w1 : World), QInv T P Y cx ops vs2 s.env s.n s.m.nb g s.m a w ⟨m2.nb, setB m2.bx (s.m.nb + ia) x0, m2.ys⟩ L g1 a1 w1 → (∀ i, A i = true ∨ i = b → L.getD i false = true) → (∀ i, i = ia ∨ i = is ∨ C i = true → L.getD i false = false) →
      (List.range ops.size).countP (fun j => !L.getD j true) ≤ fuel → wpAnyIn (FW r) n P .any ops (Post T cx lo g s w Q) fuel L a1 w1 := by
    intro rr m2 x0 vs2 EF Es vS bS side t hnb fuel L g1 a1 w1 inv hL hN hcnt
    refine quiet2_go hT (EF := EF) (skip := fun j => A j || decide (j = b)) (D := fun j => decide (j = ia) || (decide (j = is) || C j)) (B := fun j => decide (j = ia)) t.len hchk (by rw [← nsz]; exact hnb) ?_ ?_ ?_ ?_ ?_ fuel L g1 a1 w1 inv (fun i hi => ?_) (fun i hi => ?_) hcnt
    · intro i o v hsk hD _ ho hv
      simp only [Bool.or_eq_false_iff, decide_eq_false_iff_not] at hsk hD
      have hi : i < ops.size := by rw [← nsz]; exact (List.getElem?_eq_some_iff.1 ho).1
      have hu : U i = true := by
        rcases hpart i hi with h | h | h | h | h | h
        · rw [hsk.1] at h; cases h
        · exact absurd h hsk.2
        · exact absurd h hD.1
        · exact absurd h hD.2.1
        · exact h
        · rw [hD.2.2] at h; cases h
      obtain ⟨E, h1, h2, h3, sd, h4, h5⟩ := t.free i o v (.inl hu) ho hv
      exact ⟨E, h1, h2, h3, sd, h4 _ _, h5⟩
    · intro i o hD hBi ho
      simp only [Bool.or_eq_true] at hD
      rcases hD with h | h | h
      · rw [h] at hBi; cases hBi
      · have := dec h
        subst this
        rw [hos] at ho; cases ho
        obtain ⟨e, he, hbe, h1⟩ := hse1
        exact ⟨e, he, hbe, by simp [h1]⟩
      · obtain ⟨e, he, hbe, hor⟩ := hCe i o h ho
        refine ⟨e, he, hbe, ?_⟩
        rcases hor with h1 | h1 <;> simp [h1]
    · intro h0
      have := h0 ia hil
      simp at this
    · intro i o hBi ho fuel L2 g2 a2 w2 inv2 hsk hDl hun hed hcnt2
      have hi : i = ia := dec hBi
      subst hi
      rw [hoaA] at ho; cases ho
      refine op_step hT inv2 t.len hchk (by rw [← nsz]; exact hnb) hoaA hun hed (fitA vs2) hda hga (allocv _ _) trivial t.vi fun g3 a3 w3 inv3 => ?_
      have hmm : (⟨m2.nb, setBs (setB m2.bx (s.m.nb + i) x0) [(s.m.nb + i, .cells ((T.at te).zero.map .v))], m2.ys⟩ : Mem) = ⟨m2.nb, setB m2.bx (s.m.nb + i) (.cells ((T.at te).zero.map .v)), m2.ys⟩ := by simp only [setBs, setB_setB]
      have inv4 : QInv T P Y cx ops vs2 s.env s.n s.m.nb g s.m a w ⟨m2.nb, setB m2.bx (s.m.nb + i) (.cells ((T.at te).zero.map .v)), m2.ys⟩ (L2.setIfInBounds i true) g3 a3 w3 := by rw [← hmm]; exact inv3
      refine p2 rr m2 vs2 EF Es vS bS side t hnb _ _ _ _ _ inv4 (fun j hj => ?_) (fun j hj => ?_) hcnt2
      · rcases hj with h | h | h
        · exact getD_set_true (hsk j (by simp [h]))
        · exact getD_set_true (hsk j (by simp [h]))
        · rw [h]; exact set_self _ _ inv2.sz hil
      · have hji : j ≠ i := by
          rcases hj with h | h
          · rw [h]; exact fun e => n3 e.symm
          · exact (hCn j h).2.1
        rw [getD_set_ne false (Ne.symm hji)]
        exact hDl j (by rcases hj with h | h <;> simp [h])
    · intro h0
      have := h0 ia hil
      simp at this
    · simp only [Bool.or_eq_true] at hi
      exact hL i (hi.imp id dec)
    · simp only [Bool.or_eq_true] at hi
      exact hN i (hi.imp dec fun h => h.imp dec id)
  have dead_eq : ∀ x : Box, setB (setB s.m.bx (s.m.nb + ia) x) (s.m.nb + ia) .dead = setB s.m.bx (s.m.nb + ia) .dead := fun x => setB_setB _ _ _ _
  have hkl : s.m.nb + ia < s.m.nb + ops.toList.length := by rw [nsz]; omega
  -- what may not come ahead of the call
  have hDe : ∀ i o, (i = b ∨ U i = true ∨ i = is ∨ C i = true) → i ≠ b → ops.toList[i]? = some o → ∃ e ∈ o.after, Region.binds .any e = true ∧ (e.on = b ∨ U e.on = true ∨ e.on = is ∨ C e.on = true) := by
    intro i o hor hnb ho
    rcases hor with h | h | h | h
    · exact absurd h hnb
    · obtain ⟨e, he, hbe, h1⟩ := hUe i o h ho
      exact ⟨e, he, hbe, h1.imp id .inl⟩
    · subst h
      rw [hos] at ho; cases ho
      obtain ⟨e, he, hbe, h1⟩ := hse2
      exact ⟨e, he, hbe, h1.imp id .inl⟩
    · obtain ⟨e, he, hbe, h1⟩ := hCe i o h ho
      exact ⟨e, he, hbe, .inr (.inr h1)⟩
  have Dd : ∀ i, (decide (i = b) || (U i || (decide (i = is) || C i))) = true ↔ (i = b ∨ U i = true ∨ i = is ∨ C i = true) := fun i => by
    simp only [Bool.or_eq_true, decide_eq_true_eq]
  -- the box made ahead of the call
  have p1a : ∀ (fuel : Nat) (L : Array Bool) (g1 : Gh) (a1 : Act) (w1 : World), QInv T P Y cx ops vs s.env s.n s.m.nb g s.m a w ⟨s.m.nb + ops.toList.length, setB s.m.bx (s.m.nb + ia) (.cells ((T.at te).zero.map .v)), s.m.ys⟩ L g1 a1 w1 → L.getD ia false = true → (∀ i, (i = b ∨ U i = true ∨ i = is ∨ C i = true) → L.getD i false = false) →
      (List.range ops.size).countP (fun j => !L.getD j true) ≤ fuel → wpAnyIn (FW r) n P .any ops (Post T cx lo g s w Q) fuel L a1 w1 := by
    intro fuel L g1 a1 w1 inv hL hN hcnt
    refine quiet2_go hT (EF := []) (skip := fun j => decide (j = ia)) (D := fun i => decide (i = b) || (U i || (decide (i = is) || C i))) (B := fun j => decide (j = b)) hlen hchk (by simp) ?_ ?_ ?_ ?_ ?_ fuel L g1 a1 w1 inv (fun i hi => by rw [dec hi]; exact hL) (fun i hi => hN i ((Dd i).1 hi)) hcnt
    · intro i o v hsk hD _ ho hv
      have hi : i < ops.size := by rw [← nsz]; exact (List.getElem?_eq_some_iff.1 ho).1
      have hnd : ¬ (i = b ∨ U i = true ∨ i = is ∨ C i = true) := fun h => by rw [(Dd i).2 h] at hD; cases hD
      have hai : A i = true := by
        rcases hpart i hi with h | h | h | h | h | h
        · exact h
        · exact absurd (.inl h) hnd
        · exact absurd h (of_decide_eq_false hsk)
        · exact absurd (.inr (.inr (.inl h))) hnd
        · exact absurd (.inr (.inl h)) hnd
        · exact absurd (.inr (.inr (.inr h))) hnd
      obtain ⟨E, h1, ⟨f1, f2, sd, f3, f4⟩, h3⟩ := hA i o v hai ho hv
      exact ⟨E, h1, f1, f2, sd, by rw [popv_agree (bx := s.m.bx) fun k hk => setB_old _ _ (h3 k hk)]; exact f3, f4⟩
    · intro i o hD hBi ho
      obtain ⟨e, he, hbe, h1⟩ := hDe i o ((Dd i).1 hD) (of_decide_eq_false hBi) ho
      exact ⟨e, he, hbe, (Dd _).2 h1⟩
    · intro h0
      have := h0 b hbl
      simp at this
    · intro i o hBi ho fuel L2 g2 a2 w2 inv2 hsk hDl hun hed hcnt2
      have hi : i = b := dec hBi
      subst hi
      rw [hobA] at ho; cases ho
      have hb2 := SpecM.frame (m := ⟨s.m.nb + ops.toList.length, setB s.m.bx (s.m.nb + ia) (.cells ((T.at te).zero.map .v)), s.m.ys⟩) (k := s.m.nb + ia) hkl (by rw [dead_eq]; exact hb)
      refine call_step hT inv2 hlen hchk (by simp) hobA hun hed hfb hdst hgd hop hfc hb2 fun rr mm hq hnb => ?_
      obtain ⟨m2, rfl, vs2, EF, Es, vS, bS, side, t⟩ := hq
      refine ⟨vs2, t.vb, fun j hj => ?_, fun g3 a3 w3 inv3 => ?_⟩
      · have hjl : j < ops.size := by
          rw [← inv2.sz]
          simp only [Array.getD] at hj
          split at hj
          · assumption
          · cases hj
        rcases hpart j hjl with h | h | h | h
        · exact t.va j h
        · rw [h, hun] at hj; cases hj
        · rw [h, t.vi, hva]
        · have hor : U j = true ∨ j = is ∨ C j = true := by
            rcases h with h | h | h
            · exact .inr (.inl h)
            · exact .inl h
            · exact .inr (.inr h)
          have := hDl j ((Dd j).2 (.inr hor))
          rw [this] at hj; cases hj
      · simp only [setB_new] at inv3
        refine p2 rr m2 vs2 EF Es vS bS side t hnb _ _ _ _ _ inv3 (fun j hj => ?_) (fun j hj => ?_) hcnt2
        · rcases hj with h | h | h
          · exact getD_set_true ((hAe j h).listed inv2.cl hed)
          · rw [h]; exact set_self _ _ inv2.sz hbl
          · exact getD_set_true (hsk j (by simp [h]))
        · have hji : j ≠ i := by
            rcases hj with h | h
            · rw [h]; exact fun e => n2 e.symm
            · exact (hCn j h).1
          rw [getD_set_ne false (Ne.symm hji)]
          exact hDl j ((Dd j).2 (.inr (.inr hj)))
    · intro h0
      have := h0 b hbl
      simp at this
  refine quiet2_go hT (m := ⟨s.m.nb + ops.toList.length, s.m.bx, s.m.ys⟩) (EF := []) (skip := fun _ => false) (D := fun i => decide (i = ia) || (decide (i = b) || (U i || (decide (i = is) || C i)))) (B := fun i => decide (i = b) || decide (i = ia)) hlen hchk (by simp) ?_ ?_ ?_ ?_ ?_ ops.size _ g a _ inv0 (fun i hi => by cases hi) (fun i _ => rep i) ?_
  · intro i o v _ hD hBi ho hv
    simp only [Bool.or_eq_false_iff, decide_eq_false_iff_not] at hBi
    have hi : i < ops.size := by rw [← nsz]; exact (List.getElem?_eq_some_iff.1 ho).1
    have hnd : ¬ (i = b ∨ U i = true ∨ i = is ∨ C i = true) := fun h => by rw [(Dd i).2 h, Bool.or_true] at hD; cases hD
    have hai : A i = true := by
      rcases hpart i hi with h | h | h | h | h | h
      · exact h
      · exact absurd (.inl h) hnd
      · exact absurd h hBi.2
      · exact absurd (.inr (.inr (.inl h))) hnd
      · exact absurd (.inr (.inl h)) hnd
      · exact absurd (.inr (.inr (.inr h))) hnd
    obtain ⟨E, h1, h2, _⟩ := hA i o v hai ho hv
    exact ⟨E, h1, h2⟩
  · intro i o hD hBi ho
    simp only [Bool.or_eq_false_iff, decide_eq_false_iff_not] at hBi
    have hD' : (decide (i = b) || (U i || (decide (i = is) || C i))) = true := by
      rcases Bool.or_eq_true_iff.1 hD with h | h
      · exact absurd (dec h) hBi.2
      · exact h
    obtain ⟨e, he, hbe, h1⟩ := hDe i o ((Dd i).1 hD') hBi.1 ho
    exact ⟨e, he, hbe, by rw [(Dd _).2 h1, Bool.or_true]⟩
  · intro h0
    have := h0 b hbl
    simp at this
  · intro i o hBi ho fuel L2 g2 a2 w2 inv2 hsk hDl hun hed hcnt2
    simp only [Bool.or_eq_true] at hBi
    rcases hBi with hBi | hBi
    · have hi : i = b := dec hBi
      subst hi
      rw [hobA] at ho; cases ho
      have hb2 := SpecM.frame (m := ⟨s.m.nb + ops.toList.length, s.m.bx, s.m.ys⟩) (k := s.m.nb + ia) hkl hb
      refine call_step hT inv2 hlen hchk (by simp) hobA hun hed hfb hdst hgd hop hfc hb2 fun rr mm hq hnb => ?_
      obtain ⟨m2, rfl, vs2, EF, Es, vS, bS, side, t⟩ := hq
      have hia : L2.getD ia false = false := hDl ia (by simp)
      have hDl2 : ∀ j, (j = i ∨ U j = true ∨ j = is ∨ C j = true) → L2.getD j false = false := fun j hj => hDl j (by rw [(Dd j).2 hj, Bool.or_true])
      refine ⟨vs2, t.vb, fun j hj => ?_, fun g3 a3 w3 inv3 => ?_⟩
      · have hjl : j < ops.size := by
          rw [← inv2.sz]
          simp only [Array.getD] at hj
          split at hj
          · assumption
          · cases hj
        rcases hpart j hjl with h | h | h | h | h | h
        · exact t.va j h
        · rw [h, hun] at hj; cases hj
        · rw [h, hia] at hj; cases hj
        · rw [hDl2 j (.inr (.inr (.inl h)))] at hj; cases hj
        · rw [hDl2 j (.inr (.inl h))] at hj; cases hj
        · rw [hDl2 j (.inr (.inr (.inr h)))] at hj; cases hj
      · refine p1b rr m2 _ vs2 EF Es vS bS side t hnb _ _ _ _ _ inv3 (fun j hj => ?_) (fun j hj => ?_) hcnt2
        · rcases hj with h | h
          · exact getD_set_true ((hAe j h).listed inv2.cl hed)
          · rw [h]; exact set_self _ _ inv2.sz hbl
        · have hji : j ≠ i := by
            rcases hj with h | h | h
            · rw [h]; exact fun e => n1 e.symm
            · rw [h]; exact fun e => n2 e.symm
            · exact (hCn j h).1
          rw [getD_set_ne false (Ne.symm hji)]
          rcases hj with h | h | h
          · rw [h]; exact hia
          · exact hDl2 j (.inr (.inr (.inl h)))
          · exact hDl2 j (.inr (.inr (.inr h)))
    · have hi : i = ia := dec hBi
      subst hi
      rw [hoaA] at ho; cases ho
      refine op_step hT inv2 hlen hchk (by simp) hoaA hun hed (fitA vs) hda hga (allocv _ _) trivial hva fun g3 a3 w3 inv3 => ?_
      refine p1a _ _ _ _ _ inv3 (set_self _ _ inv2.sz hil) (fun j hj => ?_) hcnt2
      have hji : j ≠ i := by
        rcases hj with h | h | h | h
        · rw [h]; exact n1
        · exact (hUn j h).2.1
        · rw [h]; exact fun e => n3 e.symm
        · exact (hCn j h).2.1
      rw [getD_set_ne false (Ne.symm hji)]
      exact hDl j (by rw [(Dd j).2 hj, Bool.or_true])
  · intro h0
    have := h0 b hbl
    simp at this
  · have := List.countP_le_length (p := fun j => !(Array.replicate ops.size false).getD j true) (l := List.range ops.size)
    simpa using this
end
end Go.Proofs.Ytcbhmedknbiffaa
