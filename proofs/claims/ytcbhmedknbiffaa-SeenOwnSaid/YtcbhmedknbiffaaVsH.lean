/-
  The operations of the layer VS are sound: append.
-/
import Derived.Test.YtcbhmedknbiffaaVsG
namespace Go.Proofs.Ytcbhmedknbiffaa
open Go Go.RowKit
theorem EX.kill {T cx g m w} (_h : MR T cx g m w) (k : Nat) : EX cx g m w g ⟨m.nb, setB m.bx k .dead, m.ys⟩ w :=
  { EX.refl cx g m w with
    bn := fun j hj => by
      obtain ⟨hd, hj⟩ := hj
      replace hj : (setB m.bx k .dead j).owns _ = true := hj
      by_cases e : j = k
      · subst e; rw [setB_new] at hj; simp [Box.owns] at hj
      · rw [setB_old _ _ e] at hj; exact .inr ⟨j, ⟨hd, hj⟩, rfl⟩ }
theorem run_value {P : Program} {s : Sem Value} {w w' : World} {u : Value} (h : s.run P w = .ok u w') : (do pure (Next.value (← s)) : Sem Next).run P w = .ok (.value u) w' := by
  simp only [Sem.run_bind, h, Result.andThen_ok, Sem.run_pure]
theorem RV.drew {g : Gh} {w : World} {x u} (h : RV g w x u) : RV g w.drew x u := h.mono (GX.of_heap (g := g) (w := w) (w' := w.drew) rfl)
theorem append_ok {T P cx g m w nm} (hT : TOK T P) (h : MR T cx g m w) (hnm : ¬ g.dom nm) {t ty e : Nat} (ht : P.underlying t = some (.slice e)) (hs : (T.at e).sz ≠ 0)
    {x y v : PV} {ux uy : Value} {side : Prop} {ws : List (Nat × Box)} (hx : RV g w x ux) (hy : RV g w y uy) (he : appendV T m.bx nm e x y = some (side, v, ws)) (hside : side) :
    StepOK T P cx g m w nm (do pure (.value (← Builtin.append_ #[t, t] ty #[ux, uy]))) v ws := by
  unfold appendV at he
  cases hsrc : srcOf T e m.bx y with
  | none => simp [hsrc] at he
  | some ys =>
  rw [hsrc] at he
  simp only at he
  obtain ⟨ya, yc, rfl, hya⟩ := src_ok h hy hsrc hs
  -- the cells of what is appended
  have hnews : (∀ z ∈ ys, z.length = (T.at e).sz ∧ z.all PV.one = true) → ∃ news : List Value, RL g w ys.flatten news ∧ news.length = ys.length * (T.at e).sz ∧ (∀ c ∈ news, c.oneCell' = true) ∧
      (ys ≠ [] → ∃ ad, ya = some ad ∧ ∀ j v, news[j]? = some v → w.cell? (ad.add j) = some v) := by
    intro hz
    by_cases hne : ys = []
    · subst hne; exact ⟨[], by simp [RL], by simp, by simp, fun h => absurd rfl h⟩
    · obtain ⟨b, off, rfl, hrd⟩ := hya hne
      obtain ⟨news, hl, hc⟩ := hrd.list
      refine ⟨news, hl, ?_, RL.one hl ?_, fun _ => ⟨_, rfl, fun j v hj => by rw [Addr.add_lit]; exact hc j v hj⟩⟩
      · rw [← RL.length hl, flat_length (fun z hm => (hz z hm).1)]
      · intro c hc'
        obtain ⟨z, hzm, hcz⟩ := List.mem_flatten.1 hc'
        exact List.all_eq_true.1 (hz z hzm).2 c hcz
  split at he
  · -- onto nil
    cases he
    obtain ⟨hby, h63, hz⟩ := hside
    simp only [RV] at hx
    subst hx
    obtain ⟨news, hl, hnl, hone, hn⟩ := hnews hz
    by_cases hne : ys = []
    · subst hne
      obtain ⟨hm, hex⟩ := h.virtual (nm := nm) (sz := (T.at e).sz) hnm
      refine ⟨.slice none 0 0, w, g.add nm ⟨0, 0, 0⟩, .inl ?_, ?_, hm, hex, fun k hk => hk⟩
      · simp only [Sem.run_bind, List.length_nil, run_append_nothing hT ht hs w, Result.andThen_ok, Sem.run_pure]
      · simp only [RV]; exact ⟨.inr rfl, none, 0, rfl, by simp, by simp [maxLen], fun h0 => absurd rfl h0⟩
    · have hpos : 0 < ys.length := List.length_pos_iff.2 hne
      obtain ⟨nc, zs, h1, h2, h3, hrun⟩ := run_append_more hT ht hs w (ty := ty) (a := none) (ya := ya) (n := 0) (cap := 0) (m := ys.length) (yc := yc) (olds := []) (news := news) (by simp) hnl (by omega) (Nat.le_refl _) (fun _ => rfl)
        (fun ad had => by cases had) (hn hne) (by omega) (by simpa using hby)
      simp only [Nat.zero_add] at h1 h3 hrun
      have hd : MR T cx g m w.drew := h.of_heap rfl
      obtain ⟨hm, hex⟩ := hd.alloc (nm := nm) (off := 0) (cap := nc) (bx := .row (T.at e).sz ys) (o := .cells ([].toArray ++ news.toArray ++ zs) e) hnm
        (fun g' w' hx' hw => ⟨h1, h2, fun _ => ⟨_, e, hw, by
            simp [h3, hnl, ← Nat.add_mul]; exact Nat.mul_le_mul_right _ (by omega), by
            have := (RC.of_flat (fun z hm => (hz z hm).1) (hl.mono ((GX.of_heap (g := g) (w := w) (w' := w.drew) rfl).trans hx'))).more zs.toList
            simpa using this⟩⟩)
      refine ⟨_, _, _, .inl (run_value hrun), ?_, hm, (EX.of_heap (w := w) (w' := w.drew) rfl rfl rfl rfl).trans hex, fun k hk => hk⟩
      simp only [RV]
      exact ⟨.inr rfl, _, _, rfl, h1, h2, fun _ => by rw [Gh.add_gb_new]; exact ⟨by rw [Nat.zero_mul]; rfl, Nat.zero_add _⟩⟩
  · -- onto a row
    rename_i k sz i n
    cases hbx : m.bx k with
    | dead => simp [hbx] at he
    | mp _ _ => simp [hbx] at he
    | cells xs => simp [hbx] at he
    | row sz' es =>
    rw [hbx] at he
    simp only at he
    split at he
    · rename_i hc
      obtain ⟨rfl, rfl⟩ := hc
      cases he
      obtain ⟨hfull, hby, h63, hz⟩ := hside
      obtain ⟨news, hl, hnl, hone, hn⟩ := hnews hz
      simp only [RV] at hx
      obtain ⟨hd, a, cap, rfl, hc1, hc2, hc3⟩ := hx
      have hb := h.box k hd
      rw [hbx] at hb
      obtain ⟨hb1, hb2, hb3⟩ := hb
      have hkn : ¬ k = nm := fun e => hnm (e ▸ hd)
      by_cases hroom : n + ys.length ≤ cap
      · by_cases hcap : cap = 0
        · -- nothing onto nothing
          subst hcap
          obtain rfl : n = 0 := by omega
          have hne : ys = [] := List.length_eq_zero_iff.1 (by omega)
          subst hne
          have hdr : es.drop i ++ [] = [] := by rw [List.append_nil]; exact List.drop_of_length_le (by omega)
          rw [hdr]
          obtain ⟨hm, hex⟩ := (h.kill k).virtual (nm := nm) (sz := (T.at e).sz) hnm
          refine ⟨.slice a 0 0, w, g.add nm ⟨0, 0, 0⟩, .inl ?_, ?_, hm, (EX.kill h k).trans hex, fun k hk => hk⟩
          · simp only [Sem.run_bind, List.length_nil, run_append_nothing hT ht hs w, Result.andThen_ok, Sem.run_pure]
          · simp only [RV]; exact ⟨.inr rfl, a, 0, rfl, by simp, by simp [maxLen], fun h0 => absurd rfl h0⟩
        · -- in place
          obtain ⟨e1, e2⟩ := hc3 hcap
          subst e1
          obtain ⟨cs, te, h5, h6, h7⟩ := hb3 (by omega)
          have hown : Owns g m k := ⟨hd, by rw [hbx]; simp [Box.owns]; omega⟩
          have hmul : (i + n + ys.length) * (T.at e).sz ≤ (g.gb k).cap * (T.at e).sz := Nat.mul_le_mul_right _ (by omega)
          rw [Nat.add_mul, Nat.add_mul] at hmul
          have hrun := run_append_here hT ht hs w (ty := ty) (b := (g.gb k).b) (off := (g.gb k).off + i * (T.at e).sz) (ya := ya) (n := n) (cap := cap) (m := ys.length) (yc := yc) (news := news) hnl hroom
            (fun hne => hn (fun e0 => hne (by subst e0; exact List.length_eq_zero_iff.1 (by simpa using hnl)))) hone h5 (by omega)
          have hother : ∀ j, j ≠ (g.gb k).b → (w.setRow (g.gb k).b (cs.toList.take ((g.gb k).off + i * (T.at e).sz + n * (T.at e).sz) ++ news ++ cs.toList.drop ((g.gb k).off + i * (T.at e).sz + n * (T.at e).sz + news.length)).toArray).heap[j]? = w.heap[j]? := fun j hj => setRow_other w _ j _ hj
          have hat := setRow_at w (g.gb k).b cs (cs.toList.take ((g.gb k).off + i * (T.at e).sz + n * (T.at e).sz) ++ news ++ cs.toList.drop ((g.gb k).off + i * (T.at e).sz + n * (T.at e).sz + news.length)).toArray te h5
          have hsize : (w.setRow (g.gb k).b (cs.toList.take ((g.gb k).off + i * (T.at e).sz + n * (T.at e).sz) ++ news ++ cs.toList.drop ((g.gb k).off + i * (T.at e).sz + n * (T.at e).sz + news.length)).toArray).heap.size = w.heap.size := by simp
          have hos : (w.setRow (g.gb k).b (cs.toList.take ((g.gb k).off + i * (T.at e).sz + n * (T.at e).sz) ++ news ++ cs.toList.drop ((g.gb k).off + i * (T.at e).sz + n * (T.at e).sz + news.length)).toArray).os = w.os := rfl
          have htp : (w.setRow (g.gb k).b (cs.toList.take ((g.gb k).off + i * (T.at e).sz + n * (T.at e).sz) ++ news ++ cs.toList.drop ((g.gb k).off + i * (T.at e).sz + n * (T.at e).sz + news.length)).toArray).tape = w.tape := rfl
          have hop : (w.setRow (g.gb k).b (cs.toList.take ((g.gb k).off + i * (T.at e).sz + n * (T.at e).sz) ++ news ++ cs.toList.drop ((g.gb k).off + i * (T.at e).sz + n * (T.at e).sz + news.length)).toArray).output = w.output := rfl
          generalize w.setRow (g.gb k).b (cs.toList.take ((g.gb k).off + i * (T.at e).sz + n * (T.at e).sz) ++ news ++ cs.toList.drop ((g.gb k).off + i * (T.at e).sz + n * (T.at e).sz + news.length)).toArray = w' at hrun hother hat hsize hos htp hop
          have hgx : GX g w g w' := ⟨fun _ _ h => h, rfl, fun _ h => h, fun _ _ => rfl, fun _ _ h => h, fun b o v hp hc => by
            rw [World.cell?_of_block (w := w) (hother b (fun e => h.np k hown o (e ▸ hp)))]; exact hc⟩
          have hkill := h.kill k
          have hk1 : ∀ j, Owns g ⟨m.nb, setB m.bx k .dead, m.ys⟩ j → Owns g m j ∧ (g.gb j).b ≠ (g.gb k).b := by
            rintro j ⟨hdj, hj⟩
            replace hj : (setB m.bx k .dead j).owns _ = true := hj
            by_cases e : j = k
            · subst e; rw [setB_new] at hj; simp [Box.owns] at hj
            · rw [setB_old _ _ e] at hj; exact ⟨⟨hdj, hj⟩, fun e' => e (h.inj j k ⟨hdj, hj⟩ hown e')⟩
          have hlenes : (es.drop i).length = n := by simp; omega
          have hbox : BoxOK (g.add nm ⟨(g.gb k).b, (g.gb k).off + i * (T.at e).sz, cap⟩) w' ⟨(g.gb k).b, (g.gb k).off + i * (T.at e).sz, cap⟩ (.row (T.at e).sz (es.drop i ++ ys)) := by
            have hgx' := hgx.add (G := ⟨(g.gb k).b, (g.gb k).off + i * (T.at e).sz, cap⟩) hnm
            refine ⟨by simp; omega, hc2, fun _ => ⟨_, te, hat, by simp at hnl ⊢; rw [← e2, Nat.add_mul] at h6; omega, ?_⟩⟩
            have r1 := (RC.mono hgx' _ _ _ (RC.drop i h7)).take
            have r2 := RC.of_flat (fun z hm => (hz z hm).1) (hl.mono hgx')
            have hcsl : n * (T.at e).sz ≤ ((cs.toList.drop (g.gb k).off).drop (i * (T.at e).sz)).length := by
              have := RC.length (RC.drop i h7); rw [hlenes] at this; exact this
            have r3 := RC.append r1 (by rw [hlenes, List.length_take]; omega) r2
            have hlist : ((List.take ((g.gb k).off + i * (T.at e).sz + n * (T.at e).sz) cs.toList ++ news ++ List.drop ((g.gb k).off + i * (T.at e).sz + n * (T.at e).sz + news.length) cs.toList).toArray).toList.drop ((g.gb k).off + i * (T.at e).sz)
                = (((cs.toList.drop (g.gb k).off).drop (i * (T.at e).sz)).take (n * (T.at e).sz) ++ news) ++ List.drop ((g.gb k).off + i * (T.at e).sz + n * (T.at e).sz + news.length) cs.toList := by
              simp only [List.append_assoc]
              rw [List.drop_append_of_le_length (by simp; omega), List.drop_take, List.drop_drop, show (g.gb k).off + i * (T.at e).sz + n * (T.at e).sz - ((g.gb k).off + i * (T.at e).sz) = n * (T.at e).sz by omega]
            rw [hlist]
            rw [hlenes] at r3
            exact r3.more _
          have hm := hkill.add (nm := nm) (G := ⟨(g.gb k).b, (g.gb k).off + i * (T.at e).sz, cap⟩) (bx := .row (T.at e).sz (es.drop i ++ ys)) (w' := w') hnm hgx (by omega)
            (fun j hj => hother _ (hk1 j hj).2) (fun j o hj hc => by rw [hother j (fun e => h.not_owned hj hc k hown e.symm)]; exact hj) hbox
            (fun _ => ⟨fun o => h.np k hown o, fun j hj => (hk1 j hj).2, h.fresh k hown⟩)
          have hex : EX cx g m w (g.add nm ⟨(g.gb k).b, (g.gb k).off + i * (T.at e).sz, cap⟩) ⟨m.nb, setB (setB m.bx k .dead) nm (.row (T.at e).sz (es.drop i ++ ys)), m.ys⟩ w' :=
            EX.add hnm hgx (by omega) hos htp hop (fun j _ hno => hother j (fun e => hno k hown e.symm)) (setB m.bx k .dead)
              (fun j _ hj => by
                by_cases e : j = k
                · subst e; rw [setB_new] at hj; simp [Box.owns] at hj
                · rw [setB_old _ _ e] at hj; exact hj)
              (fun _ => .inr ⟨k, hown, rfl⟩)
          refine ⟨_, _, _, .inl (run_value hrun), ?_, hm, hex, fun k hk => hk⟩
          simp only [RV]
          exact ⟨.inr rfl, _, _, rfl, hroom, hc2, fun _ => by rw [Gh.add_gb_new]; simp⟩
      · -- a new array
        have hne : ys ≠ [] := fun e0 => by subst e0; simp at hroom; omega
        have hlenes : (es.drop i).length = n := by simp; omega
        -- the old cells
        obtain ⟨olds, ho1, ho2, ho3⟩ : ∃ olds : List Value, RL g w (es.drop i).flatten olds ∧ olds.length = n * (T.at e).sz ∧ (∀ ad, a = some ad → ∀ j v, olds[j]? = some v → w.cell? (ad.add j) = some v) := by
          by_cases hcap : cap = 0
          · obtain rfl : n = 0 := by omega
            have : es.drop i = [] := List.length_eq_zero_iff.1 hlenes
            rw [this]
            exact ⟨[], by simp [RL], by simp, fun _ _ j v hj => by simp at hj⟩
          · obtain ⟨e1, e2⟩ := hc3 hcap
            subst e1
            obtain ⟨cs, te, h5, h6, h7⟩ := hb3 (by omega)
            have h8 := (RC.drop i h7).flat
            have hcsl : n * (T.at e).sz ≤ ((cs.toList.drop (g.gb k).off).drop (i * (T.at e).sz)).length := by
              have := RC.length (RC.drop i h7); rw [hlenes] at this; exact this
            refine ⟨_, h8, by rw [hlenes, List.length_take]; omega, fun ad had j v hj => ?_⟩
            cases had
            rw [Addr.add_lit, cell_of_heap h5, ← Array.getElem?_toList]
            rw [List.getElem?_take] at hj
            split at hj
            · rw [List.getElem?_drop, List.getElem?_drop] at hj
              rw [← hj]; congr 1; omega
            · cases hj
        obtain ⟨nc, zs, h1, h2, h3, hrun⟩ := run_append_more hT ht hs w (ty := ty) (a := a) (ya := ya) (n := n) (cap := cap) (m := ys.length) (yc := yc) (olds := olds) (news := news) ho2 hnl (by omega) hc1
          (fun ha => by
            by_cases hcap : cap = 0
            · exact hcap
            · have := (hc3 hcap).1; rw [ha] at this; cases this)
          ho3 (hn hne) h63 hby
        have hd : MR T cx g ⟨m.nb, setB m.bx k .dead, m.ys⟩ w.drew := (h.kill k).of_heap rfl
        obtain ⟨hm, hex⟩ := hd.alloc (nm := nm) (off := 0) (cap := nc) (bx := .row (T.at e).sz (es.drop i ++ ys)) (o := .cells (olds.toArray ++ news.toArray ++ zs) e) hnm
          (fun g' w' hx' hw => ⟨by simp; omega, h2, fun _ => ⟨_, e, hw, by
              have : nc * (T.at e).sz = (nc - (n + ys.length)) * (T.at e).sz + n * (T.at e).sz + ys.length * (T.at e).sz := by
                rw [← Nat.add_mul, ← Nat.add_mul]; congr 1; omega
              simp [h3, hnl, ho2]; omega, by
              have hgx := (GX.of_heap (g := g) (w := w) (w' := w.drew) rfl).trans hx'
              have hsz : ∀ z ∈ es.drop i, z.length = (T.at e).sz := by
                by_cases hcap : (g.gb k).cap = 0
                · have : es = [] := List.length_eq_zero_iff.1 (by omega)
                  subst this; simp
                · obtain ⟨cs, te, h5, h6, h7⟩ := hb3 hcap
                  exact fun z hm => RC.sizes h7 z (List.mem_of_mem_drop hm)
              have r1 := RC.of_flat hsz (ho1.mono hgx)
              have r2 := RC.of_flat (fun z hm => (hz z hm).1) (hl.mono hgx)
              have := (RC.append r1 (by rw [ho2, hlenes]) r2).more zs.toList
              simpa using this⟩⟩)
        refine ⟨_, _, _, .inl (run_value hrun), ?_, hm, ((EX.kill h k).trans (EX.of_heap (w := w) (w' := w.drew) rfl rfl rfl rfl)).trans hex, fun k hk => hk⟩
        simp only [RV]
        exact ⟨.inr rfl, _, _, rfl, h1, h2, fun _ => by rw [Gh.add_gb_new]; exact ⟨by rw [Nat.zero_mul]; rfl, Nat.zero_add _⟩⟩
    · cases he
  · cases he
end Go.Proofs.Ytcbhmedknbiffaa
