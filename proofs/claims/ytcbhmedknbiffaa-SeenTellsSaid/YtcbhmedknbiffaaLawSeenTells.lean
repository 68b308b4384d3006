/-
  SeenTells: the law holds at every input, with no condition.
-/
import Derived.Test.YtcbhmedknbiffaaRows
import Derived.Test.YtcbhmedknbiffaaEvS
import Derived.Test.YtcbhmedknbiffaaEvX2
import Derived.Test.YtcbhmedknbiffaaL11
import Derived.ProofKit
namespace Go.Proofs.Ytcbhmedknbiffaa
open Go Go.ChangeShapes Go.WideShapes Go.ChangeAt Go.RowKit

theorem Try.own : ownKnob Try.prog.godebug = none := by kernel_rfl
theorem Try.laidOut : laidOutB Try.prog = true := by kernel_rfl

section
variable {H : Type} {enc : TypeId × Value → H} {P : Program}
theorem trodAll_six {w : World} {base : Nat} {spare : Nat → Bool} {held : Bool} {t0 t1 t2 t3 t4 t5 : TypeId} {args : Array Value} {ds : List (DataW H)} {ps : List MemPlace} (h : DataW.TrodAll enc P w base spare held [t0, t1, t2, t3, t4, t5] args.toList ds ps) :
    ∃ v0 v1 v2 v3 v4 v5 d0 d1 d2 d3 d4 d5 p0 p1 p2 p3 p4 p5, args = #[v0, v1, v2, v3, v4, v5] ∧ ds = [d0, d1, d2, d3, d4, d5] ∧ ps = p0 ++ p1 ++ p2 ++ p3 ++ p4 ++ p5 ∧ DataW.Trod enc P w base spare held t0 v0 d0 p0 ∧ DataW.Trod enc P w base spare held t1 v1 d1 p1 ∧ DataW.Trod enc P w base spare held t2 v2 d2 p2 ∧ DataW.Trod enc P w base spare held t3 v3 d3 p3 ∧ DataW.Trod enc P w base spare held t4 v4 d4 p4 ∧ DataW.Trod enc P w base spare held t5 v5 d5 p5 := by
  obtain ⟨v, vs, d, ds', p, q, hargs, rfl, rfl, hd, hrest⟩ := ChangeShapes.trodAll_cons h
  obtain ⟨v1, v2, v3, v4, v5, d1, d2, d3, d4, d5, p1, p2, p3, p4, p5, hv, rfl, rfl, h1, h2, h3, h4, h5⟩ := trodAll_five (args := vs.toArray) (by simpa using hrest)
  have hvs : vs = [v1, v2, v3, v4, v5] := by simpa using congrArg Array.toList hv
  subst hvs
  exact ⟨v, v1, v2, v3, v4, v5, d, d1, d2, d3, d4, d5, p, p1, p2, p3, p4, p5, by cases args; simp_all, rfl, by simp, hd, h1, h2, h3, h4, h5⟩
theorem trodAll_mk6 {w : World} {base : Nat} {spare : Nat → Bool} {held : Bool} {t0 t1 t2 t3 t4 t5 : TypeId} {v0 v1 v2 v3 v4 v5 : Value} {d0 d1 d2 d3 d4 d5 : DataW H} {p0 p1 p2 p3 p4 p5 : List MemPlace} (h0 : DataW.Trod enc P w base spare held t0 v0 d0 p0) (h1 : DataW.Trod enc P w base spare held t1 v1 d1 p1)
    (h2 : DataW.Trod enc P w base spare held t2 v2 d2 p2) (h3 : DataW.Trod enc P w base spare held t3 v3 d3 p3) (h4 : DataW.Trod enc P w base spare held t4 v4 d4 p4) (h5 : DataW.Trod enc P w base spare held t5 v5 d5 p5) : DataW.TrodAll enc P w base spare held [t0, t1, t2, t3, t4, t5] [v0, v1, v2, v3, v4, v5] [d0, d1, d2, d3, d4, d5] (p0 ++ (p1 ++ (p2 ++ (p3 ++ (p4 ++ p5))))) :=
  ⟨p0, _, h0, trodAll_mk5 h1 h2 h3 h4 h5, rfl⟩
end

set_option maxRecDepth 100000 in
theorem seenTells_lifted (os : Os) (started : os.Started) (H : Type) (enc : TypeId × Value → H) :
    ReturnsInHanded {} Try.checked os 3 .any (Rows.seenTellsSpec.pre6 enc Try.prog Try.f3 Rows.seenTellsRow.domain false) (Rows.seenTellsSpec.post enc Try.prog Try.f3 false true false false) := by
  refine returnsInHanded_of_change (C := Try.checked) Try.own started (by kernel_rfl) Try.func3
    (ChangeSpec.witness6 (enc := enc) (C := Try.checked) false ⟨#[], #[.slice none 0 0, .slice none 0 0, .slice none 0 0, .agg #[.int .u8 0, .int .i64 0, .int .i64 0, .int .i64 0, .int .i64 0, .bool false, .bool false, .int .i64 0, .int .i64 0, .slice none 0 0, .string ByteArray.empty, .int .i64 0, .int .i64 0, .bool false, .int .i64 0], .int .i64 0, .int .i64 0], []⟩ 8 (by kernel_rfl) (by kernel_rfl) (by kernel_rfl) (by kernel_rfl)) ?_
  intro W base args ds gs before hval0 hW hcnd _
  have hval : ∀ (j : Nat) t v, Try.f3.params[j]? = some t → args[j]? = some v → Value.okWide Try.prog W .any base t v := hval0
  have hW' := hW
  obtain ⟨p, q, hA0, hV, rfl, hfz, hnd⟩ := hW
  have hlt : ∀ x ∈ p ++ q, x.block < W.heap.size := fun x hx => hW'.lt x hx
  have hA : DataW.TrodAll enc Try.prog W 0 (fun _ => true) true Try.f3.params.toList args.toList ds p := hA0
  rw [Try.params3] at hA hval
  obtain ⟨v0, v1, v2, v3, v4, v5, d0, d1, d2, d3, d4, d5, p0, p1, p2, p3, p4, p5, rfl, rfl, rfl, t0, t1, t2, t3, t4, t5⟩ := trodAll_six hA
  obtain ⟨rfl, rfl⟩ := trodVars_none hV
  clear hA0 hval0
  have c0 := cells_one tok (d := 6) (by decide) (by decide) (hval 0 22 v0 rfl rfl)
  have c1 := cells_one tok (d := 6) (by decide) (by decide) (hval 1 22 v1 rfl rfl)
  have c2 := cells_one tok (d := 6) (by decide) (by decide) (hval 2 23 v2 rfl rfl)
  have c3 := cells_agg tok (d := 6) (by decide) (by decide) (hval 3 29 v3 rfl rfl)
  have c4 := cells_one tok (d := 6) (by decide) (by decide) (hval 4 3 v4 rfl rfl)
  have c5 := cells_one tok (d := 6) (by decide) (by decide) (hval 5 3 v5 rfl rfl)
  obtain ⟨y0, r0, w0, x0⟩ := arg_read (c := .sl [.int .i64, .int .i64, .int .u8, .int .i64, .int .i64, .int .i64, .int .i64, .bool, .bool, .int .i64, .int .i64, .sl [.int .i64], .str, .int .i64, .int .i64, .bool, .int .i64]) (d := 6) tok (by decide) rfl t0 c0
  obtain ⟨y1, r1, w1, x1⟩ := arg_read (c := .sl [.int .i64, .int .i64, .int .u8, .int .i64, .int .i64, .int .i64, .int .i64, .bool, .bool, .int .i64, .int .i64, .sl [.int .i64], .str, .int .i64, .int .i64, .bool, .int .i64]) (d := 6) tok (by decide) rfl t1 c1
  obtain ⟨y2, r2, w2, x2⟩ := arg_read (c := .sl [.int .u8, .int .i64, .int .i64, .int .i64, .int .i64, .bool, .bool, .int .i64, .int .i64, .sl [.int .i64], .str, .int .i64, .int .i64, .bool, .int .i64]) (d := 6) tok (by decide) rfl t2 c2
  obtain ⟨⟨y3_0, y3_1, y3_2, y3_3, y3_4, y3_5, y3_6, y3_7, y3_8, y3_9, y3_10, y3_11, y3_12, y3_13, y3_14⟩, r3, w3, x3⟩ := arg_agg (cts := [.int .u8, .int .i64, .int .i64, .int .i64, .int .i64, .bool, .bool, .int .i64, .int .i64, .sl [.int .i64], .str, .int .i64, .int .i64, .bool, .int .i64]) (d := 6) tok (by decide) rfl t3 c3
  obtain ⟨y4, r4, w4, x4⟩ := arg_read (c := .int .i64) (d := 6) tok (by decide) rfl t4 c4
  obtain ⟨y5, r5, w5, x5⟩ := arg_read (c := .int .i64) (d := 6) tok (by decide) rfl t5 c5
  have hsp := sp3 (n := FUEL) y0 y1 y2 y3_0 y3_1 y3_2 y3_3 y3_4 y3_5 y3_6 y3_7 y3_8 y3_9 y3_10 y3_11 y3_12 y3_13 y3_14 y4 y5 (plain_SeenTells FUEL y0 y1 y2 ⟨y3_0, y3_1, y3_2, y3_3, y3_4, y3_5, y3_6, y3_7, y3_8, y3_9, y3_10, y3_11, y3_12, y3_13, y3_14⟩ y4 y5 (by have h := w0; simp only [wfC] at h; exact Nat.le_trans h.1 (by decide)) (by have h := w1; simp only [wfC] at h; exact Nat.le_trans h.1 (by decide)) (by have h := w2; simp only [wfC] at h; exact Nat.le_trans h.1 (by decide)))
  have hcall := law_ok (W := W) hsp (xs := [_, _, _, _, _, _]) (ps := [_, _, _, _, _, _]) (us := [v0, v1, v2, v3, v4, v5]) rfl ⟨_, _, rfl, x0, _, _, rfl, x1, _, _, rfl, x2, _, _, rfl, x3, _, _, rfl, x4, _, _, rfl, x5, rfl⟩ ⟨_, _, rfl, r0, _, _, rfl, r1, _, _, rfl, r2, _, _, rfl, r3, _, _, rfl, r4, _, _, rfl, r5, rfl⟩ (fun z hz => by simp [Tglob] at hz)
  refine hcall.mono fun e W' ⟨he, hb⟩ => ?_
  subst he
  have hltp : ∀ x ∈ p0 ++ p1 ++ p2 ++ p3 ++ p4 ++ p5, x.block < W.heap.size := fun x hx => hlt x (List.mem_append_left _ hx)
  simp only [List.mem_append] at hltp
  refine ⟨_, rfl, post_of_below (pa := p0 ++ p1 ++ p2 ++ p3 ++ p4 ++ p5) (pv := []) hW' (fun _ _ _ => ?_) ?_ rfl rfl hb⟩
  · exact trodAll_mk1 (shut_bool Try.underlying4 _)
  · rw [List.append_assoc, List.append_assoc, List.append_assoc, List.append_assoc]; exact trodAll_mk6 (Below.trod Try.laidOut (by kernel_rfl) (of_decide_eq_true (by kernel_rfl)) t0 hb fun x hx => hltp x (by simp [hx])) (Below.trod Try.laidOut (by kernel_rfl) (of_decide_eq_true (by kernel_rfl)) t1 hb fun x hx => hltp x (by simp [hx])) (Below.trod Try.laidOut (by kernel_rfl) (of_decide_eq_true (by kernel_rfl)) t2 hb fun x hx => hltp x (by simp [hx])) (Below.trod Try.laidOut (by kernel_rfl) (of_decide_eq_true (by kernel_rfl)) t3 hb fun x hx => hltp x (by simp [hx])) (Below.trod Try.laidOut (by kernel_rfl) (of_decide_eq_true (by kernel_rfl)) t4 hb fun x hx => hltp x (by simp [hx])) (Below.trod Try.laidOut (by kernel_rfl) (of_decide_eq_true (by kernel_rfl)) t5 hb fun x hx => hltp x (by simp [hx]))

theorem seenTells_holds : Rows.SeenTellsSaid :=
  OpenClaim.holds_of_wide 3 Try.f3 rfl rfl rfl rfl rfl rfl rfl ⟨rfl, rfl, rfl, rfl, rfl⟩ rfl rfl rfl rfl rfl (by kernel_rfl) Try.func3 (by kernel_rfl)
    (of_decide_eq_true (by kernel_rfl)) (by unfold Func.isWrapper; first | (rw [if_pos (by decide +kernel)]; kernel_rfl) | (rw [if_neg (by decide +kernel)]; exact ⟨rfl, rfl⟩))
    (fun os started H enc _ => seenTells_lifted os started H enc)

end Go.Proofs.Ytcbhmedknbiffaa
