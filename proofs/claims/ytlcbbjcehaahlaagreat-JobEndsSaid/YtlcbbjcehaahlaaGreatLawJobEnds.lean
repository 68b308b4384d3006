/-
  JobEnds: the law holds at every input, with no condition.
-/
import Derived.Test.YtlcbbjcehaahlaaGreatRows
import Derived.Test.YtlcbbjcehaahlaaGreatEvS
import Derived.Test.YtlcbbjcehaahlaaGreatEvX
import Derived.Test.YtlcbbjcehaahlaaGreatPlC
import Derived.ProofKit
namespace Go.Proofs.YtlcbbjcehaahlaaGreat
open Go Go.ChangeShapes Go.WideShapes Go.ChangeAt Go.RowKit

theorem Tryz.own : ownKnob Tryz.prog.godebug = none := by kernel_rfl
theorem Tryz.laidOut : laidOutB Tryz.prog = true := by kernel_rfl

set_option maxRecDepth 100000 in
theorem jobEnds_lifted (os : Os) (started : os.Started) (H : Type) (enc : TypeId × Value → H) :
    ReturnsInHanded {} Tryz.checked os 3 .any (Rows.jobEndsSpec.pre6 enc Tryz.prog Tryz.f3 Rows.jobEndsRow.domain false) (Rows.jobEndsSpec.post enc Tryz.prog Tryz.f3 false true false false) := by
  refine returnsInHanded_of_change (C := Tryz.checked) Tryz.own started (by kernel_rfl) Tryz.func3
    (ChangeSpec.witness6 (enc := enc) (C := Tryz.checked) false ⟨#[], #[.agg #[.int .i64 0, .slice none 0 0, .slice none 0 0, .int .i64 0, .int .i64 0, .int .i64 0, .int .i64 0, .int .i64 0, .int .i64 0, .int .i64 0, .int .i64 0, .int .i64 0, .int .i64 0, .int .i64 0, .int .i64 0, .int .i64 0, .int .i64 0, .int .i64 0, .int .i64 0, .int .i64 0], .int .u8 0, .int .i64 0, .agg #[.string ByteArray.empty, .int .i64 0, .int .i64 0, .bool false], .slice none 0 0], []⟩ 8 (by kernel_rfl) (by kernel_rfl) (by kernel_rfl) (by kernel_rfl)) ?_
  intro W base args ds gs before hval0 hW hcnd _
  have hval : ∀ (j : Nat) t v, Tryz.f3.params[j]? = some t → args[j]? = some v → Value.okWide Tryz.prog W .any base t v := hval0
  have hW' := hW
  obtain ⟨p, q, hA0, hV, rfl, hfz, hnd⟩ := hW
  have hlt : ∀ x ∈ p ++ q, x.block < W.heap.size := fun x hx => hW'.lt x hx
  have hA : DataW.TrodAll enc Tryz.prog W 0 (fun _ => true) true Tryz.f3.params.toList args.toList ds p := hA0
  rw [Tryz.params3] at hA hval
  obtain ⟨v0, v1, v2, v3, v4, d0, d1, d2, d3, d4, p0, p1, p2, p3, p4, rfl, rfl, rfl, t0, t1, t2, t3, t4⟩ := trodAll_five hA
  obtain ⟨rfl, rfl⟩ := trodVars_none hV
  clear hA0 hval0
  have c0 := cells_agg tok (d := 6) (by decide) (by decide) (hval 0 25 v0 rfl rfl)
  have c1 := cells_one tok (d := 6) (by decide) (by decide) (hval 1 5 v1 rfl rfl)
  have c2 := cells_one tok (d := 6) (by decide) (by decide) (hval 2 3 v2 rfl rfl)
  have c3 := cells_agg tok (d := 6) (by decide) (by decide) (hval 3 27 v3 rfl rfl)
  have c4 := cells_one tok (d := 6) (by decide) (by decide) (hval 4 28 v4 rfl rfl)
  obtain ⟨⟨y0_0, y0_1, y0_2, y0_3, y0_4, y0_5, y0_6, y0_7, y0_8, y0_9, y0_10, y0_11, y0_12, y0_13, y0_14, y0_15, y0_16, y0_17, y0_18, y0_19⟩, r0, w0, x0⟩ := arg_agg (cts := [.int .i64, .sl [.int .i64], .sl [.int .i64], .int .i64, .int .i64, .int .i64, .int .i64, .int .i64, .int .i64, .int .i64, .int .i64, .int .i64, .int .i64, .int .i64, .int .i64, .int .i64, .int .i64, .int .i64, .int .i64, .int .i64]) (d := 6) tok (by decide) rfl t0 c0
  obtain ⟨y1, r1, w1, x1⟩ := arg_read (c := .int .u8) (d := 6) tok (by decide) rfl t1 c1
  obtain ⟨y2, r2, w2, x2⟩ := arg_read (c := .int .i64) (d := 6) tok (by decide) rfl t2 c2
  obtain ⟨⟨y3_0, y3_1, y3_2, y3_3⟩, r3, w3, x3⟩ := arg_agg (cts := [.str, .int .i64, .int .i64, .bool]) (d := 6) tok (by decide) rfl t3 c3
  obtain ⟨y4, r4, w4, x4⟩ := arg_read (c := .sl [.bool, .bool, .int .i64, .sl [.int .i64], .bool]) (d := 6) tok (by decide) rfl t4 c4
  have hsp := sp3 FUEL (y0_0, y0_1, y0_2, y0_3, y0_4, y0_5, y0_6, y0_7, y0_8, y0_9, y0_10, y0_11, y0_12, y0_13, y0_14, y0_15, y0_16, y0_17, y0_18, y0_19, y1, y2, y3_0, y3_1, y3_2, y3_3, y4, ()) true (plain_JobEnds y0_0 y0_1 y0_2 y0_3 y0_4 y0_5 y0_6 y0_7 y0_8 y0_9 y0_10 y0_11 y0_12 y0_13 y0_14 y0_15 y0_16 y0_17 y0_18 y0_19 y1 y2 y3_0 y3_1 y3_2 y3_3 y4 (fun x hx => by obtain ⟨i, hi⟩ := List.mem_iff_getElem?.1 hx; have h := w4; simp only [wfC] at h; have h2 := h.2 i x hi; simp only [wfL, wfC] at h2; exact Nat.le_trans h2.2.2.2.1.1 (by decide)))
  have hcall := law_ok (W := W) hsp (xs := [_, _, _, _, _]) (ps := [_, _, _, _, _]) (us := [v0, v1, v2, v3, v4]) rfl ⟨_, _, rfl, x0, _, _, rfl, x1, _, _, rfl, x2, _, _, rfl, x3, _, _, rfl, x4, rfl⟩ ⟨_, _, rfl, r0, _, _, rfl, r1, _, _, rfl, r2, _, _, rfl, r3, _, _, rfl, r4, rfl⟩ (fun z hz => by simp [Tglob] at hz)
  refine hcall.mono fun e W' ⟨he, hb⟩ => ?_
  subst he
  have hltp : ∀ x ∈ p0 ++ p1 ++ p2 ++ p3 ++ p4, x.block < W.heap.size := fun x hx => hlt x (List.mem_append_left _ hx)
  simp only [List.mem_append] at hltp
  refine ⟨_, rfl, post_of_below (pa := p0 ++ p1 ++ p2 ++ p3 ++ p4) (pv := []) hW' (fun _ _ _ => ?_) ?_ rfl rfl hb⟩
  · exact trodAll_mk1 (shut_bool Tryz.underlying4 _)
  · rw [List.append_assoc, List.append_assoc, List.append_assoc]; exact trodAll_mk5 (Below.trod Tryz.laidOut (by kernel_rfl) (of_decide_eq_true (by kernel_rfl)) t0 hb fun x hx => hltp x (by simp [hx])) (Below.trod Tryz.laidOut (by kernel_rfl) (of_decide_eq_true (by kernel_rfl)) t1 hb fun x hx => hltp x (by simp [hx])) (Below.trod Tryz.laidOut (by kernel_rfl) (of_decide_eq_true (by kernel_rfl)) t2 hb fun x hx => hltp x (by simp [hx])) (Below.trod Tryz.laidOut (by kernel_rfl) (of_decide_eq_true (by kernel_rfl)) t3 hb fun x hx => hltp x (by simp [hx])) (Below.trod Tryz.laidOut (by kernel_rfl) (of_decide_eq_true (by kernel_rfl)) t4 hb fun x hx => hltp x (by simp [hx]))

theorem jobEnds_holds : Rows.JobEndsSaid :=
  OpenClaim.holds_of_wide 3 Tryz.f3 rfl rfl rfl rfl rfl rfl rfl ⟨rfl, rfl, rfl, rfl, rfl⟩ rfl rfl rfl rfl rfl (by kernel_rfl) Tryz.func3 (by kernel_rfl)
    (of_decide_eq_true (by kernel_rfl)) (by unfold Func.isWrapper; first | (rw [if_pos (by decide +kernel)]; kernel_rfl) | (rw [if_neg (by decide +kernel)]; exact ⟨rfl, rfl⟩))
    (fun os started H enc _ => jobEnds_lifted os started H enc)

end Go.Proofs.YtlcbbjcehaahlaaGreat
