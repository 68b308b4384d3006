/-
  LookCloser: the law holds at every input, with no condition.
-/
import Derived.Test.YtlbdcdflffgehaaRows
import Derived.Test.YtlbdcdflffgehaaEvS
import Derived.Test.YtlbdcdflffgehaaEwX2
import Derived.Test.YtlbdcdflffgehaaL18w
import Derived.ProofKit
namespace Go.Proofs.Ytlbdcdflffgehaa
open Go Go.ChangeShapes Go.WideShapes Go.ChangeAt Go.RowKit

theorem Try.own : ownKnob Try.prog.godebug = none := by kernel_rfl
theorem Try.laidOut : laidOutB Try.prog = true := by kernel_rfl

set_option maxRecDepth 100000 in
theorem lookCloser_lifted (os : Os) (started : os.Started) (H : Type) (enc : TypeId × Value → H) :
    ReturnsInHanded {} Try.checked os 10 .any (Rows.lookCloserSpec.pre6 enc Try.prog Try.f10 Rows.lookCloserRow.domain false) (Rows.lookCloserSpec.post enc Try.prog Try.f10 false true false false) := by
  refine returnsInHanded_of_change (C := Try.checked) Try.own started (by kernel_rfl) Try.func10
    (ChangeSpec.witness6 (enc := enc) (C := Try.checked) false ⟨#[], #[.slice none 0 0, .int .i64 0, .int .i64 0], []⟩ 8 (by kernel_rfl) (by kernel_rfl) (by kernel_rfl) (by kernel_rfl)) ?_
  intro W base args ds gs before hval0 hW hcnd _
  have hval : ∀ (j : Nat) t v, Try.f10.params[j]? = some t → args[j]? = some v → Value.okWide Try.prog W .any base t v := hval0
  have hW' := hW
  obtain ⟨p, q, hA0, hV, rfl, hfz, hnd⟩ := hW
  have hlt : ∀ x ∈ p ++ q, x.block < W.heap.size := fun x hx => hW'.lt x hx
  have hA : DataW.TrodAll enc Try.prog W 0 (fun _ => true) true Try.f10.params.toList args.toList ds p := hA0
  rw [Try.params10] at hA hval
  obtain ⟨v0, v1, v2, d0, d1, d2, p0, p1, p2, rfl, rfl, rfl, t0, t1, t2⟩ := trodAll_three hA
  obtain ⟨rfl, rfl⟩ := trodVars_none hV
  clear hA0 hval0
  have c0 := cells_one tok (d := 6) (by decide) (by decide) (hval 0 43 v0 rfl rfl)
  have c1 := cells_one tok (d := 6) (by decide) (by decide) (hval 1 3 v1 rfl rfl)
  have c2 := cells_one tok (d := 6) (by decide) (by decide) (hval 2 3 v2 rfl rfl)
  obtain ⟨y0, r0, w0, x0⟩ := arg_read (c := .sl [.int .i64, .sl [.int .i64], .sl [.int .i64], .int .i64, .int .i64, .int .i64, .int .i64, .int .i64, .int .i64, .int .i64, .int .i64, .int .i64, .int .i64, .int .i64, .int .i64, .int .i64, .int .i64, .int .i64, .int .i64, .int .i64]) (d := 6) tok (by decide) rfl t0 c0
  obtain ⟨y1, r1, w1, x1⟩ := arg_read (c := .int .i64) (d := 6) tok (by decide) rfl t1 c1
  obtain ⟨y2, r2, w2, x2⟩ := arg_read (c := .int .i64) (d := 6) tok (by decide) rfl t2 c2
  have hsp := sp10 (n := FUEL) y0 y1 y2 (plain_LookCloser FUEL y0 y1 y2 (fun x hx => by obtain ⟨i, hi⟩ := List.mem_iff_getElem?.1 hx; have h := w0; simp only [wfC] at h; have h2 := h.2 i x hi; simp only [wfL, wfC] at h2; exact Nat.le_trans h2.2.2.1.1 (by decide)) (by unfold FUEL; omega))
  have hcall := law_ok (W := W) hsp (xs := [_, _, _]) (ps := [_, _, _]) (us := [v0, v1, v2]) rfl ⟨_, _, rfl, x0, _, _, rfl, x1, _, _, rfl, x2, rfl⟩ ⟨_, _, rfl, r0, _, _, rfl, r1, _, _, rfl, r2, rfl⟩ (fun z hz => by simp [Tglob] at hz)
  refine hcall.mono fun e W' ⟨he, hb⟩ => ?_
  subst he
  have hltp : ∀ x ∈ p0 ++ p1 ++ p2, x.block < W.heap.size := fun x hx => hlt x (List.mem_append_left _ hx)
  simp only [List.mem_append] at hltp
  refine ⟨_, rfl, post_of_below (pa := p0 ++ p1 ++ p2) (pv := []) hW' (fun _ _ _ => ?_) ?_ rfl rfl hb⟩
  · exact trodAll_mk1 (shut_bool Try.underlying4 _)
  · rw [List.append_assoc]; exact trodAll_mk3 (Below.trod Try.laidOut (by kernel_rfl) (of_decide_eq_true (by kernel_rfl)) t0 hb fun x hx => hltp x (by simp [hx])) (Below.trod Try.laidOut (by kernel_rfl) (of_decide_eq_true (by kernel_rfl)) t1 hb fun x hx => hltp x (by simp [hx])) (Below.trod Try.laidOut (by kernel_rfl) (of_decide_eq_true (by kernel_rfl)) t2 hb fun x hx => hltp x (by simp [hx]))

theorem lookCloser_holds : Rows.LookCloserSaid :=
  OpenClaim.holds_of_wide 10 Try.f10 rfl rfl rfl rfl rfl rfl rfl ⟨rfl, rfl, rfl, rfl, rfl⟩ rfl rfl rfl rfl rfl (by kernel_rfl) Try.func10 (by kernel_rfl)
    (of_decide_eq_true (by kernel_rfl)) (by unfold Func.isWrapper; first | (rw [if_pos (by decide +kernel)]; kernel_rfl) | (rw [if_neg (by decide +kernel)]; exact ⟨rfl, rfl⟩))
    (fun os started H enc _ => lookCloser_lifted os started H enc)

end Go.Proofs.Ytlbdcdflffgehaa
