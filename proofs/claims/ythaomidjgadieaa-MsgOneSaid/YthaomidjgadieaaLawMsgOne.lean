/-
  MsgOne: the law holds at every input, with no condition.
-/
import Derived.Test.YthaomidjgadieaaRows
import Derived.Test.YthaomidjgadieaaEvS
import Derived.Test.YthaomidjgadieaaEvX
import Derived.Test.YthaomidjgadieaaM06
import Derived.ProofKit
namespace Go.Proofs.Ythaomidjgadieaa
open Go Go.ChangeShapes Go.WideShapes Go.ChangeAt Go.RowKit

theorem Try.own : ownKnob Try.prog.godebug = none := by kernel_rfl
theorem Try.laidOut : laidOutB Try.prog = true := by kernel_rfl

set_option maxRecDepth 100000 in
theorem msgOne_lifted (os : Os) (started : os.Started) (H : Type) (enc : TypeId × Value → H) :
    ReturnsInHanded {} Try.checked os 5 .any (Rows.msgOneSpec.pre6 enc Try.prog Try.f5 Rows.msgOneRow.domain false) (Rows.msgOneSpec.post enc Try.prog Try.f5 false true false false) := by
  refine returnsInHanded_of_change (C := Try.checked) Try.own started (by kernel_rfl) Try.func5
    (ChangeSpec.witness6 (enc := enc) (C := Try.checked) false ⟨#[], #[.agg #[.int .u8 0, .int .i64 0, .int .i64 0, .int .i64 0, .int .i64 0, .bool false, .bool false, .int .i64 0, .int .i64 0, .slice none 0 0, .string ByteArray.empty, .int .i64 0, .int .i64 0, .bool false, .int .i64 0], .int .i64 0], []⟩ 8 (by kernel_rfl) (by kernel_rfl) (by kernel_rfl) (by kernel_rfl)) ?_
  intro W base args ds gs before hval0 hW hcnd _
  have hval : ∀ (j : Nat) t v, Try.f5.params[j]? = some t → args[j]? = some v → Value.okWide Try.prog W .any base t v := hval0
  have hW' := hW
  obtain ⟨p, q, hA0, hV, rfl, hfz, hnd⟩ := hW
  have hlt : ∀ x ∈ p ++ q, x.block < W.heap.size := fun x hx => hW'.lt x hx
  have hA : DataW.TrodAll enc Try.prog W 0 (fun _ => true) true Try.f5.params.toList args.toList ds p := hA0
  rw [Try.params5] at hA hval
  obtain ⟨v0, v1, d0, d1, p0, p1, rfl, rfl, rfl, t0, t1⟩ := trodAll_two hA
  obtain ⟨rfl, rfl⟩ := trodVars_none hV
  clear hA0 hval0
  have c0 := cells_agg tok (d := 6) (by decide) (by decide) (hval 0 27 v0 rfl rfl)
  have c1 := cells_one tok (d := 6) (by decide) (by decide) (hval 1 3 v1 rfl rfl)
  obtain ⟨⟨y0_0, y0_1, y0_2, y0_3, y0_4, y0_5, y0_6, y0_7, y0_8, y0_9, y0_10, y0_11, y0_12, y0_13, y0_14⟩, r0, w0, x0⟩ := arg_agg (cts := [.int .u8, .int .i64, .int .i64, .int .i64, .int .i64, .bool, .bool, .int .i64, .int .i64, .sl [.int .i64], .str, .int .i64, .int .i64, .bool, .int .i64]) (d := 6) tok (by decide) rfl t0 c0
  obtain ⟨y1, r1, w1, x1⟩ := arg_read (c := .int .i64) (d := 6) tok (by decide) rfl t1 c1
  have hsp := sp5 (n := FUEL) y0_0 y0_1 y0_2 y0_3 y0_4 y0_5 y0_6 y0_7 y0_8 y0_9 y0_10 y0_11 y0_12 y0_13 y0_14 y1 (plain_MsgOne FUEL y0_0 y0_1 y0_2 y0_3 y0_4 y0_5 y0_6 y0_7 y0_8 y0_9 y0_10 y0_11 y0_12 y0_13 y0_14 y1)
  have hcall := law_ok (W := W) hsp (xs := [_, _]) (ps := [_, _]) (us := [v0, v1]) rfl ⟨_, _, rfl, x0, _, _, rfl, x1, rfl⟩ ⟨_, _, rfl, r0, _, _, rfl, r1, rfl⟩ (fun z hz => by simp [Tglob] at hz)
  refine hcall.mono fun e W' ⟨he, hb⟩ => ?_
  subst he
  have hltp : ∀ x ∈ p0 ++ p1, x.block < W.heap.size := fun x hx => hlt x (List.mem_append_left _ hx)
  simp only [List.mem_append] at hltp
  refine ⟨_, rfl, post_of_below (pa := p0 ++ p1) (pv := []) hW' (fun _ _ _ => ?_) ?_ rfl rfl hb⟩
  · exact trodAll_mk1 (shut_bool Try.underlying4 _)
  · exact trodAll_mk2 (Below.trod Try.laidOut (by kernel_rfl) (of_decide_eq_true (by kernel_rfl)) t0 hb fun x hx => hltp x (by simp [hx])) (Below.trod Try.laidOut (by kernel_rfl) (of_decide_eq_true (by kernel_rfl)) t1 hb fun x hx => hltp x (by simp [hx]))

theorem msgOne_holds : Rows.MsgOneSaid :=
  OpenClaim.holds_of_wide 5 Try.f5 rfl rfl rfl rfl rfl rfl rfl ⟨rfl, rfl, rfl, rfl, rfl⟩ rfl rfl rfl rfl rfl (by kernel_rfl) Try.func5 (by kernel_rfl)
    (of_decide_eq_true (by kernel_rfl)) (by unfold Func.isWrapper; first | (rw [if_pos (by decide +kernel)]; kernel_rfl) | (rw [if_neg (by decide +kernel)]; exact ⟨rfl, rfl⟩))
    (fun os started H enc _ => msgOne_lifted os started H enc)

end Go.Proofs.Ythaomidjgadieaa
