/-
  KeepAll: the law holds at every input, with no condition.
-/
import Derived.Test.YthaomidjgadieaaRows
import Derived.Test.YthaomidjgadieaaEvS
import Derived.Test.YthaomidjgadieaaEvX2
import Derived.Test.YthaomidjgadieaaL20
import Derived.ProofKit
namespace Go.Proofs.Ythaomidjgadieaa
open Go Go.ChangeShapes Go.WideShapes Go.ChangeAt Go.RowKit

theorem Try.own : ownKnob Try.prog.godebug = none := by kernel_rfl
theorem Try.laidOut : laidOutB Try.prog = true := by kernel_rfl

set_option maxRecDepth 100000 in
theorem keepAll_lifted (os : Os) (started : os.Started) (H : Type) (enc : TypeId × Value → H) :
    ReturnsInHanded {} Try.checked os 12 .any (Rows.keepAllSpec.pre6 enc Try.prog Try.f12 Rows.keepAllRow.domain false) (Rows.keepAllSpec.post enc Try.prog Try.f12 false true false false) := by
  refine returnsInHanded_of_change (C := Try.checked) Try.own started (by kernel_rfl) Try.func12
    (ChangeSpec.witness6 (enc := enc) (C := Try.checked) false ⟨#[], #[.slice none 0 0, .slice none 0 0, .slice none 0 0], []⟩ 8 (by kernel_rfl) (by kernel_rfl) (by kernel_rfl) (by kernel_rfl)) ?_
  intro W base args ds gs before hval0 hW hcnd _
  have hval : ∀ (j : Nat) t v, Try.f12.params[j]? = some t → args[j]? = some v → Value.okWide Try.prog W .any base t v := hval0
  have hW' := hW
  obtain ⟨p, q, hA0, hV, rfl, hfz, hnd⟩ := hW
  have hlt : ∀ x ∈ p ++ q, x.block < W.heap.size := fun x hx => hW'.lt x hx
  have hA : DataW.TrodAll enc Try.prog W 0 (fun _ => true) true Try.f12.params.toList args.toList ds p := hA0
  rw [Try.params12] at hA hval
  obtain ⟨v0, v1, v2, d0, d1, d2, p0, p1, p2, rfl, rfl, rfl, t0, t1, t2⟩ := trodAll_three hA
  obtain ⟨rfl, rfl⟩ := trodVars_none hV
  clear hA0 hval0
  have c0 := cells_one tok (d := 6) (by decide) (by decide) (hval 0 42 v0 rfl rfl)
  have c1 := cells_one tok (d := 6) (by decide) (by decide) (hval 1 42 v1 rfl rfl)
  have c2 := cells_one tok (d := 6) (by decide) (by decide) (hval 2 42 v2 rfl rfl)
  obtain ⟨y0, r0, w0, x0⟩ := arg_read (c := .sl [.str, .int .i64, .int .i64, .bool]) (d := 6) tok (by decide) rfl t0 c0
  obtain ⟨y1, r1, w1, x1⟩ := arg_read (c := .sl [.str, .int .i64, .int .i64, .bool]) (d := 6) tok (by decide) rfl t1 c1
  obtain ⟨y2, r2, w2, x2⟩ := arg_read (c := .sl [.str, .int .i64, .int .i64, .bool]) (d := 6) tok (by decide) rfl t2 c2
  have hsp := sp12 (n := FUEL) y0 y1 y2 (plain_KeepAll y0 y1 y2 (by unfold FUEL; omega))
  have hcall := law_ok (W := W) hsp (xs := [_, _, _]) (ps := [_, _, _]) (us := [v0, v1, v2]) rfl ⟨_, _, rfl, x0, _, _, rfl, x1, _, _, rfl, x2, rfl⟩ ⟨_, _, rfl, r0, _, _, rfl, r1, _, _, rfl, r2, rfl⟩ (fun z hz => by simp [Tglob] at hz)
  refine hcall.mono fun e W' ⟨he, hb⟩ => ?_
  subst he
  have hltp : ∀ x ∈ p0 ++ p1 ++ p2, x.block < W.heap.size := fun x hx => hlt x (List.mem_append_left _ hx)
  simp only [List.mem_append] at hltp
  refine ⟨_, rfl, post_of_below (pa := p0 ++ p1 ++ p2) (pv := []) hW' (fun _ _ _ => ?_) ?_ rfl rfl hb⟩
  · exact trodAll_mk1 (shut_bool Try.underlying4 _)
  · rw [List.append_assoc]; exact trodAll_mk3 (Below.trod Try.laidOut (by kernel_rfl) (of_decide_eq_true (by kernel_rfl)) t0 hb fun x hx => hltp x (by simp [hx])) (Below.trod Try.laidOut (by kernel_rfl) (of_decide_eq_true (by kernel_rfl)) t1 hb fun x hx => hltp x (by simp [hx])) (Below.trod Try.laidOut (by kernel_rfl) (of_decide_eq_true (by kernel_rfl)) t2 hb fun x hx => hltp x (by simp [hx]))

theorem keepAll_holds : Rows.KeepAllSaid :=
  OpenClaim.holds_of_wide 12 Try.f12 rfl rfl rfl rfl rfl rfl rfl ⟨rfl, rfl, rfl, rfl, rfl⟩ rfl rfl rfl rfl rfl (by kernel_rfl) Try.func12 (by kernel_rfl)
    (of_decide_eq_true (by kernel_rfl)) (by unfold Func.isWrapper; first | (rw [if_pos (by decide +kernel)]; kernel_rfl) | (rw [if_neg (by decide +kernel)]; exact ⟨rfl, rfl⟩))
    (fun os started H enc _ => keepAll_lifted os started H enc)

end Go.Proofs.Ythaomidjgadieaa
