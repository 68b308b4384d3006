/-
  ServeOnly: the law holds at every input, with no condition.
-/
import Derived.Test.YthjhcmkgadfpmaaGreatRows
import Derived.Test.YthjhcmkgadfpmaaGreatEvS
import Derived.Test.YthjhcmkgadfpmaaGreatEvX2
import Derived.Test.YthjhcmkgadfpmaaGreatPlD
import Derived.ProofKit
namespace Go.Proofs.YthjhcmkgadfpmaaGreat
open Go Go.ChangeShapes Go.WideShapes Go.ChangeAt Go.RowKit

theorem Tryz.own : ownKnob Tryz.prog.godebug = none := by kernel_rfl
theorem Tryz.laidOut : laidOutB Tryz.prog = true := by kernel_rfl

set_option maxRecDepth 100000 in
theorem serveOnly_lifted (os : Os) (started : os.Started) (H : Type) (enc : TypeId × Value → H) :
    ReturnsInHanded {} Tryz.checked os 5 .any (Rows.serveOnlySpec.pre6 enc Tryz.prog Tryz.f5 Rows.serveOnlyRow.domain false) (Rows.serveOnlySpec.post enc Tryz.prog Tryz.f5 false true false false) := by
  refine returnsInHanded_of_change (C := Tryz.checked) Tryz.own started (by kernel_rfl) Tryz.func5
    (ChangeSpec.witness6 (enc := enc) (C := Tryz.checked) false ⟨#[], #[.agg #[.int .i64 0, .slice none 0 0, .slice none 0 0, .int .i64 0, .int .i64 0, .int .i64 0, .int .i64 0, .int .i64 0, .int .i64 0, .int .i64 0, .int .i64 0, .int .i64 0, .int .i64 0, .int .i64 0, .int .i64 0, .int .i64 0, .int .i64 0, .int .i64 0, .int .i64 0, .int .i64 0, .int .i64 0, .int .i64 0, .int .i64 0, .slice none 0 0, .slice none 0 0, .int .u8 0, .int .i64 0, .int .u8 0, .int .u8 0, .int .i64 0, .int .i64 0, .int .i64 0, .bool false, .bool false, .int .i64 0, .string ByteArray.empty, .int .i64 0, .int .i64 0, .bool false, .int .i64 0, .slice none 0 0, .int .i64 0, .int .u8 0, .int .u8 0, .int .i64 0, .int .i64 0, .int .i64 0, .bool false, .bool false, .int .i64 0, .string ByteArray.empty, .int .i64 0, .int .i64 0, .bool false, .int .i64 0, .slice none 0 0, .int .i64 0, .int .u8 0, .int .u8 0, .int .i64 0, .int .i64 0, .int .i64 0, .bool false, .bool false, .int .i64 0, .string ByteArray.empty, .int .i64 0, .int .i64 0, .bool false, .int .i64 0, .slice none 0 0, .int .i64 0, .int .i64 0, .string ByteArray.empty, .slice none 0 0, .int .i64 0], .agg #[.int .u8 0, .int .i64 0, .int .i64 0, .int .i64 0, .int .i64 0, .bool false, .bool false, .int .i64 0, .int .i64 0, .slice none 0 0, .string ByteArray.empty, .int .i64 0, .int .i64 0, .bool false, .int .i64 0]], []⟩ 8 (by kernel_rfl) (by kernel_rfl) (by kernel_rfl) (by kernel_rfl)) ?_
  intro W base args ds gs before hval0 hW hcnd _
  have hval : ∀ (j : Nat) t v, Tryz.f5.params[j]? = some t → args[j]? = some v → Value.okWide Tryz.prog W .any base t v := hval0
  have hW' := hW
  obtain ⟨p, q, hA0, hV, rfl, hfz, hnd⟩ := hW
  have hlt : ∀ x ∈ p ++ q, x.block < W.heap.size := fun x hx => hW'.lt x hx
  have hA : DataW.TrodAll enc Tryz.prog W 0 (fun _ => true) true Tryz.f5.params.toList args.toList ds p := hA0
  rw [Tryz.params5] at hA hval
  obtain ⟨v0, v1, d0, d1, p0, p1, rfl, rfl, rfl, t0, t1⟩ := trodAll_two hA
  obtain ⟨rfl, rfl⟩ := trodVars_none hV
  clear hA0 hval0
  have c0 := cells_agg tok (d := 9) (by decide) (by decide) (hval 0 41 v0 rfl rfl)
  have c1 := cells_agg tok (d := 9) (by decide) (by decide) (hval 1 43 v1 rfl rfl)
  obtain ⟨⟨y0_0, y0_1, y0_2, y0_3, y0_4, y0_5, y0_6, y0_7, y0_8, y0_9, y0_10, y0_11, y0_12, y0_13, y0_14, y0_15, y0_16, y0_17, y0_18, y0_19, y0_20, y0_21, y0_22, y0_23, y0_24, y0_25, y0_26, y0_27, y0_28, y0_29, y0_30, y0_31, y0_32, y0_33, y0_34, y0_35, y0_36, y0_37, y0_38, y0_39, y0_40, y0_41, y0_42, y0_43, y0_44, y0_45, y0_46, y0_47, y0_48, y0_49, y0_50, y0_51, y0_52, y0_53, y0_54, y0_55, y0_56, y0_57, y0_58, y0_59, y0_60, y0_61, y0_62, y0_63, y0_64, y0_65, y0_66, y0_67, y0_68, y0_69, y0_70, y0_71, y0_72, y0_73, y0_74, y0_75⟩, r0, w0, x0⟩ := arg_agg (cts := [.int .i64, .sl [.int .i64], .sl [.int .i64], .int .i64, .int .i64, .int .i64, .int .i64, .int .i64, .int .i64, .int .i64, .int .i64, .int .i64, .int .i64, .int .i64, .int .i64, .int .i64, .int .i64, .int .i64, .int .i64, .int .i64, .int .i64, .int .i64, .int .i64, .sl [.int .i64, .int .u8, .int .i64, .int .i64, .int .i64, .int .i64, .bool, .bool, .int .i64, .int .i64, .sl [.int .i64], .str, .int .i64, .int .i64, .bool, .int .i64, .int .u8, .int .i64, .int .i64, .int .i64], .sl [.int .i64, .int .i64, .int .u8, .int .i64, .int .i64, .int .i64, .int .i64, .bool, .bool, .int .i64, .int .i64, .sl [.int .i64], .str, .int .i64, .int .i64, .bool, .int .i64], .int .u8, .int .i64, .int .u8, .int .u8, .int .i64, .int .i64, .int .i64, .bool, .bool, .int .i64, .str, .int .i64, .int .i64, .bool, .int .i64, .sl [.int .i64], .int .i64, .int .u8, .int .u8, .int .i64, .int .i64, .int .i64, .bool, .bool, .int .i64, .str, .int .i64, .int .i64, .bool, .int .i64, .sl [.int .i64], .int .i64, .int .u8, .int .u8, .int .i64, .int .i64, .int .i64, .bool, .bool, .int .i64, .str, .int .i64, .int .i64, .bool, .int .i64, .sl [.int .i64], .int .i64, .int .i64, .str, .sl [.str, .int .i64, .int .i64, .bool], .int .i64]) (d := 9) tok (by decide) rfl t0 c0
  obtain ⟨⟨y1_0, y1_1, y1_2, y1_3, y1_4, y1_5, y1_6, y1_7, y1_8, y1_9, y1_10, y1_11, y1_12, y1_13, y1_14⟩, r1, w1, x1⟩ := arg_agg (cts := [.int .u8, .int .i64, .int .i64, .int .i64, .int .i64, .bool, .bool, .int .i64, .int .i64, .sl [.int .i64], .str, .int .i64, .int .i64, .bool, .int .i64]) (d := 9) tok (by decide) rfl t1 c1
  have hsp := sp5 FUEL (y0_0, y0_1, y0_2, y0_3, y0_4, y0_5, y0_6, y0_7, y0_8, y0_9, y0_10, y0_11, y0_12, y0_13, y0_14, y0_15, y0_16, y0_17, y0_18, y0_19, y0_20, y0_21, y0_22, y0_23, y0_24, y0_25, y0_26, y0_27, y0_28, y0_29, y0_30, y0_31, y0_32, y0_33, y0_34, y0_35, y0_36, y0_37, y0_38, y0_39, y0_40, y0_41, y0_42, y0_43, y0_44, y0_45, y0_46, y0_47, y0_48, y0_49, y0_50, y0_51, y0_52, y0_53, y0_54, y0_55, y0_56, y0_57, y0_58, y0_59, y0_60, y0_61, y0_62, y0_63, y0_64, y0_65, y0_66, y0_67, y0_68, y0_69, y0_70, y0_71, y0_72, y0_73, y0_74, y0_75, y1_0, y1_1, y1_2, y1_3, y1_4, y1_5, y1_6, y1_7, y1_8, y1_9, y1_10, y1_11, y1_12, y1_13, y1_14, ()) true (only_x FUEL ⟨⟨y0_0, y0_1, y0_2, y0_3, y0_4, y0_5, y0_6, y0_7, y0_8, y0_9, y0_10, y0_11, y0_12, y0_13, y0_14, y0_15, y0_16, y0_17, y0_18, y0_19⟩, y0_20, y0_21, y0_22, y0_23, y0_24, y0_25, y0_26, ⟨y0_27, y0_28, y0_29, y0_30, y0_31, y0_32, y0_33, y0_34, y0_35, y0_36, y0_37, y0_38, y0_39, y0_40, y0_41⟩, ⟨y0_42, y0_43, y0_44, y0_45, y0_46, y0_47, y0_48, y0_49, y0_50, y0_51, y0_52, y0_53, y0_54, y0_55, y0_56⟩, ⟨y0_57, y0_58, y0_59, y0_60, y0_61, y0_62, y0_63, y0_64, y0_65, y0_66, y0_67, y0_68, y0_69, y0_70, y0_71⟩, y0_72, y0_73, y0_74, y0_75⟩ ⟨y1_0, y1_1, y1_2, y1_3, y1_4, y1_5, y1_6, y1_7, y1_8, y1_9, y1_10, y1_11, y1_12, y1_13, y1_14⟩)
  have hcall := law_ok (W := W) hsp (xs := [_, _]) (ps := [_, _]) (us := [v0, v1]) rfl ⟨_, _, rfl, x0, _, _, rfl, x1, rfl⟩ ⟨_, _, rfl, r0, _, _, rfl, r1, rfl⟩ (fun z hz => by simp [Tglob] at hz)
  refine hcall.mono fun e W' ⟨he, hb⟩ => ?_
  subst he
  have hltp : ∀ x ∈ p0 ++ p1, x.block < W.heap.size := fun x hx => hlt x (List.mem_append_left _ hx)
  simp only [List.mem_append] at hltp
  refine ⟨_, rfl, post_of_below (pa := p0 ++ p1) (pv := []) hW' (fun _ _ _ => ?_) ?_ rfl rfl hb⟩
  · exact trodAll_mk1 (shut_bool Tryz.underlying4 _)
  · exact trodAll_mk2 (Below.trod Tryz.laidOut (by kernel_rfl) (of_decide_eq_true (by kernel_rfl)) t0 hb fun x hx => hltp x (by simp [hx])) (Below.trod Tryz.laidOut (by kernel_rfl) (of_decide_eq_true (by kernel_rfl)) t1 hb fun x hx => hltp x (by simp [hx]))

theorem serveOnly_holds : Rows.ServeOnlySaid :=
  OpenClaim.holds_of_wide 5 Tryz.f5 rfl rfl rfl rfl rfl rfl rfl ⟨rfl, rfl, rfl, rfl, rfl⟩ rfl rfl rfl rfl rfl (by kernel_rfl) Tryz.func5 (by kernel_rfl)
    (of_decide_eq_true (by kernel_rfl)) (by unfold Func.isWrapper; first | (rw [if_pos (by decide +kernel)]; kernel_rfl) | (rw [if_neg (by decide +kernel)]; exact ⟨rfl, rfl⟩))
    (fun os started H enc _ => serveOnly_lifted os started H enc)

end Go.Proofs.YthjhcmkgadfpmaaGreat
