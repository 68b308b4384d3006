/-
  CallsOnce: the law holds at every input, with no condition.
-/
import Derived.Test.YtcbhmedknbiffaaDoorRows
import Derived.Test.YtcbhmedknbiffaaDoorEvT
import Derived.Test.YtcbhmedknbiffaaDoorCards
import Derived.Test.YtcbhmedknbiffaaDoorTie
import Derived.LaidMore
import Derived.Stop.Joined
import Derived.SevenTiedAt
import Derived.Test.YtcbhmedknbiffaaDoorEvX2
import Derived.Test.YtcbhmedknbiffaaDoorL10
import Derived.ProofKit
namespace Go.Proofs.YtcbhmedknbiffaaDoor
open Go Go.ChangeShapes Go.WideShapes Go.ChangeAt Go.RowKit

theorem Tryd.own : ownKnob Tryd.prog.godebug = none := by kernel_rfl
theorem Tryd.laidOut : laidOutB Tryd.prog = true := by kernel_rfl

theorem Tryd.door_met (os : Os) (args : Array Value) : laidMetH Tryd.prog Rows.callsOnceRow.laid ((World.doorLaid Tryd.prog 400 os).forCall (fun _ _ => 0) ⟨#[], args, []⟩).memory :=
  laidMetH_of_parts3 (fuel := 8) (laidMet_of_run' 8 (by kernel_rfl) (by kernel_rfl)) (by kernel_rfl) (by kernel_rfl)
theorem Tryd.laid_ok {W : World} (h : laidMetH Tryd.prog Rows.callsOnceRow.laid W) : GlobOK T (gW W) W := by
  rw [MakeChecks.laidMetH_plain _ _ _ (by kernel_rfl)] at h
  obtain ⟨ps, ⟨g0, t0, cs0, f0, p0, q0, hg0, ht0, hv0, hd0, _, _⟩, _⟩ := h
  obtain rfl := Option.some.inj ((show Tryd.prog.globalNamed "garland/wait.waits" = some 0 by kernel_rfl).symm.trans hg0)
  obtain rfl := Option.some.inj ((show (Tryd.prog.globals[0]?).map (·.type) = some 90 by kernel_rfl).symm.trans ht0)
  have hc := laid_ints (k := .i64) (vals := [1, 2, 4]) tok (t := 90) rfl rfl rfl rfl hd0
  intro x hx
  rw [Tglob] at hx
  obtain rfl := List.mem_singleton.1 hx
  refine glob_of (fun i v hi => ?_) (by simp)
  rw [World.var?_cell hg0 hv0 i, ← Array.getElem?_toList, hc]
  exact hi

set_option maxRecDepth 100000 in
theorem callsOnce_lifted (os : Os) (started : os.Started) (H : Type) (enc : TypeId × Value → H) :
    ReturnsInHanded {} Tryd.checked os 3 .any (fun w args => (Rows.callsOnceSpec.pre enc Tryd.prog Tryd.f3 [] false w args ∧ laidMetH Tryd.prog Rows.callsOnceRow.laid w) ∧ sizedMet enc Tryd.prog Tryd.f3 (OpenSpec.ofChange Rows.callsOnceSpec) false w args) (Rows.callsOnceSpec.post enc Tryd.prog Tryd.f3 false true false false) := by
  refine returnsInHanded_of_change_and (C := Tryd.checked) (X := fun w _ => laidMetH Tryd.prog Rows.callsOnceRow.laid w) (fun _ _ _ hh h => h.of_heap hh) Tryd.own started (by kernel_rfl) Tryd.func3
    (ChangeSpec.witness_shaped (enc := enc) (C := Tryd.checked) (os := os) (X := fun w _ => laidMetH Tryd.prog Rows.callsOnceRow.laid w) false (World.doorLaid Tryd.prog 400 os) #[.int .i64 0, .slice none 0 0] 8 rfl (World.shaped_of_RefB (by kernel_rfl) (by kernel_rfl)) (by kernel_rfl) (by kernel_rfl) (by kernel_rfl) (Tryd.door_met os _)) ?_
  intro W base args ds gs before hval0 hW hcnd _ hL _
  have hval : ∀ (j : Nat) t v, Tryd.f3.params[j]? = some t → args[j]? = some v → Value.okWide Tryd.prog W .any base t v := hval0
  have hW' := hW
  obtain ⟨p, q, hA0, hV, rfl, hfz, hnd⟩ := hW
  have hlt : ∀ x ∈ p ++ q, x.block < W.heap.size := fun x hx => hW'.lt x hx
  have hA : DataW.TrodAll enc Tryd.prog W 0 (fun _ => true) true Tryd.f3.params.toList args.toList ds p := hA0
  rw [Tryd.params3] at hA hval
  obtain ⟨v0, v1, d0, d1, p0, p1, rfl, rfl, rfl, t0, t1⟩ := trodAll_two hA
  obtain ⟨rfl, rfl⟩ := trodVars_none hV
  clear hA0 hval0
  have c0 := cells_one tok (d := 6) (by decide) (by decide) (hval 0 3 v0 rfl rfl)
  have c1 := cells_one tok (d := 6) (by decide) (by decide) (hval 1 22 v1 rfl rfl)
  obtain ⟨y0, r0, w0, x0⟩ := arg_read (c := .int .i64) (d := 6) tok (by decide) rfl t0 c0
  obtain ⟨y1, r1, w1, x1⟩ := arg_read (c := .sl [.int .i64, .int .i64, .int .u8, .int .i64, .int .i64, .int .i64, .int .i64, .bool, .bool, .int .i64, .int .i64, .sl [.int .i64], .str, .int .i64, .int .i64, .bool, .int .i64, .int .u8]) (d := 6) tok (by decide) rfl t1 c1
  have hsp := sp3 (n := FUEL) y0 y1 (plain_CallsOnce (by unfold FUEL; omega) y0 y1)
  have hcall := law_ok (W := W) hsp (xs := [_, _]) (ps := [_, _]) (us := [v0, v1]) rfl ⟨_, _, rfl, x0, _, _, rfl, x1, rfl⟩ ⟨_, _, rfl, r0, _, _, rfl, r1, rfl⟩ (Tryd.laid_ok hL)
  refine hcall.mono fun e W' ⟨he, hb⟩ => ?_
  subst he
  have hltp : ∀ x ∈ p0 ++ p1, x.block < W.heap.size := fun x hx => hlt x (List.mem_append_left _ hx)
  simp only [List.mem_append] at hltp
  refine ⟨_, rfl, post_of_below (pa := p0 ++ p1) (pv := []) hW' (fun _ _ _ => ?_) ?_ rfl rfl hb⟩
  · exact trodAll_mk1 (shut_bool Tryd.underlying4 _)
  · exact trodAll_mk2 (Below.trod Tryd.laidOut (by kernel_rfl) (of_decide_eq_true (by kernel_rfl)) t0 hb fun x hx => hltp x (by simp [hx])) (Below.trod Tryd.laidOut (by kernel_rfl) (of_decide_eq_true (by kernel_rfl)) t1 hb fun x hx => hltp x (by simp [hx]))

theorem callsOnce_row : Rows.CallsOnceSaid :=
  OpenClaim.holds_of_wide 3 Tryd.f3 rfl rfl rfl rfl rfl rfl rfl ⟨rfl, rfl, rfl, rfl, rfl⟩ rfl rfl rfl rfl rfl (by kernel_rfl) Tryd.func3 (by kernel_rfl)
    (of_decide_eq_true (by kernel_rfl)) (by unfold Func.isWrapper; first | (rw [if_pos (by decide +kernel)]; kernel_rfl) | (rw [if_neg (by decide +kernel)]; exact ⟨rfl, rfl⟩))
    (fun os started H enc _ => callsOnce_lifted os started H enc)

theorem callsOnce_holds : Rows.CallsOnceCardSaid :=
  Claim7.holds_tied_plain_at .later [] [.data] true (true, "787054532f5f79e815b65c246c90f74431c700126374b0319d9d46b6eed0407e") false
    callsOnce_row (fun _ h => by cases h) (by kernel_rfl) (fun _ h => by cases h) callsOnce_row_tie rfl ⟨rfl, rfl⟩ (by kernel_rfl) rfl
    (fun f fn hf hfn => by
      obtain rfl : f = 3 := Option.some.inj ((show Tryd.prog.funcNamed "garland/garlandlaw10.CallsOnce" = some 3 by kernel_rfl).symm.trans hf) |>.symm
      obtain rfl : fn = Tryd.f3 := (Option.some.inj (Tryd.func3.symm.trans hfn)).symm
      exact ⟨by kernel_rfl, fun j t ht => by
        rw [Tryd.params3] at ht
        have hm : t ∈ [3, 22] := by simpa using Array.mem_of_getElem? ht
        have hall : ([3, 22].all fun u => !Tryd.prog.wantsStandIn u) = true := by kernel_rfl
        exact (show Tryd.prog.wantsStandIn t = false by simpa using List.all_eq_true.1 hall t hm)⟩)
    (by kernel_rfl)

end Go.Proofs.YtcbhmedknbiffaaDoor
