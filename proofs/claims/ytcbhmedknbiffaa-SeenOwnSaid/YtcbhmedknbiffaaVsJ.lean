/-
  The operations of the layer VS are sound: all of them.
-/
import Derived.Test.YtcbhmedknbiffaaVsI
namespace Go.Proofs.Ytcbhmedknbiffaa
open Go Go.RowKit
section
variable {T : Tab} {P : Program} {cx : Cx} {g : Gh} {m : Mem} {w : World} {nm : Nat}
theorem StepOK.val {s : Sem Value} {v : PV} {u : Value} (h : MR T cx g m w) (hr : s.run P w = .ok u w) (hv : RV g w v u) : StepOK T P cx g m w nm (do pure (Next.value (← s))) v [] :=
  .plain h (run_value hr) hv
theorem bin_int_ok (h : MR T cx g m w) (op : BinOp) (t : Nat) (k k' : IntKind) (a b : Int) {side : Prop} {v : PV} (x y : Operand)
    (he : binV op (.v (.int k a)) (.v (.int k' b)) = some (side, v)) (hs : side) :
    StepOK T P cx g m w nm (do pure (Next.value (← (do eqGuard op t x y (.int k a) (.int k' b); binOp op t (.int k a) (.int k' b))))) v [] := by
  have hg : (eqGuard op t x y (.int k a) (.int k' b)).run P w = .ok () w := by cases op <;> simp [eqGuard]
  have key : ∀ u, (binOp op t (.int k a) (.int k' b)).run P w = .ok u w → v = .v u → StepOK T P cx g m w nm (do pure (Next.value (← (do eqGuard op t x y (.int k a) (.int k' b); binOp op t (.int k a) (.int k' b))))) v [] := fun u hu hv =>
    .val (u := u) h (by simp only [Sem.run_bind, hg, Result.andThen_ok, hu]) (by subst hv; simp only [RV])
  unfold binV at he
  simp only at he
  split at he
  · -- shl
    cases he
    have : ¬ b < 0 := by omega
    refine key _ ?_ rfl; first | (simp [binOp, Op.shift, this]; done) | (simp [binOp, Op.shift, this]; rfl)
  · -- shr
    cases he
    have : ¬ b < 0 := by omega
    refine key _ ?_ rfl; first | (simp [binOp, Op.shift, this]; done) | (simp [binOp, Op.shift, this]; rfl)
  · rename_i hn1 hn2
    split at he
    · rename_i hk
      subst hk
      unfold intBin at he
      split at he
      all_goals first
        | (cases he; refine key _ ?_ rfl; first | (simp [binOp, Op.intArith]; done) | (simp [binOp]; rfl))
        | (cases he; refine key _ ?_ rfl; first | (simp [binOp, Op.intDiv, hs]; done) | (simp [binOp, Op.intDiv, hs]; rfl))
        | (cases he; refine key _ ?_ rfl; first | (simp [binOp, Op.intCmp]; done) | (simp [binOp, Op.intCmp]; rfl))
        | (cases he; refine key _ ?_ rfl; first | (simp [binOp, Op.intBits, bits]; done) | (simp [binOp, Op.intBits, bits]; rfl))
        | cases he
    · cases he
theorem bin_str_ok (h : MR T cx g m w) (op : BinOp) (t : Nat) (a b : ByteArray) {v : PV} (x y : Operand) (he : strBin op a b = some v) :
    StepOK T P cx g m w nm (do pure (Next.value (← (do eqGuard op t x y (.string a) (.string b); binOp op t (.string a) (.string b))))) v [] := by
  have hg : (eqGuard op t x y (.string a) (.string b)).run P w = .ok () w := by cases op <;> simp [eqGuard]
  have key : ∀ u, (binOp op t (.string a) (.string b)).run P w = .ok u w → v = .v u → StepOK T P cx g m w nm (do pure (Next.value (← (do eqGuard op t x y (.string a) (.string b); binOp op t (.string a) (.string b))))) v [] := fun u hu hv =>
    .val (u := u) h (by simp only [Sem.run_bind, hg, Result.andThen_ok, hu]) (by subst hv; simp only [RV])
  unfold strBin at he
  split at he
  all_goals first
    | (cases he; refine key _ ?_ rfl; first | (simp [binOp, Op.stringOp]; done) | (simp [binOp, Op.stringOp]; rfl))
    | cases he
theorem bin_bool_ok (h : MR T cx g m w) (op : BinOp) (t : Nat) (ht : P.underlying t = some .bool) (a b : Bool) {side : Prop} {v : PV} (x y : Operand) (he : binV op (.v (.bool a)) (.v (.bool b)) = some (side, v)) :
    StepOK T P cx g m w nm (do pure (Next.value (← (do eqGuard op t x y (.bool a) (.bool b); binOp op t (.bool a) (.bool b))))) v [] := by
  have hg : (eqGuard op t x y (.bool a) (.bool b)).run P w = .ok () w := by cases op <;> simp [eqGuard]
  have hq : (Op.equal t (.bool a) (.bool b)).run P w = .ok (a == b) w := run_equalIn_bool' w 9999 t a b ht
  have key : ∀ u, (binOp op t (.bool a) (.bool b)).run P w = .ok u w → v = .v u → StepOK T P cx g m w nm (do pure (Next.value (← (do eqGuard op t x y (.bool a) (.bool b); binOp op t (.bool a) (.bool b))))) v [] := fun u hu hv =>
    .val (u := u) h (by simp only [Sem.run_bind, hg, Result.andThen_ok, hu]) (by subst hv; simp only [RV])
  unfold binV at he
  simp only at he
  split at he
  · cases he; exact key _ (by simp only [binOp, Sem.run_bind, hq, Result.andThen_ok, Sem.run_pure]) rfl
  · cases he; exact key _ (by simp only [binOp, Sem.run_bind, hq, Result.andThen_ok, Sem.run_pure]) rfl
  · cases he
theorem bin_agg_ok (hT : TOK T P) (h : MR T cx g m w) (op : BinOp) (t : Nat) {xs ys : List PV} {us vs : List Value} (hx : RL g w xs us) (hy : RL g w ys vs) {side : Prop} {v : PV} (x y : Operand)
    (he : aggEq T op t xs ys = some (side, v)) (hs : side) :
    StepOK T P cx g m w nm (do pure (Next.value (← (do eqGuard op t x y (.agg us.toArray) (.agg vs.toArray); binOp op t (.agg us.toArray) (.agg vs.toArray))))) v [] := by
  unfold aggEq at he
  split at he
  · cases he
  rename_i ks hks
  obtain ⟨h0, hlk, heq⟩ := flatEq_ok hT 20 t ks hks
  have hpart : ∀ zs : List Value, zs.length = (T.at t).sz → (T.at t).kind.isAgg = true → partV T t (zs ++ []) = .agg zs.toArray := fun zs hz ha => by
    simp only [partV, ha, if_true, List.append_nil]; rw [List.take_of_length_le (by omega)]
  have hq : ∀ b, ceqs ks xs ys = some b → (T.at t).kind.isAgg = true → (Op.equal t (.agg us.toArray) (.agg vs.toArray)).run P w = .ok b w := fun b hb ha => by
    have hl := ceqs_length hb
    have := heq 10000 g w xs ys us vs b (by omega) hx hy hb [] []
    rw [hpart us (by rw [← RL.length hx]; omega) ha, hpart vs (by rw [← RL.length hy]; omega) ha] at this
    exact this
  have hgd : (T.at t).kind.isAgg = true → (eqGuard op t x y (.agg us.toArray) (.agg vs.toArray)).run P w = .ok () w := fun ha => by
    obtain ⟨d, hu, hd⟩ := hT.kind h0
    refine run_eqGuard_agg w op t x y _ _ ?_
    cases hk : (T.at t).kind with
    | struct fs => rw [hk] at hd; exact hd.2.2.2
    | arr n e => rw [hk] at hd; exact hd.2.2
    | _ => rw [hk] at ha; cases ha
  split at he
  · rename_i b hb
    cases he
    exact .val (u := .bool b) h (by simp only [Sem.run_bind, hgd hs, Result.andThen_ok, binOp, hq _ hb hs, Sem.run_pure]) (by simp only [RV])
  · rename_i b hb
    cases he
    exact .val (u := .bool !b) h (by simp only [Sem.run_bind, hgd hs, Result.andThen_ok, binOp, hq _ hb hs, Sem.run_pure]) (by simp only [RV])
  · cases he
end
end Go.Proofs.Ytcbhmedknbiffaa
