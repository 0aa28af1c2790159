/- The law StoreFills. -/
import Derived.Test.YtlmponhpepcllaaStoBase
set_option linter.unusedVariables false
namespace Go.Proofs.Pure
open Go.Proofs.D Go.Proofs.F

theorem StoreFills (x0 x1 : Sto) (x2 : Int × Int × Int × List Int × Unit) (hx0 : WfE kStore x0) (hx1 : WfE kStore x1) (hx2 : WfE kCome x2) : pledgelaw24_StoreFills x0 x1 x2 = some true := by
  unfold pledgelaw24_StoreFills
  rcases few24_val x0 hx0 with e | ⟨e, h⟩
  · rw [e, works24]; rfl
  rcases few24_val x1 hx1 with e' | ⟨e', h'⟩
  · rw [e, e', works24]; rfl
  rw [e, e', works24]
  simp only [Option.bind_some, show ((1 : Int) == 0) = false by decide, cond_false]
  by_cases c : (x2.2.2.2.1.length : Int) > 40
  · rw [dec_t c]; rfl
  rw [dec_f c]
  simp only [cond_false]
  have hfl := fillsS_len x0 x2.1 x2.2.1 x2.2.2.1 x2.2.2.2.1
  rw [fills_val2 x0 _ _ _ _ h.fs (by omega), refFillsS_val x0 _ _ _ _ h.fs (by omega), Option.bind_some, Option.bind_some, ref_equalT_val _ _ (by omega), sameT_refl, Option.bind_some, storeSame_val x0 x1 h.fs, refSameS_val x0 x1 h.fs, storeSame_val x0 x0 h.fs, sameS_refl, copyS_val x0 h.fs]
  simp only [Option.bind_some, cond_true, beq_self_eq_true]
  have : pledgeref24_Same (x0.1, (x0.2.1, ())) x0 = some true := by
    rw [refSameS_val _ _ ⟨h.fs.len, h.fs.few, h.fs.waits⟩]
    exact congrArg some (sameS_refl x0)
  rw [this]; rfl
end Go.Proofs.Pure
