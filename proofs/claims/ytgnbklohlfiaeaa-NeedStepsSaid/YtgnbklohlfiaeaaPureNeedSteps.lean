/- The law NeedSteps. -/
import Derived.Test.YtgnbklohlfiaeaaStepOps
set_option linter.unusedVariables false
namespace Go.Proofs.Pure
open Go.Proofs.D Go.Proofs.F

theorem works21 : pledgelaw21_works = some true := by kernel_rfl
theorem cost2 : rec_Cost 2 = some 17 := by kernel_rfl
theorem cost3 : rec_Cost 3 = some 22 := by kernel_rfl
theorem cost4 : rec_Cost 4 = some 11 := by kernel_rfl
theorem cost5 : rec_Cost 5 = some 11 := by kernel_rfl
theorem cost6 : rec_Cost 6 = some 22 := by kernel_rfl
theorem cost7 : rec_Cost 7 = some 11 := by kernel_rfl
theorem rcost2 : pledgeref14_Cost 2 = some 17 := by kernel_rfl
theorem rcost3 : pledgeref14_Cost 3 = some 22 := by kernel_rfl
theorem rcost4 : pledgeref14_Cost 4 = some 11 := by kernel_rfl
theorem rcost5 : pledgeref14_Cost 5 = some 11 := by kernel_rfl
theorem rcost6 : pledgeref14_Cost 6 = some 22 := by kernel_rfl
theorem rcost7 : pledgeref14_Cost 7 = some 11 := by kernel_rfl

theorem NeedSteps (x0 : Stp) (hx0 : WfE kStep x0) : pledgelaw21_NeedSteps x0 = some true := by
  unfold pledgelaw21_NeedSteps
  rw [works21]
  by_cases h : (x0.2.2.1.length : Int) > 20
  · rw [dec_t h]; rfl
  rw [dec_f h]
  have hl : x0.2.2.1.length < 1000 := by omega
  have ho := opsOf_len x0
  unfold need_Pass need_Fail need_adds pledgeref21_Pass pledgeref21_Fail
  simp only [ops_val x0 hl, refOps_val x0 hl, cost2, cost3, cost4, cost5, cost6, cost7, rcost2, rcost3, rcost4, rcost5, rcost6, rcost7, Option.bind_some, cond_false, beq_self_eq_true, cond_true]
  have e : ∀ n : Int, 0 ≤ n → n < 100000 → IntKind.i64.wrap n = n := fun n a b => wrap_i64 (by omega) (by omega)
  rw [e _ (by omega) (by omega : ((opsOf x0).length : Int) * 22 < 100000), e _ (by omega) (by omega : (17 : Int) + (opsOf x0).length * 22 < 100000), e _ (by omega) (by omega : (17 : Int) + (opsOf x0).length * 22 + 11 < 100000),
    e _ (by omega) (by omega : (17 : Int) + (opsOf x0).length * 22 + 11 + (opsOf x0).length * 22 < 100000), e _ (by omega) (by omega : (17 : Int) + (opsOf x0).length * 22 + 11 + (opsOf x0).length * 22 + 11 < 100000), dec_t (by omega)]
  rfl
end Go.Proofs.Pure
