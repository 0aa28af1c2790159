/- The law ProgSteps. -/
import Derived.Test.YtgnbklohlfiaeaaStepsVal
set_option linter.unusedVariables false
namespace Go.Proofs.Pure
open Go.Proofs.D Go.Proofs.F

theorem refStepSame_refl (x : Stp) (h : x.2.2.1.length < 1000) : pledgeref12_Same x x = some true := by
  unfold pledgeref12_Same
  rw [ref_equal_val _ _ h, sameL_refl]
  simp

theorem stepsV_fine {p : Prg} (hf : Few p) : ∀ s ∈ stepsV p, FineS s := fun s hs => by
  unfold stepsV at hs
  cases hg : goodP 4 4 p with
  | false => rw [hg] at hs; cases hs
  | true => rw [hg] at hs; exact stepsP_fine hf hg s hs
theorem stepsV_len {p : Prg} (hf : Few p) : (stepsV p).length ≤ 5 ∧ goodP 4 4 p = decide (((stepsV p).length : Int) > 0) := by
  unfold stepsV
  cases hg : goodP 4 4 p with
  | false => simp
  | true =>
    have := stepsP_len hf hg
    simp only [cond_true]
    exact ⟨this.2, by rw [dec_t (by omega)]⟩
theorem FineS.len {s : Stp} (h : FineS s) : s.2.2.1.length ≤ 3 := by
  have h2 := h.2
  unfold goodS at h2
  simp only [Bool.and_eq_true, decide_eq_true_eq] at h2
  exact h2.1.1.2

theorem ProgSteps (x0 : Prg) (hx0 : WfE kProgram x0) : pledgelaw13_ProgSteps x0 = some true := by
  unfold pledgelaw13_ProgSteps
  rcases few13_cases x0 hx0 with e | ⟨e, h, a, b, c⟩
  · rw [e, works13]; rfl
  rw [e, works13, steps_val x0 h, refSteps_val x0 h, refGoodP_val 4 4 x0 h]
  obtain ⟨g1, g2⟩ := stepsV_len h
  have hfine := stepsV_fine h
  simp only [Option.bind_some, show ((1 : Int) == 0) = false by decide, cond_false, bne_self_eq_false]
  rw [g2]
  simp only [beq_self_eq_true, Bool.not_true, cond_false]
  generalize stepsV x0 = l at *
  rw [dec_f (show ¬ (l.length : Int) > 5 by omega)]
  simp only [cond_false]
  have := loop_walk (step := pledgelaw13_ProgSteps.l1) l (fun i (_ : Unit) => (l, (l, (i : Int)))) (fun _ _ _ => .inl ()) (fun _ => .inl ()) (fun _ _ => True) () (by omega) trivial (fun i y acc hx _ => by
    have hi := get_lt hx
    have hy := hfine y (get_mem hx)
    have hl := hy.len
    refine ⟨?_, fun _ _ => trivial⟩
    unfold pledgelaw13_ProgSteps.l1
    simp only [dec_t (show (i : Int) < (l.length : Int) by omega), cond_true]
    rw [nthK_get hx, nthK_get hx, refStepSame_refl y (by omega), Option.bind_some]
    simp only [Bool.not_true, cond_false]
    rw [nthK_get hx, stepGood_val 4 4 y hy.1 (by omega), hy.2]
    simp only [Option.bind_some, Bool.not_true, cond_false]
    rw [succ_i64 (by omega)]) (fun acc _ => by
    unfold pledgelaw13_ProgSteps.l1
    simp only [dec_f (show ¬ (l.length : Int) < (l.length : Int) by omega), cond_false])
  rw [show (((0 : Nat) : Int)) = 0 from rfl] at this
  rw [this, walk_through]
  rfl
end Go.Proofs.Pure
