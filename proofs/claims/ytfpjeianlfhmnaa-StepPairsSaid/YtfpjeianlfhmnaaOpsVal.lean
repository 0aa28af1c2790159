/- What a step does: additions (in the words of layer 11). -/
import Derived.Test.YtfpjeianlfhmnaaNetLaws
set_option linter.unusedVariables false
namespace Go.Proofs.Pure
open Go.Proofs.D Go.Proofs.F

abbrev Ln := Int × Int × Unit
abbrev Stp := Int × Int × List Ln × Unit
def addO (k s w d : Int) : OpE := ((k, (s, (w, ()))), (d, ()))
def opsOne (tg w : Int) (x : Ln) : List OpE :=
  bif tg == 1 then [addO 1 x.1 w (negI x.2.1), addO 2 x.1 w x.2.1] else bif tg == 2 then [addO 2 x.1 w (negI x.2.1), addO 1 x.1 w x.2.1]
  else bif tg == 3 then [addO 2 x.1 w (negI x.2.1), addO 3 x.1 0 x.2.1] else bif tg == 4 then [addO 3 x.1 0 (negI x.2.1), addO 1 x.1 w x.2.1]
  else bif tg == 5 then [addO 1 x.1 w x.2.1] else bif tg == 6 then [addO 1 x.1 w (negI x.2.1)] else bif tg == 7 then [addO 4 x.1 0 x.2.1]
  else bif tg == 8 then [addO 4 x.1 0 (negI x.2.1)] else []
def opsItem (s : Stp) (x : Ln) : List OpE := bif decide (x.2.1 ≥ 1) then opsOne s.1 s.2.1 x else []
def opsOf (s : Stp) : List OpE := s.2.2.1.flatMap (opsItem s)

theorem opsOne_len (tg w : Int) (x : Ln) : (opsOne tg w x).length ≤ 2 := by
  unfold opsOne
  cases tg == 1 <;> cases tg == 2 <;> cases tg == 3 <;> cases tg == 4 <;> cases tg == 5 <;> cases tg == 6 <;> cases tg == 7 <;> cases tg == 8 <;> simp
theorem opsItem_len (s : Stp) (x : Ln) : (opsItem s x).length ≤ 2 := by
  unfold opsItem
  cases decide (x.2.1 ≥ 1) with
  | true => exact opsOne_len _ _ _
  | false => simp

theorem add_val (k d : Int) (x : Ln) (s : Stp) (acc : List OpE) (h : acc.length < 1000000) :
    step_Ops_1 k d () () () x s () acc = some ((), (x, (s, ((), ((), (acc ++ [addO k x.1 (bif (k == 1) || (k == 2) then s.2.1 else 0) d], ())))))) := by
  unfold step_Ops_1
  cases k == 1 with
  | true => simp only [cond_true, Option.bind_some, Bool.true_or]; rw [room_ok (by simp; omega)]; rfl
  | false =>
    cases k == 2 with
    | true => simp only [cond_true, cond_false, Option.bind_some, Bool.or_true]; rw [room_ok (by simp; omega)]; rfl
    | false => simp only [cond_false, Option.bind_some, Bool.or_false]; rw [room_ok (by simp; omega)]; rfl

theorem ops_val (s : Stp) (hl : s.2.2.1.length < 1000) : step_Ops s = some (opsOf s) := by
  unfold step_Ops opsOf
  generalize hL : s.2.2.1 = l at *
  have := loop_walk (step := step_Ops.l1) l (fun i (acc : List OpE) => (((), ((), (l, ((l.length : Int), (i : Int))))), (s, ((), (acc, ()))))) (fun _ y acc => .inl (acc ++ opsItem s y)) (fun acc => ((), ((), (acc, ())))) (fun i acc => acc.length ≤ 2 * i) [] (by omega) (Nat.le_refl _) (fun i y acc hx hi => by
    have hi2 := get_lt hx
    have ho := opsItem_len s y
    refine ⟨?_, fun _ h => by cases h; simp only [List.length_append]; omega⟩
    unfold step_Ops.l1
    simp only [dec_t (show (i : Int) < (l.length : Int) by omega), cond_true]
    rw [nthK_get hx]
    have a1 : ∀ d, step_Ops_1 1 d () () () y s () acc = some ((), (y, (s, ((), ((), (acc ++ [addO 1 y.1 s.2.1 d], ())))))) := fun d => add_val 1 d y s acc (by omega)
    have b1 : ∀ z d, step_Ops_1 1 d () () () y s () (acc ++ [z]) = some ((), (y, (s, ((), ((), (acc ++ [z] ++ [addO 1 y.1 s.2.1 d], ())))))) := fun z d => add_val 1 d y s (acc ++ [z]) (by simp; omega)
    have a2 : ∀ d, step_Ops_1 2 d () () () y s () acc = some ((), (y, (s, ((), ((), (acc ++ [addO 2 y.1 s.2.1 d], ())))))) := fun d => add_val 2 d y s acc (by omega)
    have b2 : ∀ z d, step_Ops_1 2 d () () () y s () (acc ++ [z]) = some ((), (y, (s, ((), ((), (acc ++ [z] ++ [addO 2 y.1 s.2.1 d], ())))))) := fun z d => add_val 2 d y s (acc ++ [z]) (by simp; omega)
    have a3 : ∀ d, step_Ops_1 3 d () () () y s () acc = some ((), (y, (s, ((), ((), (acc ++ [addO 3 y.1 0 d], ())))))) := fun d => add_val 3 d y s acc (by omega)
    have b3 : ∀ z d, step_Ops_1 3 d () () () y s () (acc ++ [z]) = some ((), (y, (s, ((), ((), (acc ++ [z] ++ [addO 3 y.1 0 d], ())))))) := fun z d => add_val 3 d y s (acc ++ [z]) (by simp; omega)
    have a4 : ∀ d, step_Ops_1 4 d () () () y s () acc = some ((), (y, (s, ((), ((), (acc ++ [addO 4 y.1 0 d], ())))))) := fun d => add_val 4 d y s acc (by omega)
    have s1 := succ_i64 (n := i) (by omega)
    unfold opsItem
    by_cases c : y.2.1 < 1
    · rw [dec_t c, dec_f (show ¬ y.2.1 ≥ 1 by omega)]
      simp only [cond_true, cond_false, List.append_nil, s1]
    · rw [dec_f c, dec_t (show y.2.1 ≥ 1 by omega)]
      simp only [cond_true, cond_false, a1, a2, a3, a4, b1, b2, b3, Option.bind_some, s1]
      unfold opsOne negI
      by_cases e1 : s.1 = 1
      · simp only [e1, show ((1 : Int) == 1) = true from rfl, cond_true]; simp
      by_cases e3 : s.1 = 3
      · simp only [e3, show ((3 : Int) == 1) = false from rfl, show ((3 : Int) == 2) = false from rfl, show ((3 : Int) == 3) = true from rfl, cond_true, cond_false]; simp
      by_cases e2 : s.1 = 2
      · simp only [e2, show ((2 : Int) == 1) = false from rfl, show ((2 : Int) == 2) = true from rfl, show ((2 : Int) == 3) = false from rfl, cond_true, cond_false]; simp
      rw [show (s.1 == 1) = false by simp [e1], show (s.1 == 2) = false by simp [e2], show (s.1 == 3) = false by simp [e3]]
      simp only [cond_false]
      by_cases e5 : s.1 = 5
      · simp only [e5, show ((5 : Int) == 4) = false from rfl, show ((5 : Int) == 5) = true from rfl, cond_true, cond_false]
      by_cases e4 : s.1 = 4
      · simp only [e4, show ((4 : Int) == 4) = true from rfl, show ((4 : Int) == 5) = false from rfl, cond_true, cond_false]; simp
      rw [show (s.1 == 4) = false by simp [e4], show (s.1 == 5) = false by simp [e5]]
      simp only [cond_false]
      by_cases e6 : s.1 = 6
      · simp only [e6, show ((6 : Int) == 6) = true from rfl, cond_true]
      by_cases e7 : s.1 = 7
      · simp only [e7, show ((7 : Int) == 6) = false from rfl, show ((7 : Int) == 7) = true from rfl, cond_true, cond_false]
      by_cases e8 : s.1 = 8
      · simp only [e8, show ((8 : Int) == 6) = false from rfl, show ((8 : Int) == 7) = false from rfl, show ((8 : Int) == 8) = true from rfl, cond_true, cond_false]
      rw [show (s.1 == 6) = false by simp [e6], show (s.1 == 7) = false by simp [e7], show (s.1 == 8) = false by simp [e8]]
      simp) (fun acc _ => by
    unfold step_Ops.l1
    simp only [dec_f (show ¬ (l.length : Int) < (l.length : Int) by omega), cond_false])
  rw [show (((0 : Nat) : Int)) = 0 from rfl] at this
  rw [this, walk_gather, List.nil_append]; rfl
theorem opsOf_len (s : Stp) : (opsOf s).length ≤ 2 * s.2.2.1.length := by
  unfold opsOf
  generalize s.2.2.1 = l
  induction l with
  | nil => simp
  | cons x l ih =>
    have := opsItem_len s x
    simp only [List.flatMap_cons, List.length_append, List.length_cons]; omega

theorem opsOne_amt {tg w : Int} {y : Ln} {z : OpE} (hz : z ∈ opsOne tg w y) : z.2.1 = negI y.2.1 ∨ z.2.1 = y.2.1 := by
  unfold opsOne addO at hz
  revert hz
  cases tg == 1 <;> cases tg == 2 <;> cases tg == 3 <;> cases tg == 4 <;> cases tg == 5 <;> cases tg == 6 <;> cases tg == 7 <;> cases tg == 8 <;> simp only [cond_true, cond_false, List.mem_cons, List.not_mem_nil, or_false] <;> intro hz <;>
    first | exact hz.elim | (rcases hz with rfl | rfl <;> simp) | (subst hz; simp)
theorem opsOf_wf (s : Stp) (hw : ∀ x ∈ s.2.2.1, -9223372036854775808 ≤ x.2.1 ∧ x.2.1 < 9223372036854775808) : ∀ x ∈ opsOf s, -9223372036854775808 < x.2.1 ∧ x.2.1 < 9223372036854775808 := by
  intro x hx
  unfold opsOf at hx
  obtain ⟨y, hy, hx⟩ := List.mem_flatMap.1 hx
  have hq := hw y hy
  unfold opsItem at hx
  by_cases c : y.2.1 ≥ 1
  · rw [dec_t c, cond_true] at hx
    have hn : negI y.2.1 = -y.2.1 := negI_val (by omega) (by omega)
    rcases opsOne_amt hx with e | e <;> rw [e] <;> omega
  · rw [dec_f c, cond_false] at hx; cases hx
end Go.Proofs.Pure
