/- The law StepDoes. -/
import Derived.Test.YtgnbklohlfiaeaaStepOps
set_option linter.unusedVariables false
namespace Go.Proofs.Pure
open Go.Proofs.D Go.Proofs.F

def negE (x : OpE) : OpE := (x.1, (negI x.2.1, ()))
theorem negGo_val : ∀ (l acc : List OpE), (∀ x ∈ l, x.2.1 ≠ -9223372036854775808) → acc.length + l.length ≤ 1000000 → negGo (kk := kKey) calc_Neg l acc = some (acc ++ l.map negE, true)
  | [], acc, _, _ => by show some (acc, true) = _; simp
  | x :: l, acc, h, hl => by
    have hx : (x.2.1 == (-9223372036854775808 : Int)) = false := by simpa using h x (by simp)
    have e : calc_Neg x.2.1 = some (negI x.2.1, (true, ())) := by unfold calc_Neg negI; rw [hx]; rfl
    show ((calc_Neg x.2.1).bind fun r => match r.2.1 with
      | false => some ([], false)
      | true => room (acc.length + 1) (negGo (kk := kKey) calc_Neg l (acc ++ [(x.1, (r.1, ()))]))) = _
    rw [e]
    simp only [List.length_cons] at hl
    show room (acc.length + 1) (negGo (kk := kKey) calc_Neg l (acc ++ [negE x])) = _
    rw [room_ok (by omega), negGo_val l (acc ++ [negE x]) (fun y hy => h y (by simp [hy])) (by simp only [List.length_append, List.length_cons, List.length_nil]; omega)]
    rw [List.append_assoc]; rfl

theorem neg_val (l : List OpE) (h : ∀ x ∈ l, x.2.1 ≠ -9223372036854775808) (hl : l.length ≤ 1000000) : op_Neg l = some (((), (true, ())), (l.reverse.map negE, ())) := by
  show chk (decide ((0 : Int) ≤ 0) && decide ((0 : Int) ≤ (l.length : Int)) && decide ((l.length : Int) ≤ 4294967296)) ((negGo (kk := kKey) calc_Neg l.reverse []).map fun r => (((), (r.2, ())), (r.1, ()))) = _
  rw [chk_true (by simp; omega)]
  exact congrArg (Option.map fun r => (((), (r.2, ())), (r.1, ()))) (negGo_val l.reverse [] (fun x hx => h x (by simpa using hx)) (by simpa using hl))

theorem same_self (l : List OpE) (hl : l.length < 1000) : pledgeref11_Same l l = some true := by
  unfold pledgeref11_Same
  have e : (((l.length : Int) : Int) != (l.length : Int)) = false := by simp
  rw [e]
  simp only [cond_false]
  have hr : ∀ x : OpE, eqE kOp x x = true := fun x => by
    show (((x.1.1 == x.1.1) && ((x.1.2.1 == x.1.2.1) && ((x.1.2.2.1 == x.1.2.2.1) && true))) && ((x.2.1 == x.2.1) && true)) = true
    simp
  have := loop_all (step := pledgeref11_Same.l1) (fun i => (l, (l, (i : Int)))) (fun _ => true) (.inl ()) (.inr false) l.length (by omega) (fun i hi => by
    unfold pledgeref11_Same.l1
    have hx : l[i]? = some l[i] := List.getElem?_eq_getElem hi
    simp only [dec_t (show (i : Int) < (l.length : Int) by omega), cond_true]
    rw [nthK_get hx, nthK_get hx, hr]
    simp only [Bool.not_true, cond_false]
    rw [succ_i64 (by omega)]) (by
    unfold pledgeref11_Same.l1
    simp only [dec_f (show ¬ (l.length : Int) < (l.length : Int) by omega), cond_false])
  rw [show (((0 : Nat) : Int)) = 0 from rfl] at this
  rw [this, Option.bind_some]
  have ht : allFrom (fun _ => true) 0 l.length = true := by rw [allFrom_iff]; intros; rfl
  rw [ht]; rfl

theorem undo_loop (l : List OpE) (hl : l.length < 10000) : ∀ (k : Nat) (n : Nat) (acc : List OpE), k ≤ l.length → k < n → acc.length + k ≤ 10000 →
    iterL pledgeref12_Undo.l1 n ((l, ((), (k : Int) - 1)), (acc, ())) = some ((), (acc ++ ((l.take k).reverse.map negE), ()))
  | 0, n + 1, acc, _, _, _ => by
    refine iterL_done ?_
    unfold pledgeref12_Undo.l1
    simp
  | k + 1, n + 1, acc, hk, hn, ha => by
    have hx : l[k]? = some l[k] := List.getElem?_eq_getElem (by omega)
    have hs : pledgeref12_Undo.l1 ((l, ((), ((k + 1 : Nat) : Int) - 1)), (acc, ())) = some (.inl ((l, ((), (k : Int) - 1)), (acc ++ [negE l[k]], ()))) := by
      have e : (((k + 1 : Nat) : Int) - 1) = (k : Int) := by omega
      rw [e]
      unfold pledgeref12_Undo.l1
      simp only [dec_t (show (k : Int) ≥ 0 by omega), cond_true]
      rw [nthK_get hx, nthK_get hx, room_ok (by simp only [List.length_cons, List.length_nil]; omega), wrap_i64 (by omega) (by omega)]
      rfl
    rw [iterL_next hs, undo_loop l hl k n _ (by omega) (by omega) (by simp only [List.length_append, List.length_cons, List.length_nil]; omega)]
    rw [List.take_add_one, hx, Option.toList_some, List.reverse_append]
    simp only [List.reverse_cons, List.reverse_nil, List.nil_append, List.singleton_append, List.map_cons, List.append_assoc]

theorem refUndo_val (s : Stp) (hl : s.2.2.1.length < 1000) : pledgeref12_Undo s = some ((opsOf s).reverse.map negE) := by
  have ho := opsOf_len s
  unfold pledgeref12_Undo
  rw [refOps_val s hl, Option.bind_some, wrap_i64 (by omega) (by omega)]
  have := undo_loop (opsOf s) (by omega) (opsOf s).length loopN [] (Nat.le_refl _) (by rw [loopN_eq]; omega) (by simp; omega)
  rw [this]
  simp

theorem works12 : pledgelaw12_works = some true := by kernel_rfl
theorem word_val (x : Int) (h0 : 0 ≤ x) (h : x < 256) : step_Word x = pledgeref12_Word x := by
  by_cases h9 : x < 9
  · have : x = 0 ∨ x = 1 ∨ x = 2 ∨ x = 3 ∨ x = 4 ∨ x = 5 ∨ x = 6 ∨ x = 7 ∨ x = 8 := by omega
    rcases this with rfl | rfl | rfl | rfl | rfl | rfl | rfl | rfl | rfl <;> (show _ = _; kernel_rfl)
  · have e1 : step_Word x = some (⟨#[]⟩ : ByteArray) := by
      show (bif decide (IntKind.i64.wrap x ≥ 9) then some (⟨#[]⟩ : ByteArray) else _) = _
      rw [wrap_i64 (by omega) (by omega), dec_t (by omega)]; rfl
    rw [e1]
    unfold pledgeref12_Word
    have e : ∀ n : Int, n < 9 → (x == n) = false := fun n hn => by simp; omega
    rw [e 1 (by omega), e 2 (by omega), e 3 (by omega), e 4 (by omega), e 5 (by omega), e 6 (by omega), e 7 (by omega), e 8 (by omega)]
    rfl

theorem ops_fine (s : Stp) (hw : ∀ x ∈ s.2.2.1, WfE kLine x) : ∀ x ∈ opsOf s, x.2.1 ≠ -9223372036854775808 := by
  intro x hx
  unfold opsOf at hx
  obtain ⟨y, hy, hx⟩ := List.mem_flatMap.1 hx
  have hq := wf_i64 (hw y hy).2.1
  unfold opsItem at hx
  by_cases c : y.2.1 ≥ 1
  · rw [dec_t c, cond_true] at hx
    have hn : negI y.2.1 = -y.2.1 := by unfold negI; rw [wrap_i64 (by omega) (by omega)]; omega
    have key : ∀ z ∈ opsOne s.1 s.2.1 y, z.2.1 = negI y.2.1 ∨ z.2.1 = y.2.1 := by
      intro z hz
      unfold opsOne addO at hz
      revert hz
      cases s.1 == 1 <;> cases s.1 == 2 <;> cases s.1 == 3 <;> cases s.1 == 4 <;> cases s.1 == 5 <;> cases s.1 == 6 <;> cases s.1 == 7 <;> cases s.1 == 8 <;> simp only [cond_true, cond_false, List.mem_cons, List.not_mem_nil, or_false] <;> intro hz <;>
        first | exact hz.elim | (rcases hz with rfl | rfl <;> simp) | (subst hz; simp)
    rcases key x hx with e | e <;> rw [e] <;> omega
  · rw [dec_f c, cond_false] at hx; cases hx

theorem StepDoes (x0 : Stp) (hx0 : WfE kStep x0) : pledgelaw12_StepDoes x0 = some true := by
  unfold pledgelaw12_StepDoes pledgelaw12_few
  rw [works12]
  simp only [Option.bind_some]
  by_cases h : (x0.2.2.1.length : Int) ≤ 20
  · rw [dec_t h]
    simp only [Bool.not_true, cond_false]
    have hl : x0.2.2.1.length < 1000 := by omega
    have ho := opsOf_len x0
    have hf := ops_fine x0 hx0.2.2.1.2
    have hu : step_Undo x0 = some ((opsOf x0).reverse.map negE) := by
      unfold step_Undo
      rw [ops_val x0 hl, Option.bind_some, neg_val _ hf (by omega)]; rfl
    have hb := wf_u8 hx0.1
    have hw : ∃ z, pledgeref12_Word x0.1 = some z := by
      unfold pledgeref12_Word
      cases x0.1 == 1 <;> cases x0.1 == 2 <;> cases x0.1 == 3 <;> cases x0.1 == 4 <;> cases x0.1 == 5 <;> cases x0.1 == 6 <;> cases x0.1 == 7 <;> cases x0.1 == 8 <;> exact ⟨_, rfl⟩
    obtain ⟨z, hz⟩ := hw
    rw [ops_val x0 hl, refOps_val x0 hl, hu, refUndo_val x0 hl, word_val x0.1 hb.1 hb.2, hz]
    simp only [Option.bind_some]
    rw [same_self _ (by omega), same_self _ (by simp; omega)]
    simp only [Option.bind_some, cond_true]
    rw [show (z.toList == z.toList) = true by simp]
    rfl
  · rw [dec_f h]; rfl
end Go.Proofs.Pure
