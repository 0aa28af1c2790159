/- The law CourseNext (StepOps, StepUndo, CourseNxt, PureCourseNext in one text: a claim has at most 60 files). -/
import Derived.Test.YtkipelkedgckoaaCourseDo
set_option linter.unusedVariables false
set_option linter.unusedSimpArgs false
namespace Go.Proofs.Pure
open Go.Proofs.D Go.Proofs.F

abbrev OpE := (Int × Int × Int × Unit) × Int × Unit
def addO (k s w d : Int) : OpE := ((k, (s, (w, ()))), (d, ()))
def negI (n : Int) : Int := IntKind.i64.wrap (0 - n)
def opsOne (tg w : Int) (x : Ln) : List OpE :=
  bif tg == 1 then [addO 1 x.1 w (negI x.2.1), addO 2 x.1 w x.2.1] else bif tg == 2 then [addO 2 x.1 w (negI x.2.1), addO 1 x.1 w x.2.1]
  else bif tg == 3 then [addO 2 x.1 w (negI x.2.1), addO 3 x.1 0 x.2.1] else bif tg == 4 then [addO 3 x.1 0 (negI x.2.1), addO 1 x.1 w x.2.1]
  else bif tg == 5 then [addO 1 x.1 w x.2.1] else bif tg == 6 then [addO 1 x.1 w (negI x.2.1)] else bif tg == 7 then [addO 4 x.1 0 x.2.1]
  else bif tg == 8 then [addO 4 x.1 0 (negI x.2.1)] else []
def opsItem (s : Stp) (x : Ln) : List OpE := bif decide (x.2.1 ≥ 1) then opsOne s.1 s.2.1 x else []
def opsOf (s : Stp) : List OpE := s.2.2.1.flatMap (opsItem s)

theorem opsOne_len (tg w : Int) (x : Ln) : (opsOne tg w x).length ≤ 2 := by
  unfold opsOne
  cases tg == 1 <;> cases tg == 2 <;> cases tg == 3 <;> cases tg == 4 <;> cases tg == 5 <;> cases tg == 6 <;> cases tg == 7 <;> cases tg == 8 <;> simp
theorem opsItem_len (s : Stp) (x : Ln) : (opsItem s x).length ≤ 2 := by
  unfold opsItem
  cases decide (x.2.1 ≥ 1) with
  | true => exact opsOne_len _ _ _
  | false => simp

theorem refOne_val (tg w : Int) (x : Ln) : pledgeref12_one tg w x = some (opsOne tg w x) := by
  unfold pledgeref12_one opsOne
  cases tg == 1 <;> cases tg == 2 <;> cases tg == 3 <;> cases tg == 4 <;> cases tg == 5 <;> cases tg == 6 <;> cases tg == 7 <;> cases tg == 8 <;> rfl

theorem refOps_val (s : Stp) (hl : s.2.2.1.length < 1000) : pledgeref12_Ops s = some (opsOf s) := by
  unfold pledgeref12_Ops opsOf
  generalize hL : s.2.2.1 = l at *
  have := loop_walk (step := pledgeref12_Ops.l1) l (fun i (acc : List OpE) => (((), ((), (i : Int))), (s, (acc, ())))) (fun _ y acc => .inl (acc ++ opsItem s y)) (fun acc => ((), (acc, ()))) (fun i acc => acc.length ≤ 2 * i) [] (by omega) (Nat.le_refl _) (fun i y acc hx hi => by
    have hi2 := get_lt hx
    have ho := opsItem_len s y
    have ho2 := opsOne_len s.1 s.2.1 y
    refine ⟨?_, fun _ h => by cases h; simp only [List.length_append]; omega⟩
    unfold pledgeref12_Ops.l1
    simp only [hL, dec_t (show (i : Int) < (l.length : Int) by omega), cond_true]
    rw [nthK_get hx]
    unfold opsItem
    cases decide (y.2.1 ≥ 1) with
    | true =>
      simp only [cond_true]
      rw [nthK_get hx, refOne_val, Option.bind_some, room_ok (by omega), succ_i64 (by omega)]
    | false => simp only [cond_false, List.append_nil]; rw [succ_i64 (by omega)]) (fun acc _ => by
    unfold pledgeref12_Ops.l1
    simp only [hL, dec_f (show ¬ (l.length : Int) < (l.length : Int) by omega), cond_false])
  rw [show (((0 : Nat) : Int)) = 0 from rfl] at this
  rw [this, walk_gather, List.nil_append]; rfl

theorem add_val (k d : Int) (x : Ln) (s : Stp) (acc : List OpE) (h : acc.length < 1000000) :
    step_Ops_1 k d () () () x s () acc = some ((), (x, (s, ((), ((), (acc ++ [addO k x.1 (bif (k == 1) || (k == 2) then s.2.1 else 0) d], ())))))) := by
  unfold step_Ops_1
  cases k == 1 with
  | true => simp only [cond_true, Option.bind_some, Bool.true_or]; rw [room_ok (by simp; omega)]; rfl
  | false =>
    cases k == 2 with
    | true => simp only [cond_true, cond_false, Option.bind_some, Bool.or_true]; rw [room_ok (by simp; omega)]; rfl
    | false => simp only [cond_false, Option.bind_some, Bool.or_false]; rw [room_ok (by simp; omega)]; rfl

theorem ops_val (s : Stp) (hl : s.2.2.1.length < 1000) : step_Ops s = some (opsOf s) := by
  unfold step_Ops opsOf
  generalize hL : s.2.2.1 = l at *
  have := loop_walk (step := step_Ops.l1) l (fun i (acc : List OpE) => (((), ((), (l, ((l.length : Int), (i : Int))))), (s, ((), (acc, ()))))) (fun _ y acc => .inl (acc ++ opsItem s y)) (fun acc => ((), ((), (acc, ())))) (fun i acc => acc.length ≤ 2 * i) [] (by omega) (Nat.le_refl _) (fun i y acc hx hi => by
    have hi2 := get_lt hx
    have ho := opsItem_len s y
    refine ⟨?_, fun _ h => by cases h; simp only [List.length_append]; omega⟩
    unfold step_Ops.l1
    simp only [dec_t (show (i : Int) < (l.length : Int) by omega), cond_true]
    rw [nthK_get hx]
    have a1 : ∀ d, step_Ops_1 1 d () () () y s () acc = some ((), (y, (s, ((), ((), (acc ++ [addO 1 y.1 s.2.1 d], ())))))) := fun d => add_val 1 d y s acc (by omega)
    have b1 : ∀ z d, step_Ops_1 1 d () () () y s () (acc ++ [z]) = some ((), (y, (s, ((), ((), (acc ++ [z] ++ [addO 1 y.1 s.2.1 d], ())))))) := fun z d => add_val 1 d y s (acc ++ [z]) (by simp; omega)
    have a2 : ∀ d, step_Ops_1 2 d () () () y s () acc = some ((), (y, (s, ((), ((), (acc ++ [addO 2 y.1 s.2.1 d], ())))))) := fun d => add_val 2 d y s acc (by omega)
    have b2 : ∀ z d, step_Ops_1 2 d () () () y s () (acc ++ [z]) = some ((), (y, (s, ((), ((), (acc ++ [z] ++ [addO 2 y.1 s.2.1 d], ())))))) := fun z d => add_val 2 d y s (acc ++ [z]) (by simp; omega)
    have a3 : ∀ d, step_Ops_1 3 d () () () y s () acc = some ((), (y, (s, ((), ((), (acc ++ [addO 3 y.1 0 d], ())))))) := fun d => add_val 3 d y s acc (by omega)
    have b3 : ∀ z d, step_Ops_1 3 d () () () y s () (acc ++ [z]) = some ((), (y, (s, ((), ((), (acc ++ [z] ++ [addO 3 y.1 0 d], ())))))) := fun z d => add_val 3 d y s (acc ++ [z]) (by simp; omega)
    have a4 : ∀ d, step_Ops_1 4 d () () () y s () acc = some ((), (y, (s, ((), ((), (acc ++ [addO 4 y.1 0 d], ())))))) := fun d => add_val 4 d y s acc (by omega)
    have s1 := succ_i64 (n := i) (by omega)
    unfold opsItem
    by_cases c : y.2.1 < 1
    · rw [dec_t c, dec_f (show ¬ y.2.1 ≥ 1 by omega)]
      simp only [cond_true, cond_false, List.append_nil, s1]
    · rw [dec_f c, dec_t (show y.2.1 ≥ 1 by omega)]
      simp only [cond_true, cond_false, a1, a2, a3, a4, b1, b2, b3, Option.bind_some, s1]
      unfold opsOne negI
      by_cases e1 : s.1 = 1
      · simp only [e1, show ((1 : Int) == 1) = true from rfl, cond_true]; simp
      by_cases e3 : s.1 = 3
      · simp only [e3, show ((3 : Int) == 1) = false from rfl, show ((3 : Int) == 2) = false from rfl, show ((3 : Int) == 3) = true from rfl, cond_true, cond_false]; simp
      by_cases e2 : s.1 = 2
      · simp only [e2, show ((2 : Int) == 1) = false from rfl, show ((2 : Int) == 2) = true from rfl, show ((2 : Int) == 3) = false from rfl, cond_true, cond_false]; simp
      rw [show (s.1 == 1) = false by simp [e1], show (s.1 == 2) = false by simp [e2], show (s.1 == 3) = false by simp [e3]]
      simp only [cond_false]
      by_cases e5 : s.1 = 5
      · simp only [e5, show ((5 : Int) == 4) = false from rfl, show ((5 : Int) == 5) = true from rfl, cond_true, cond_false]
      by_cases e4 : s.1 = 4
      · simp only [e4, show ((4 : Int) == 4) = true from rfl, show ((4 : Int) == 5) = false from rfl, cond_true, cond_false]; simp
      rw [show (s.1 == 4) = false by simp [e4], show (s.1 == 5) = false by simp [e5]]
      simp only [cond_false]
      by_cases e6 : s.1 = 6
      · simp only [e6, show ((6 : Int) == 6) = true from rfl, cond_true]
      by_cases e7 : s.1 = 7
      · simp only [e7, show ((7 : Int) == 6) = false from rfl, show ((7 : Int) == 7) = true from rfl, cond_true, cond_false]
      by_cases e8 : s.1 = 8
      · simp only [e8, show ((8 : Int) == 6) = false from rfl, show ((8 : Int) == 7) = false from rfl, show ((8 : Int) == 8) = true from rfl, cond_true, cond_false]
      rw [show (s.1 == 6) = false by simp [e6], show (s.1 == 7) = false by simp [e7], show (s.1 == 8) = false by simp [e8]]
      simp) (fun acc _ => by
    unfold step_Ops.l1
    simp only [dec_f (show ¬ (l.length : Int) < (l.length : Int) by omega), cond_false])
  rw [show (((0 : Nat) : Int)) = 0 from rfl] at this
  rw [this, walk_gather, List.nil_append]; rfl
theorem opsOf_len (s : Stp) : (opsOf s).length ≤ 2 * s.2.2.1.length := by
  unfold opsOf
  generalize s.2.2.1 = l
  induction l with
  | nil => simp
  | cons x l ih =>
    have := opsItem_len s x
    simp only [List.flatMap_cons, List.length_append, List.length_cons]; omega

def negE (x : OpE) : OpE := (x.1, (negI x.2.1, ()))
theorem negGo_val : ∀ (l acc : List OpE), (∀ x ∈ l, x.2.1 ≠ -9223372036854775808) → acc.length + l.length ≤ 1000000 → negGo (kk := kKey) calc_Neg l acc = some (acc ++ l.map negE, true)
  | [], acc, _, _ => by show some (acc, true) = _; simp
  | x :: l, acc, h, hl => by
    have hx : (x.2.1 == (-9223372036854775808 : Int)) = false := by simpa using h x (by simp)
    have e : calc_Neg x.2.1 = some (negI x.2.1, (true, ())) := by unfold calc_Neg negI; rw [hx]; rfl
    show ((calc_Neg x.2.1).bind fun r => match r.2.1 with
      | false => some ([], false)
      | true => room (acc.length + 1) (negGo (kk := kKey) calc_Neg l (acc ++ [(x.1, (r.1, ()))]))) = _
    rw [e]
    simp only [List.length_cons] at hl
    show room (acc.length + 1) (negGo (kk := kKey) calc_Neg l (acc ++ [negE x])) = _
    rw [room_ok (by omega), negGo_val l (acc ++ [negE x]) (fun y hy => h y (by simp [hy])) (by simp only [List.length_append, List.length_cons, List.length_nil]; omega)]
    rw [List.append_assoc]; rfl

theorem neg_val (l : List OpE) (h : ∀ x ∈ l, x.2.1 ≠ -9223372036854775808) (hl : l.length ≤ 1000000) : op_Neg l = some (((), (true, ())), (l.reverse.map negE, ())) := by
  show chk (decide ((0 : Int) ≤ 0) && decide ((0 : Int) ≤ (l.length : Int)) && decide ((l.length : Int) ≤ 4294967296)) ((negGo (kk := kKey) calc_Neg l.reverse []).map fun r => (((), (r.2, ())), (r.1, ()))) = _
  rw [chk_true (by simp; omega)]
  exact congrArg (Option.map fun r => (((), (r.2, ())), (r.1, ()))) (negGo_val l.reverse [] (fun x hx => h x (by simpa using hx)) (by simpa using hl))

theorem same_self (l : List OpE) (hl : l.length < 1000) : pledgeref11_Same l l = some true := by
  unfold pledgeref11_Same
  have e : (((l.length : Int) : Int) != (l.length : Int)) = false := by simp
  rw [e]
  simp only [cond_false]
  have hr : ∀ x : OpE, eqE kOp x x = true := fun x => by
    show (((x.1.1 == x.1.1) && ((x.1.2.1 == x.1.2.1) && ((x.1.2.2.1 == x.1.2.2.1) && true))) && ((x.2.1 == x.2.1) && true)) = true
    simp
  have := loop_all (step := pledgeref11_Same.l1) (fun i => (l, (l, (i : Int)))) (fun _ => true) (.inl ()) (.inr false) l.length (by omega) (fun i hi => by
    unfold pledgeref11_Same.l1
    have hx : l[i]? = some l[i] := List.getElem?_eq_getElem hi
    simp only [dec_t (show (i : Int) < (l.length : Int) by omega), cond_true]
    rw [nthK_get hx, nthK_get hx, hr]
    simp only [Bool.not_true, cond_false]
    rw [succ_i64 (by omega)]) (by
    unfold pledgeref11_Same.l1
    simp only [dec_f (show ¬ (l.length : Int) < (l.length : Int) by omega), cond_false])
  rw [show (((0 : Nat) : Int)) = 0 from rfl] at this
  rw [this, Option.bind_some]
  have ht : allFrom (fun _ => true) 0 l.length = true := by rw [allFrom_iff]; intros; rfl
  rw [ht]; rfl

theorem undo_loop (l : List OpE) (hl : l.length < 10000) : ∀ (k : Nat) (n : Nat) (acc : List OpE), k ≤ l.length → k < n → acc.length + k ≤ 10000 →
    iterL pledgeref12_Undo.l1 n ((l, ((), (k : Int) - 1)), (acc, ())) = some ((), (acc ++ ((l.take k).reverse.map negE), ()))
  | 0, n + 1, acc, _, _, _ => by
    refine iterL_done ?_
    unfold pledgeref12_Undo.l1
    simp
  | k + 1, n + 1, acc, hk, hn, ha => by
    have hx : l[k]? = some l[k] := List.getElem?_eq_getElem (by omega)
    have hs : pledgeref12_Undo.l1 ((l, ((), ((k + 1 : Nat) : Int) - 1)), (acc, ())) = some (.inl ((l, ((), (k : Int) - 1)), (acc ++ [negE l[k]], ()))) := by
      have e : (((k + 1 : Nat) : Int) - 1) = (k : Int) := by omega
      rw [e]
      unfold pledgeref12_Undo.l1
      simp only [dec_t (show (k : Int) ≥ 0 by omega), cond_true]
      rw [nthK_get hx, nthK_get hx, room_ok (by simp only [List.length_cons, List.length_nil]; omega), wrap_i64 (by omega) (by omega)]
      rfl
    rw [iterL_next hs, undo_loop l hl k n _ (by omega) (by omega) (by simp only [List.length_append, List.length_cons, List.length_nil]; omega)]
    rw [List.take_add_one, hx, Option.toList_some, List.reverse_append]
    simp only [List.reverse_cons, List.reverse_nil, List.nil_append, List.singleton_append, List.map_cons, List.append_assoc]

theorem refUndo_val (s : Stp) (hl : s.2.2.1.length < 1000) : pledgeref12_Undo s = some ((opsOf s).reverse.map negE) := by
  have ho := opsOf_len s
  unfold pledgeref12_Undo
  rw [refOps_val s hl, Option.bind_some, wrap_i64 (by omega) (by omega)]
  have := undo_loop (opsOf s) (by omega) (opsOf s).length loopN [] (Nat.le_refl _) (by rw [loopN_eq]; omega) (by simp; omega)
  rw [this]
  simp

theorem ops_fine (s : Stp) (hw : ∀ x ∈ s.2.2.1, WfE kLine x) : ∀ x ∈ opsOf s, x.2.1 ≠ -9223372036854775808 := by
  intro x hx
  unfold opsOf at hx
  obtain ⟨y, hy, hx⟩ := List.mem_flatMap.1 hx
  have hq := wf_i64 (hw y hy).2.1
  unfold opsItem at hx
  by_cases c : y.2.1 ≥ 1
  · rw [dec_t c, cond_true] at hx
    have hn : negI y.2.1 = -y.2.1 := by unfold negI; rw [wrap_i64 (by omega) (by omega)]; omega
    have key : ∀ z ∈ opsOne s.1 s.2.1 y, z.2.1 = negI y.2.1 ∨ z.2.1 = y.2.1 := by
      intro z hz
      unfold opsOne addO at hz
      revert hz
      cases s.1 == 1 <;> cases s.1 == 2 <;> cases s.1 == 3 <;> cases s.1 == 4 <;> cases s.1 == 5 <;> cases s.1 == 6 <;> cases s.1 == 7 <;> cases s.1 == 8 <;> simp only [cond_true, cond_false, List.mem_cons, List.not_mem_nil, or_false] <;> intro hz <;>
        first | exact hz.elim | (rcases hz with rfl | rfl <;> simp) | (subst hz; simp)
    rcases key x hx with e | e <;> rw [e] <;> omega
  · rw [dec_f c, cond_false] at hx; cases hx

theorem undo_val (s : Stp) (hw : ∀ x ∈ s.2.2.1, WfE kLine x) (hl : s.2.2.1.length < 1000) : step_Undo s = some ((opsOf s).reverse.map negE) := by
  have ho := opsOf_len s
  unfold step_Undo
  rw [ops_val s hl, Option.bind_some, neg_val _ (ops_fine s hw) (by omega)]; rfl

abbrev Tx := Int × Int × Int × Bool × Bool × List OpE × Int × Int × Unit
theorem stepsV_fine {p : Prg} (hf : Few p) : ∀ s ∈ stepsV p, FineS s := fun s hs => by
  unfold stepsV at hs
  cases hg : goodP 4 4 p with
  | false => rw [hg] at hs; cases hs
  | true => rw [hg] at hs; exact stepsP_fine hf hg s hs
theorem FineS.len {s : Stp} (h : FineS s) : s.2.2.1.length ≤ 3 := by
  have h2 := h.2
  unfold goodS at h2
  simp only [Bool.and_eq_true, decide_eq_true_eq] at h2
  exact h2.1.1.2
theorem FineS.wf {s : Stp} (h : FineS s) : ∀ x ∈ s.2.2.1, WfE kLine x := h.1.2.2.1.2

theorem recSame_self (z : Rc) (h : z.2.2.2.2.2.2.2.2.1 = prgZ) : pledgeref14_Same z z = some true := by
  unfold pledgeref14_Same
  rw [h, refSameP_val _ _ (by decide) (by decide) (by decide), sameP_refl, eqKey_refl]
  simp

theorem ops_both (c : Crs) (hc : Few c.2.1) : ∃ l, course_Ops c = some l ∧ pledgeref20_Ops c = some l ∧ l.length < 1000 := by
  have hn := stepsV_le hc
  have hfine := stepsV_fine hc
  unfold course_Ops pledgeref20_Ops
  rw [steps_val _ hc, refSteps_val _ hc, goodC_val c hc, refGoodC_val c hc]
  simp only [Option.bind_some]
  cases hgc : goodC c with
  | false => exact ⟨[], rfl, rfl, by simp⟩
  | true =>
    have hgd : 0 ≤ c.2.2.2.1 ∧ c.2.2.2.1 ≤ ((stepsV c.2.1).length : Int) := by
      unfold goodC at hgc
      simp only [Bool.and_eq_true, decide_eq_true_eq] at hgc
      omega
    obtain ⟨saga, p, back, step, tries, tx, u⟩ := c
    simp only at hc hn hfine hgd
    simp only [Bool.not_true, cond_false]
    cases back with
    | true =>
      simp only [cond_true, Bool.not_true, cond_false, Option.bind_some]
      by_cases h0 : step > 0
      · rw [dec_t h0]
        have e : IntKind.i64.wrap (step - 1) = ((step.toNat - 1 : Nat) : Int) := by rw [wrap_i64 (by omega) (by omega)]; omega
        obtain ⟨y, hy⟩ : ∃ y, (stepsV p)[step.toNat - 1]? = some y := ⟨_, List.getElem?_eq_getElem (by omega)⟩
        have hf := hfine y (get_mem hy)
        have hl := hf.len
        have ho := opsOf_len y
        simp only [cond_true, e]
        rw [nthK_get hy, nthK_get hy, undo_val y hf.wf (by omega), refUndo_val y (by omega)]
        exact ⟨_, rfl, rfl, by simp; omega⟩
      · rw [dec_f h0]; exact ⟨[], rfl, rfl, by simp⟩
    | false =>
      simp only [cond_true, Bool.not_false, cond_false, Option.bind_some]
      by_cases h0 : step < ((stepsV p).length : Int)
      · rw [dec_t h0]
        have e : step = ((step.toNat : Nat) : Int) := by omega
        obtain ⟨y, hy⟩ : ∃ y, (stepsV p)[step.toNat]? = some y := ⟨_, List.getElem?_eq_getElem (by omega)⟩
        have hf := hfine y (get_mem hy)
        have hl := hf.len
        have ho := opsOf_len y
        simp only [cond_true]
        rw [e, nthK_get hy, nthK_get hy, ops_val y (by omega), refOps_val y (by omega)]
        exact ⟨_, rfl, rfl, by omega⟩
      · rw [dec_f h0]; exact ⟨[], rfl, rfl, by simp⟩

theorem undoT_both (t : Tx) (hl : t.2.2.2.2.2.1.length ≤ 20) (hw : ∀ x ∈ t.2.2.2.2.2.1, -9223372036854775808 ≤ x.2.1) : ∃ z, course_Undo t = some z ∧ pledgeref20_Undo t = some z ∧ z.2.2.2.2.2.2.2.2.1 = prgZ := by
  unfold course_Undo pledgeref20_Undo journal_Last pledgeref19_Last
  generalize t.2.2.2.2.2.1 = l at *
  by_cases h0 : l.length = 0
  · rw [show ((l.length : Int) == 0) = true by simp [h0]]
    exact ⟨_, rfl, rfl, rfl⟩
  · rw [show ((l.length : Int) == 0) = false by rw [beq_eq_false_iff_ne]; omega]
    have e : IntKind.i64.wrap ((l.length : Int) - 1) = ((l.length - 1 : Nat) : Int) := by rw [wrap_i64 (by omega) (by omega)]; omega
    obtain ⟨y, hy⟩ : ∃ y, l[l.length - 1]? = some y := ⟨_, List.getElem?_eq_getElem (by omega)⟩
    have hb := hw y (get_mem hy)
    simp only [cond_false, e]
    rw [nthK_get hy, nthK_get hy, nthK_get hy, nthK_get hy, nthK_get hy]
    by_cases hm : y.2.1 = -9223372036854775808
    · rw [show (y.2.1 == -9223372036854775808) = true by simp [hm], dec_t (by omega)]
      exact ⟨_, rfl, rfl, rfl⟩
    · rw [show (y.2.1 == -9223372036854775808) = false by simpa using hm, dec_f (by omega)]
      exact ⟨_, rfl, rfl, rfl⟩

theorem taken_both (c : Crs) (t : Tx) (hc : Few c.2.1) (hl : t.2.2.2.2.2.1.length ≤ 20) : ∃ l, course_Taken c t = some l ∧ pledgeref20_Taken c t = some l ∧ l.length < 1000 := by
  unfold course_Taken pledgeref20_Taken
  rw [goodC_val c hc, refGoodC_val c hc]
  simp only [Option.bind_some]
  cases goodC c with
  | false => exact ⟨[], rfl, rfl, by simp⟩
  | true =>
    simp only [Bool.not_true, cond_false]
    cases c.2.2.2.2.2.1 == 0 with
    | true => cases c.2.2.1 <;> exact ⟨[], rfl, rfl, by simp⟩
    | false =>
      cases c.2.2.1 with
      | false => exact ⟨[], rfl, rfl, by simp⟩
      | true =>
        simp only [Bool.not_true, cond_false]
        generalize hL : t.2.2.2.2.2.1 = l at *
        rw [chk_true (by simp; omega)]
        have h1 := loop_walk (step := course_Taken.l1) l (fun i (acc : List OpE) => (((), (l, ((l.length : Int), (i : Int)))), (acc, ()))) (fun _ y acc => .inl (acc ++ [negE y])) (fun acc => ((), (acc, ()))) (fun i acc => acc.length ≤ i) [] (by omega) (Nat.le_refl _) (fun i y acc hx hi => by
          have hi2 := get_lt hx
          refine ⟨?_, fun _ h => by cases h; simp only [List.length_append, List.length_cons, List.length_nil]; omega⟩
          unfold course_Taken.l1
          simp only [dec_t (show (i : Int) < (l.length : Int) by omega), cond_true]
          rw [nthK_get hx, room_ok (by simp; omega), succ_i64 (by omega)]
          rfl) (fun acc _ => by
          unfold course_Taken.l1
          simp only [dec_f (show ¬ (l.length : Int) < (l.length : Int) by omega), cond_false])
        have h2 := loop_walk (step := pledgeref20_Taken.l1) l (fun i (acc : List OpE) => (((), ((), (i : Int))), (t, (acc, ())))) (fun _ y acc => .inl (acc ++ [negE y])) (fun acc => ((), (acc, ()))) (fun i acc => acc.length ≤ i) [] (by omega) (Nat.le_refl _) (fun i y acc hx hi => by
          have hi2 := get_lt hx
          refine ⟨?_, fun _ h => by cases h; simp only [List.length_append, List.length_cons, List.length_nil]; omega⟩
          unfold pledgeref20_Taken.l1
          simp only [hL, dec_t (show (i : Int) < (l.length : Int) by omega), cond_true]
          rw [nthK_get hx, nthK_get hx, room_ok (by simp; omega), succ_i64 (by omega)]
          rfl) (fun acc _ => by
          unfold pledgeref20_Taken.l1
          simp only [hL, dec_f (show ¬ (l.length : Int) < (l.length : Int) by omega), cond_false])
        rw [show (((0 : Nat) : Int)) = 0 from rfl] at h1 h2
        rw [walk_gather (fun y => [negE y])] at h1 h2
        have e0 : (List.replicate 0 ((0, (0, (0, ()))), (0, ())) : List OpE) = [] := rfl
        refine ⟨[] ++ l.flatMap fun y => [negE y], ?_, ?_, ?_⟩
        · exact congrArg (fun x => Option.bind x fun y66 => some y66.2.1) h1
        · exact congrArg (fun x => Option.bind x fun y71 => some y71.2.1) h2
        · have : ∀ l : List OpE, (l.flatMap fun y => [negE y]) = l.map negE := fun l => by
            induction l with
            | nil => rfl
            | cons a l ih => simp only [List.flatMap_cons, ih, List.map_cons]; rfl
          rw [this]; simp; omega

theorem flatOps_len {l : List Stp} (h : ∀ s ∈ l, (opsOf s).length ≤ 6) : (l.flatMap opsOf).length ≤ 6 * l.length := by
  induction l with
  | nil => simp
  | cons a l ih =>
    have h1 := h a (by simp)
    have h2 := ih (fun s hs => h s (by simp [hs]))
    simp only [List.flatMap_cons, List.length_append, List.length_cons]; omega

theorem live_both (c : Crs) (t : Tx) (hc : Few c.2.1) (hl : t.2.2.2.2.2.1.length ≤ 20) : ∃ l, course_Live c t = some l ∧ pledgeref20_Live c t = some l ∧ l.length < 1000 := by
  have hn := stepsV_le hc
  have hfine := stepsV_fine hc
  unfold course_Live pledgeref20_Live
  rw [steps_val _ hc, refSteps_val _ hc, goodC_val c hc, refGoodC_val c hc]
  simp only [Option.bind_some]
  cases hgc : goodC c with
  | false => exact ⟨[], rfl, rfl, by simp⟩
  | true =>
    have hgd : 0 ≤ c.2.2.2.1 ∧ c.2.2.2.1 ≤ ((stepsV c.2.1).length : Int) := by
      unfold goodC at hgc
      simp only [Bool.and_eq_true, decide_eq_true_eq] at hgc
      omega
    have e : c.2.2.2.1 = ((c.2.2.2.1.toNat : Nat) : Int) := by omega
    have hlen : ((stepsV c.2.1).take c.2.2.2.1.toNat).length = c.2.2.2.1.toNat := by rw [List.length_take]; omega
    have hget : ∀ (i : Nat) y, ((stepsV c.2.1).take c.2.2.2.1.toNat)[i]? = some y → (stepsV c.2.1)[i]? = some y ∧ y ∈ stepsV c.2.1 := fun i y hy => by
      rw [List.getElem?_take] at hy
      split at hy
      · exact ⟨hy, get_mem hy⟩
      · cases hy
    simp only [Bool.not_true, cond_false, List.drop_zero]
    rw [chk_true (by simp; omega)]
    generalize hK : (stepsV c.2.1).take c.2.2.2.1.toNat = l at *
    have hy6 : ∀ i y, l[i]? = some y → step_Ops y = some (opsOf y) ∧ pledgeref12_Ops y = some (opsOf y) ∧ (opsOf y).length ≤ 6 := fun i y hy => by
      have hf := hfine y (hget i y hy).2
      have h3 := hf.len
      have ho := opsOf_len y
      exact ⟨ops_val y (by omega), refOps_val y (by omega), by omega⟩
    have h1 := loop_walk (step := course_Live.l1) l (fun i (acc : List OpE) => (((), ((), ((), (l, ((l.length : Int), (i : Int)))))), (c, (t, (acc, ()))))) (fun _ y acc => .inl (acc ++ opsOf y)) (fun acc => (((), ((), ())), (c, (t, (acc, ()))))) (fun i acc => acc.length ≤ 6 * i) [] (by omega) (Nat.le_refl _) (fun i y acc hx hi => by
      have hi2 := get_lt hx
      obtain ⟨o1, o2, o3⟩ := hy6 i y hx
      refine ⟨?_, fun _ h => by cases h; simp only [List.length_append]; omega⟩
      unfold course_Live.l1
      simp only [dec_t (show (i : Int) < (l.length : Int) by omega), cond_true]
      rw [nthK_get hx, o1, Option.bind_some, room_ok (by omega), succ_i64 (by omega)]) (fun acc _ => by
      unfold course_Live.l1
      simp only [dec_f (show ¬ (l.length : Int) < (l.length : Int) by omega), cond_false])
    have h2 := loop_walk (step := pledgeref20_Live.l1) l (fun i (acc : List OpE) => (((), ((), (stepsV c.2.1, ((), (i : Int))))), (c, (t, (acc, ()))))) (fun _ y acc => .inl (acc ++ opsOf y)) (fun acc => (((), ((), ())), (c, (t, (acc, ()))))) (fun i acc => acc.length ≤ 6 * i) [] (by omega) (Nat.le_refl _) (fun i y acc hx hi => by
      have hi2 := get_lt hx
      obtain ⟨o1, o2, o3⟩ := hy6 i y hx
      refine ⟨?_, fun _ h => by cases h; simp only [List.length_append]; omega⟩
      unfold pledgeref20_Live.l1
      simp only [dec_t (show (i : Int) < c.2.2.2.1 by omega), cond_true]
      rw [nthK_get (hget i y hx).1, o2, Option.bind_some, room_ok (by omega), succ_i64 (by omega)]) (fun acc _ => by
      unfold pledgeref20_Live.l1
      simp only [dec_f (show ¬ (l.length : Int) < c.2.2.2.1 by omega), cond_false])
    rw [show (((0 : Nat) : Int)) = 0 from rfl] at h1 h2
    rw [walk_gather opsOf, List.nil_append] at h1 h2
    rw [h1, h2]
    simp only [Option.bind_some]
    have hfl : (l.flatMap opsOf).length ≤ 6 * l.length := flatOps_len fun s hs => by
      obtain ⟨i, hi⟩ := List.getElem?_of_mem hs
      exact (hy6 i s hi).2.2
    rw [room_ok (by omega)]
    have bne' : (c.2.2.2.2.2.1 != 0) = !(c.2.2.2.2.2.1 == 0) := rfl
    rw [bne']
    cases c.2.2.2.2.2.1 == 0 <;> cases c.2.2.1 <;> first | exact ⟨_, rfl, rfl, by omega⟩ | exact ⟨_, rfl, rfl, by rw [List.length_append]; omega⟩

theorem next_both (c : Crs) (t : Tx) (retry id : Int) (hc : Few c.2.1) (hl : t.2.2.2.2.2.1.length ≤ 20) (hw : ∀ x ∈ t.2.2.2.2.2.1, -9223372036854775808 ≤ x.2.1) :
    ∃ z, course_Next c t retry id = some z ∧ pledgeref20_Next c t retry id = some z ∧ z.2.2.2.2.2.2.2.2.1 = prgZ := by
  have hg := goodC_val c hc
  have hg2 := refGoodC_val c hc
  obtain ⟨ops, o1, o2, o3⟩ := ops_both c hc
  obtain ⟨un, u1, u2, u3⟩ := undoT_both t hl hw
  obtain ⟨saga, p, back, step, tries, tx, u⟩ := c
  obtain ⟨tid, tb, tc, td, dead, done, te, tf, tu⟩ := t
  simp only at hc hl
  have S1 : course_steps (saga, (p, (back, (step, (tries, (tx, u)))))) = some ((stepsV p).length : Int) := csteps_val _ hc
  have S2 := refSteps_val p hc
  unfold course_Next course_Next.s1 pledgeref20_Next
  simp only [hg, hg2, Option.bind_some]
  cases goodC (saga, p, back, step, tries, tx, u) with
  | false => exact ⟨_, rfl, rfl, rfl⟩
  | true =>
    simp only [Bool.not_true, cond_false, S2, Option.bind_some]
    by_cases h0 : tx = 0
    · subst h0
      simp only [bne_self_eq_false, beq_self_eq_true, cond_true, cond_false, Option.bind_some]
      cases back with
      | true =>
        simp only [cond_true, cond_false, Bool.not_true, Option.bind_some]
        cases step == 0 <;> exact ⟨_, rfl, rfl, rfl⟩
      | false =>
        simp only [cond_true, cond_false, Bool.not_false, Option.bind_some, S1]
        cases decide (tries > retry) <;> simp only [cond_true, cond_false, Bool.not_false, Option.bind_some] <;> cases step == ((stepsV p).length : Int) <;> exact ⟨_, rfl, rfl, rfl⟩
    · rw [show (tx != 0) = true by simp [h0], show (tx == 0) = false by simp [h0]]
      simp only [cond_true, cond_false, Option.bind_some, show (tx != 0) = true by simp [h0]]
      cases dead with
      | true =>
        simp only [cond_true, cond_false, Option.bind_some, u1, u2]
        exact ⟨_, rfl, rfl, u3⟩
      | false =>
        simp only [cond_true, cond_false, Option.bind_some, o1, o2]
        by_cases hlt : (done.length : Int) < (ops.length : Int)
        · obtain ⟨y, hy⟩ : ∃ y, ops[done.length]? = some y := ⟨_, List.getElem?_eq_getElem (by omega)⟩
          simp only [dec_t hlt, cond_true]
          rw [nthK_get hy, nthK_get hy]
          exact ⟨_, rfl, rfl, rfl⟩
        · simp only [dec_f hlt, cond_false]
          exact ⟨_, rfl, rfl, rfl⟩

theorem few13_any (p : Prg) : pledgelaw13_Few p = some 0 ∨ (pledgelaw13_Few p = some 1 ∧ p.2.2.2.1.length ≤ 20 ∧ p.2.2.2.2.1.length ≤ 30 ∧ p.2.2.2.2.2.1.length ≤ 20) := by
  unfold pledgelaw13_Few pledgelaw13_isFew
  by_cases h1 : (p.2.2.2.1.length : Int) ≤ 20
  · rw [dec_t h1]
    by_cases h2 : (p.2.2.2.2.1.length : Int) ≤ 30
    · rw [dec_t h2]
      by_cases h3 : (p.2.2.2.2.2.1.length : Int) ≤ 20
      · rw [dec_t h3]; exact .inr ⟨rfl, by omega, by omega, by omega⟩
      · rw [dec_f h3]; exact .inl rfl
    · rw [dec_f h2]; exact .inl rfl
  · rw [dec_f h1]; exact .inl rfl
theorem few20_any (c : Crs) (t : Tx) : pledgelaw20_Few c t = some 0 ∨ (pledgelaw20_Few c t = some 1 ∧ (c.2.1.2.2.2.1.length ≤ 20 ∧ c.2.1.2.2.2.2.1.length ≤ 30 ∧ c.2.1.2.2.2.2.2.1.length ≤ 20) ∧ t.2.2.2.2.2.1.length ≤ 20) := by
  unfold pledgelaw20_Few pledgelaw20_isFew
  rcases few13_any c.2.1 with e | ⟨e, h⟩
  · rw [e]; exact .inl rfl
  · rw [e]
    by_cases h1 : (t.2.2.2.2.2.1.length : Int) ≤ 20
    · simp only [Option.bind_some, dec_t h1]; exact .inr ⟨rfl, h, by omega⟩
    · simp only [Option.bind_some, dec_f h1]; exact .inl rfl
theorem works20 : pledgelaw20_works = some true := by kernel_rfl


theorem CourseNext (x0 : Crs) (x1 : Tx) (x2 : List Int) (hx0 : WfE kCourse x0) (hx1 : WfE kTxn x1) (hx2 : WfE (.arr 2 (.int .i64)) x2) : pledgelaw20_CourseNext x0 x1 x2 = some true := by
  unfold pledgelaw20_CourseNext
  rw [works20]
  rcases few20_any x0 x1 with e | ⟨e, ⟨a, b, c⟩, d⟩
  · rw [e]; rfl
  have hc : Few x0.2.1 := ⟨hx0.2.1, by omega, by omega, by omega⟩
  have hl2 : List.length x2 = 2 := hx2.1
  obtain ⟨v0, hv0⟩ : ∃ v, x2[0]? = some v := ⟨_, List.getElem?_eq_getElem (by omega)⟩
  obtain ⟨v1, hv1⟩ : ∃ v, x2[1]? = some v := ⟨_, List.getElem?_eq_getElem (by omega)⟩
  have hw : ∀ x ∈ x1.2.2.2.2.2.1, -9223372036854775808 ≤ x.2.1 := fun x hx => (wf_i64 (hx1.2.2.2.2.2.1.2 x hx).2.1).1
  obtain ⟨z, z1, z2, z3⟩ := next_both x0 x1 v0 (IntKind.u32.wrap v1) hc d hw
  obtain ⟨w, w1, w2, w3⟩ := undoT_both x1 d hw
  obtain ⟨o, o1, o2, o3⟩ := ops_both x0 hc
  obtain ⟨l, l1, l2, l3⟩ := live_both x0 x1 hc d
  obtain ⟨k, k1, k2, k3⟩ := taken_both x0 x1 hc d
  rw [e]
  simp only [Option.bind_some, show ((1 : Int) == 0) = false from rfl, cond_false]
  rw [nthK_get0 hv0, show (1 : Int) = ((1 : Nat) : Int) from rfl, nthK_get hv1, z1, z2, w1, w2, o1, o2, l1, l2, k1, k2]
  simp only [Option.bind_some, recSame_self z z3, recSame_self w w3, same_self o o3, same_self l l3, same_self k k3, cond_true]
end Go.Proofs.Pure
