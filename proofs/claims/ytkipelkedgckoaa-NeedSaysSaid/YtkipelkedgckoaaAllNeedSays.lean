/- The law NeedSays (CourseGood, StepOps, NeedVal, NeedRest, WireVal, RefWire, PureNeedSays in one text: a claim has at most 60 files). -/
import Derived.Test.YtkipelkedgckoaaRecGood
import Derived.Test.YtkipelkedgckoaaStepsVal
set_option linter.unusedVariables false
set_option linter.unusedSimpArgs false
namespace Go.Proofs.Pure
open Go.Proofs.D Go.Proofs.F

abbrev Crs := Int × Prg × Bool × Int × Int × Int × Unit
theorem stepsV_le {p : Prg} (hf : Few p) : (stepsV p).length ≤ 5 := by
  unfold stepsV
  cases hg : goodP 4 4 p with
  | false => simp
  | true =>
    have := stepsP_len hf hg
    simp only [cond_true]
    exact this.2
def goodC (c : Crs) : Bool := (c.1 != 0) && (goodP 4 4 c.2.1 && (decide (c.2.2.2.1 ≥ 0) && (decide (c.2.2.2.1 ≤ ((stepsV c.2.1).length : Int)) && decide (c.2.2.2.2.1 ≥ 0))))
theorem csteps_val (c : Crs) (hf : Few c.2.1) : course_steps c = some ((stepsV c.2.1).length : Int) := by
  unfold course_steps
  rw [steps_val _ hf]; rfl
theorem goodC_val (c : Crs) (hf : Few c.2.1) : course_Good c = some (goodC c) := by
  unfold course_Good goodC
  rw [progGood_val 4 4 _ hf, csteps_val c hf]
  simp only [Option.bind_some, cond_some, cond_no]
theorem refGoodC_val (c : Crs) (hf : Few c.2.1) : pledgeref20_Good c = some (goodC c) := by
  unfold pledgeref20_Good goodC
  rw [refGoodP_val 4 4 _ hf, refSteps_val _ hf]
  simp only [Option.bind_some, cond_some, cond_no]

theorem clone_val {α : Type} (l : List α) (hl : l.length < 1000) : (room (0 + l.length) (some ((), (l, ()))) : Option (Unit × List α × Unit)) = some ((), (l, ())) := room_ok (by omega)
theorem copyP_val (p : Prg) (hf : Few p) : prog_Copy p = some p := by
  have l1 := hf.lines; have l2 := hf.takes; have l3 := hf.owes
  unfold prog_Copy slices_Clone_api_Line_api_Line slices_Clone_api_Take_api_Take
  rw [clone_val _ (by omega), clone_val _ (by omega), clone_val _ (by omega)]
  rfl


abbrev OpE := (Int × Int × Int × Unit) × Int × Unit
def addO (k s w d : Int) : OpE := ((k, (s, (w, ()))), (d, ()))
def negI (n : Int) : Int := IntKind.i64.wrap (0 - n)
def opsOne (tg w : Int) (x : Ln) : List OpE :=
  bif tg == 1 then [addO 1 x.1 w (negI x.2.1), addO 2 x.1 w x.2.1] else bif tg == 2 then [addO 2 x.1 w (negI x.2.1), addO 1 x.1 w x.2.1]
  else bif tg == 3 then [addO 2 x.1 w (negI x.2.1), addO 3 x.1 0 x.2.1] else bif tg == 4 then [addO 3 x.1 0 (negI x.2.1), addO 1 x.1 w x.2.1]
  else bif tg == 5 then [addO 1 x.1 w x.2.1] else bif tg == 6 then [addO 1 x.1 w (negI x.2.1)] else bif tg == 7 then [addO 4 x.1 0 x.2.1]
  else bif tg == 8 then [addO 4 x.1 0 (negI x.2.1)] else []
def opsItem (s : Stp) (x : Ln) : List OpE := bif decide (x.2.1 ≥ 1) then opsOne s.1 s.2.1 x else []
def opsOf (s : Stp) : List OpE := s.2.2.1.flatMap (opsItem s)

theorem opsOne_len (tg w : Int) (x : Ln) : (opsOne tg w x).length ≤ 2 := by
  unfold opsOne
  cases tg == 1 <;> cases tg == 2 <;> cases tg == 3 <;> cases tg == 4 <;> cases tg == 5 <;> cases tg == 6 <;> cases tg == 7 <;> cases tg == 8 <;> simp
theorem opsItem_len (s : Stp) (x : Ln) : (opsItem s x).length ≤ 2 := by
  unfold opsItem
  cases decide (x.2.1 ≥ 1) with
  | true => exact opsOne_len _ _ _
  | false => simp

theorem refOne_val (tg w : Int) (x : Ln) : pledgeref12_one tg w x = some (opsOne tg w x) := by
  unfold pledgeref12_one opsOne
  cases tg == 1 <;> cases tg == 2 <;> cases tg == 3 <;> cases tg == 4 <;> cases tg == 5 <;> cases tg == 6 <;> cases tg == 7 <;> cases tg == 8 <;> rfl

theorem refOps_val (s : Stp) (hl : s.2.2.1.length < 1000) : pledgeref12_Ops s = some (opsOf s) := by
  unfold pledgeref12_Ops opsOf
  generalize hL : s.2.2.1 = l at *
  have := loop_walk (step := pledgeref12_Ops.l1) l (fun i (acc : List OpE) => (((), ((), (i : Int))), (s, (acc, ())))) (fun _ y acc => .inl (acc ++ opsItem s y)) (fun acc => ((), (acc, ()))) (fun i acc => acc.length ≤ 2 * i) [] (by omega) (Nat.le_refl _) (fun i y acc hx hi => by
    have hi2 := get_lt hx
    have ho := opsItem_len s y
    have ho2 := opsOne_len s.1 s.2.1 y
    refine ⟨?_, fun _ h => by cases h; simp only [List.length_append]; omega⟩
    unfold pledgeref12_Ops.l1
    simp only [hL, dec_t (show (i : Int) < (l.length : Int) by omega), cond_true]
    rw [nthK_get hx]
    unfold opsItem
    cases decide (y.2.1 ≥ 1) with
    | true =>
      simp only [cond_true]
      rw [nthK_get hx, refOne_val, Option.bind_some, room_ok (by omega), succ_i64 (by omega)]
    | false => simp only [cond_false, List.append_nil]; rw [succ_i64 (by omega)]) (fun acc _ => by
    unfold pledgeref12_Ops.l1
    simp only [hL, dec_f (show ¬ (l.length : Int) < (l.length : Int) by omega), cond_false])
  rw [show (((0 : Nat) : Int)) = 0 from rfl] at this
  rw [this, walk_gather, List.nil_append]; rfl

theorem add_val (k d : Int) (x : Ln) (s : Stp) (acc : List OpE) (h : acc.length < 1000000) :
    step_Ops_1 k d () () () x s () acc = some ((), (x, (s, ((), ((), (acc ++ [addO k x.1 (bif (k == 1) || (k == 2) then s.2.1 else 0) d], ())))))) := by
  unfold step_Ops_1
  cases k == 1 with
  | true => simp only [cond_true, Option.bind_some, Bool.true_or]; rw [room_ok (by simp; omega)]; rfl
  | false =>
    cases k == 2 with
    | true => simp only [cond_true, cond_false, Option.bind_some, Bool.or_true]; rw [room_ok (by simp; omega)]; rfl
    | false => simp only [cond_false, Option.bind_some, Bool.or_false]; rw [room_ok (by simp; omega)]; rfl

theorem ops_val (s : Stp) (hl : s.2.2.1.length < 1000) : step_Ops s = some (opsOf s) := by
  unfold step_Ops opsOf
  generalize hL : s.2.2.1 = l at *
  have := loop_walk (step := step_Ops.l1) l (fun i (acc : List OpE) => (((), ((), (l, ((l.length : Int), (i : Int))))), (s, ((), (acc, ()))))) (fun _ y acc => .inl (acc ++ opsItem s y)) (fun acc => ((), ((), (acc, ())))) (fun i acc => acc.length ≤ 2 * i) [] (by omega) (Nat.le_refl _) (fun i y acc hx hi => by
    have hi2 := get_lt hx
    have ho := opsItem_len s y
    refine ⟨?_, fun _ h => by cases h; simp only [List.length_append]; omega⟩
    unfold step_Ops.l1
    simp only [dec_t (show (i : Int) < (l.length : Int) by omega), cond_true]
    rw [nthK_get hx]
    have a1 : ∀ d, step_Ops_1 1 d () () () y s () acc = some ((), (y, (s, ((), ((), (acc ++ [addO 1 y.1 s.2.1 d], ())))))) := fun d => add_val 1 d y s acc (by omega)
    have b1 : ∀ z d, step_Ops_1 1 d () () () y s () (acc ++ [z]) = some ((), (y, (s, ((), ((), (acc ++ [z] ++ [addO 1 y.1 s.2.1 d], ())))))) := fun z d => add_val 1 d y s (acc ++ [z]) (by simp; omega)
    have a2 : ∀ d, step_Ops_1 2 d () () () y s () acc = some ((), (y, (s, ((), ((), (acc ++ [addO 2 y.1 s.2.1 d], ())))))) := fun d => add_val 2 d y s acc (by omega)
    have b2 : ∀ z d, step_Ops_1 2 d () () () y s () (acc ++ [z]) = some ((), (y, (s, ((), ((), (acc ++ [z] ++ [addO 2 y.1 s.2.1 d], ())))))) := fun z d => add_val 2 d y s (acc ++ [z]) (by simp; omega)
    have a3 : ∀ d, step_Ops_1 3 d () () () y s () acc = some ((), (y, (s, ((), ((), (acc ++ [addO 3 y.1 0 d], ())))))) := fun d => add_val 3 d y s acc (by omega)
    have b3 : ∀ z d, step_Ops_1 3 d () () () y s () (acc ++ [z]) = some ((), (y, (s, ((), ((), (acc ++ [z] ++ [addO 3 y.1 0 d], ())))))) := fun z d => add_val 3 d y s (acc ++ [z]) (by simp; omega)
    have a4 : ∀ d, step_Ops_1 4 d () () () y s () acc = some ((), (y, (s, ((), ((), (acc ++ [addO 4 y.1 0 d], ())))))) := fun d => add_val 4 d y s acc (by omega)
    have s1 := succ_i64 (n := i) (by omega)
    unfold opsItem
    by_cases c : y.2.1 < 1
    · rw [dec_t c, dec_f (show ¬ y.2.1 ≥ 1 by omega)]
      simp only [cond_true, cond_false, List.append_nil, s1]
    · rw [dec_f c, dec_t (show y.2.1 ≥ 1 by omega)]
      simp only [cond_true, cond_false, a1, a2, a3, a4, b1, b2, b3, Option.bind_some, s1]
      unfold opsOne negI
      by_cases e1 : s.1 = 1
      · simp only [e1, show ((1 : Int) == 1) = true from rfl, cond_true]; simp
      by_cases e3 : s.1 = 3
      · simp only [e3, show ((3 : Int) == 1) = false from rfl, show ((3 : Int) == 2) = false from rfl, show ((3 : Int) == 3) = true from rfl, cond_true, cond_false]; simp
      by_cases e2 : s.1 = 2
      · simp only [e2, show ((2 : Int) == 1) = false from rfl, show ((2 : Int) == 2) = true from rfl, show ((2 : Int) == 3) = false from rfl, cond_true, cond_false]; simp
      rw [show (s.1 == 1) = false by simp [e1], show (s.1 == 2) = false by simp [e2], show (s.1 == 3) = false by simp [e3]]
      simp only [cond_false]
      by_cases e5 : s.1 = 5
      · simp only [e5, show ((5 : Int) == 4) = false from rfl, show ((5 : Int) == 5) = true from rfl, cond_true, cond_false]
      by_cases e4 : s.1 = 4
      · simp only [e4, show ((4 : Int) == 4) = true from rfl, show ((4 : Int) == 5) = false from rfl, cond_true, cond_false]; simp
      rw [show (s.1 == 4) = false by simp [e4], show (s.1 == 5) = false by simp [e5]]
      simp only [cond_false]
      by_cases e6 : s.1 = 6
      · simp only [e6, show ((6 : Int) == 6) = true from rfl, cond_true]
      by_cases e7 : s.1 = 7
      · simp only [e7, show ((7 : Int) == 6) = false from rfl, show ((7 : Int) == 7) = true from rfl, cond_true, cond_false]
      by_cases e8 : s.1 = 8
      · simp only [e8, show ((8 : Int) == 6) = false from rfl, show ((8 : Int) == 7) = false from rfl, show ((8 : Int) == 8) = true from rfl, cond_true, cond_false]
      rw [show (s.1 == 6) = false by simp [e6], show (s.1 == 7) = false by simp [e7], show (s.1 == 8) = false by simp [e8]]
      simp) (fun acc _ => by
    unfold step_Ops.l1
    simp only [dec_f (show ¬ (l.length : Int) < (l.length : Int) by omega), cond_false])
  rw [show (((0 : Nat) : Int)) = 0 from rfl] at this
  rw [this, walk_gather, List.nil_append]; rfl
theorem opsOf_len (s : Stp) : (opsOf s).length ≤ 2 * s.2.2.1.length := by
  unfold opsOf
  generalize s.2.2.1 = l
  induction l with
  | nil => simp
  | cons x l ih =>
    have := opsItem_len s x
    simp only [List.flatMap_cons, List.length_append, List.length_cons]; omega

theorem ncost2 : rec_Cost 2 = some 17 := by kernel_rfl
theorem ncost3 : rec_Cost 3 = some 22 := by kernel_rfl
theorem ncost4 : rec_Cost 4 = some 11 := by kernel_rfl
theorem ncost5 : rec_Cost 5 = some 11 := by kernel_rfl
theorem ncost6 : rec_Cost 6 = some 22 := by kernel_rfl
theorem ncost7 : rec_Cost 7 = some 11 := by kernel_rfl
theorem nrcost2 : pledgeref14_Cost 2 = some 17 := by kernel_rfl
theorem nrcost3 : pledgeref14_Cost 3 = some 22 := by kernel_rfl
theorem nrcost4 : pledgeref14_Cost 4 = some 11 := by kernel_rfl
theorem nrcost5 : pledgeref14_Cost 5 = some 11 := by kernel_rfl
theorem nrcost6 : pledgeref14_Cost 6 = some 22 := by kernel_rfl
theorem nrcost7 : pledgeref14_Cost 7 = some 11 := by kernel_rfl
theorem cost89 : ∃ a b, rec_Cost 8 = some a ∧ pledgeref14_Cost 8 = some a ∧ rec_Cost 9 = some b ∧ pledgeref14_Cost 9 = some b ∧ 0 ≤ a ∧ a < 1000 ∧ 0 ≤ b ∧ b < 1000 := by
  refine ⟨11, 12, ?_, ?_, ?_, ?_, by omega, by omega, by omega, by omega⟩ <;> (show _ = _; kernel_rfl)
def passV (s : Stp) : Int := 17 + (opsOf s).length * 22 + 11
def failV (s : Stp) : Int := 17 + (opsOf s).length * 22 + 11 + (opsOf s).length * 22 + 11
theorem pass_val (s : Stp) (hl : s.2.2.1.length < 1000) : need_Pass s = some (passV s) ∧ pledgeref21_Pass s = some (passV s) ∧ need_Fail s = some (failV s) ∧ pledgeref21_Fail s = some (failV s) ∧ 0 ≤ passV s ∧ passV s < 100000 ∧ 0 ≤ failV s ∧ failV s < 200000 := by
  have ho := opsOf_len s
  have e : ∀ n : Int, 0 ≤ n → n < 1000000 → IntKind.i64.wrap n = n := fun n a b => wrap_i64 (by omega) (by omega)
  unfold need_Pass need_Fail need_adds pledgeref21_Pass pledgeref21_Fail
  simp only [ops_val s hl, refOps_val s hl, ncost2, ncost3, ncost4, ncost5, ncost6, ncost7, nrcost2, nrcost3, nrcost4, nrcost5, nrcost6, nrcost7, Option.bind_some]
  rw [e _ (by omega) (by omega : ((opsOf s).length : Int) * 22 < 1000000), e _ (by omega) (by omega : (17 : Int) + (opsOf s).length * 22 < 1000000), e _ (by omega) (by omega : (17 : Int) + (opsOf s).length * 22 + 11 < 1000000),
    e _ (by omega) (by omega : (17 : Int) + (opsOf s).length * 22 + 11 + (opsOf s).length * 22 < 1000000), e _ (by omega) (by omega : (17 : Int) + (opsOf s).length * 22 + 11 + (opsOf s).length * 22 + 11 < 1000000)]
  unfold passV failV
  exact ⟨rfl, rfl, rfl, rfl, by omega, by omega, by omega, by omega⟩

def passesV : List Stp → Int | [] => 0 | s :: l => passV s + passesV l
def attV : List Stp → Int → Int | [], m => m | s :: l, m => attV l (if failV s > m then failV s else m)
theorem passesV_le : ∀ {l : List Stp}, (∀ s ∈ l, 0 ≤ passV s ∧ passV s < 100000) → 0 ≤ passesV l ∧ passesV l ≤ 100000 * (l.length : Int)
  | [], _ => by simp [passesV]
  | s :: l, h => by
    have h1 := h s (by simp)
    have h2 := passesV_le (l := l) fun s hs => h s (by simp [hs])
    simp only [passesV, List.length_cons]; omega
theorem attV_le : ∀ {l : List Stp} {m : Int}, 0 ≤ m → m < 200000 → (∀ s ∈ l, 0 ≤ failV s ∧ failV s < 200000) → 0 ≤ attV l m ∧ attV l m < 200000
  | [], m, h1, h2, _ => ⟨h1, h2⟩
  | s :: l, m, h1, h2, h => by
    have h3 := h s (by simp)
    refine attV_le (l := l) ?_ ?_ fun s hs => h s (by simp [hs])
    · split <;> omega
    · split <;> omega

/-- What is known of steps that may be. -/
structure Mild (l : List Stp) : Prop where
  len : l.length ≤ 5
  items : ∀ s ∈ l, s.2.2.1.length ≤ 3
theorem Mild.of {l : List Stp} (h : Mild l) : ∀ s ∈ l, need_Pass s = some (passV s) ∧ pledgeref21_Pass s = some (passV s) ∧ need_Fail s = some (failV s) ∧ pledgeref21_Fail s = some (failV s) ∧ 0 ≤ passV s ∧ passV s < 100000 ∧ 0 ≤ failV s ∧ failV s < 200000 := fun s hs => pass_val s (by have := h.items s hs; omega)

theorem walk_pass (l : List Stp) : ∀ (k : List Stp) (i : Nat) (a : Int), walkL (X := Int) (fun _ s a => .inl (a + passV s)) (fun a => a) i k a = a + passesV k
  | [], _, a => by simp [walkL, passesV]
  | s :: k, i, a => by simp only [walkL, walk_pass l k (i + 1), passesV]; omega
theorem walk_att : ∀ (k : List Stp) (i : Nat) (a : Int), walkL (X := Int) (fun _ s a => .inl (if failV s > a then failV s else a)) (fun a => a) i k a = attV k a
  | [], _, a => rfl
  | s :: k, i, a => by simp only [walkL, walk_att k (i + 1), attV]

theorem passes_val (l : List Stp) (h : Mild l) : need_passes l = some (passesV l) := by
  have hl := h.len
  unfold need_passes
  have := loop_walk (step := need_passes.l1) l (fun i (a : Int) => (a, (l, ((l.length : Int), (i : Int))))) (fun _ s a => .inl (a + passV s)) (fun a => a) (fun i a => 0 ≤ a ∧ a ≤ 100000 * i) 0 (by omega) (by omega) (fun i y a hx hi => by
    have hi2 := get_lt hx
    obtain ⟨p1, p2, p3, p4, p5, p6, p7, p8⟩ := h.of y (get_mem hx)
    refine ⟨?_, fun _ h => by cases h; omega⟩
    unfold need_passes.l1
    simp only [dec_t (show (i : Int) < (l.length : Int) by omega), cond_true]
    rw [nthK_get hx, p1, Option.bind_some, succ_i64 (by omega), wrap_i64 (by omega) (by omega)]) (fun a _ => by
    unfold need_passes.l1
    simp only [dec_f (show ¬ (l.length : Int) < (l.length : Int) by omega), cond_false])
  rw [show (((0 : Nat) : Int)) = 0 from rfl] at this
  rw [this, walk_pass l, Option.bind_some]
  simp

theorem att_val (p : Prg) (hf : Few p) (h : Mild (stepsV p)) : need_Attempt p = some (attV (stepsV p) 0) ∧ pledgeref21_Attempt p = some (attV (stepsV p) 0) := by
  have hl := h.len
  unfold need_Attempt pledgeref21_Attempt
  rw [steps_val p hf, refSteps_val p hf]
  simp only [Option.bind_some]
  generalize stepsV p = l at *
  have h1 := loop_walk (step := need_Attempt.l1) l (fun i (a : Int) => (a, (l, ((l.length : Int), (i : Int))))) (fun _ s a => .inl (if failV s > a then failV s else a)) (fun a => a) (fun i a => True) 0 (by omega) trivial (fun i y a hx hi => by
    have hi2 := get_lt hx
    obtain ⟨p1, p2, p3, p4, p5, p6, p7, p8⟩ := h.of y (get_mem hx)
    refine ⟨?_, fun _ h => trivial⟩
    unfold need_Attempt.l1
    simp only [dec_t (show (i : Int) < (l.length : Int) by omega), cond_true]
    rw [nthK_get hx, p3, Option.bind_some, succ_i64 (by omega)]) (fun a _ => by
    unfold need_Attempt.l1
    simp only [dec_f (show ¬ (l.length : Int) < (l.length : Int) by omega), cond_false])
  have h2 := loop_walk (step := pledgeref21_Attempt.l1) l (fun i (a : Int) => (l, (a, (i : Int)))) (fun _ s a => .inl (if failV s > a then failV s else a)) (fun a => a) (fun i a => True) 0 (by omega) trivial (fun i y a hx hi => by
    have hi2 := get_lt hx
    obtain ⟨p1, p2, p3, p4, p5, p6, p7, p8⟩ := h.of y (get_mem hx)
    refine ⟨?_, fun _ h => trivial⟩
    unfold pledgeref21_Attempt.l1
    simp only [dec_t (show (i : Int) < (l.length : Int) by omega), cond_true]
    rw [nthK_get hx, nthK_get hx, p4, Option.bind_some, succ_i64 (by omega)]
    by_cases hc : failV y > a
    · simp only [dec_t hc, cond_true, Option.bind_some, if_pos hc]
    · simp only [dec_f hc, cond_false, if_neg hc]) (fun a _ => by
    unfold pledgeref21_Attempt.l1
    simp only [dec_f (show ¬ (l.length : Int) < (l.length : Int) by omega), cond_false])
  rw [show (((0 : Nat) : Int)) = 0 from rfl] at h1 h2
  rw [h1, h2, walk_att]
  exact ⟨rfl, rfl⟩

theorem passesFrom (l : List Stp) (h : Mild l) (a b : Nat) (hab : a ≤ b) (hb : b ≤ l.length) : iterL pledgeref21_passes.l1 loopN ((b : Int), (l, (0, (a : Int)))) = some (passesV ((l.take b).drop a)) := by
  have hl := h.len
  have hk : ((l.take b).drop a).length = b - a := by rw [List.length_drop, List.length_take]; omega
  have hget : ∀ (i : Nat) y, ((l.take b).drop a)[i]? = some y → l[a + i]? = some y := fun i y hy => by
    rw [List.getElem?_drop, List.getElem?_take] at hy
    split at hy
    · exact hy
    · cases hy
  generalize (l.take b).drop a = k at *
  have := loop_walk (step := pledgeref21_passes.l1) k (fun i (acc : Int) => ((b : Int), (l, (acc, ((a + i : Nat) : Int))))) (fun _ s acc => .inl (acc + passV s)) (fun acc => acc) (fun i acc => 0 ≤ acc ∧ acc ≤ 100000 * i) 0 (by omega) (by omega) (fun i y acc hx hi => by
    have hi2 := get_lt hx
    have hx' := hget i y hx
    obtain ⟨p1, p2, p3, p4, p5, p6, p7, p8⟩ := h.of y (get_mem hx')
    refine ⟨?_, fun _ h => by cases h; omega⟩
    unfold pledgeref21_passes.l1
    simp only [dec_t (show ((a + i : Nat) : Int) < (b : Int) by omega), cond_true]
    rw [nthK_get hx', p2, Option.bind_some, succ_i64 (by omega), wrap_i64 (by omega) (by omega)]
    rfl) (fun acc _ => by
    unfold pledgeref21_passes.l1
    simp only [dec_f (show ¬ ((a + k.length : Nat) : Int) < (b : Int) by omega), cond_false])
  rw [show ((a + 0 : Nat) : Int) = (a : Int) from rfl] at this
  rw [this, walk_pass l]
  simp
theorem refPasses_val (p : Prg) (hf : Few p) (h : Mild (stepsV p)) (a b : Nat) (hab : a ≤ b) (hb : b ≤ (stepsV p).length) : pledgeref21_passes p (a : Int) (b : Int) = some (passesV (((stepsV p).take b).drop a)) := by
  unfold pledgeref21_passes
  rw [refSteps_val p hf, Option.bind_some, passesFrom _ h a b hab hb]; rfl

def keptV (x : Int) : Int := if 4 < (if 0 > x then 0 else x) then 4 else if 0 > x then 0 else x
theorem kept_range (x : Int) : 0 ≤ keptV x ∧ keptV x ≤ 4 := by unfold keptV; split <;> split <;> omega
theorem kept_val (x : Int) : pledgeref21_kept x = some (keptV x) := by
  unfold pledgeref21_kept keptV
  by_cases h1 : x < 0
  · rw [dec_t h1, if_pos (show 0 > x by omega)]; rfl
  · rw [dec_f h1, if_neg (show ¬ 0 > x by omega)]
    by_cases h2 : x > 4
    · rw [dec_t h2, if_pos (show 4 < x by omega)]; rfl
    · rw [dec_f h2, if_neg (show ¬ 4 < x by omega)]; rfl

theorem Mild.take {l : List Stp} (h : Mild l) (a b : Nat) : Mild ((l.take b).drop a) :=
  ⟨by have := h.len; rw [List.length_drop, List.length_take]; omega, fun s hs => h.items s (List.mem_of_mem_take (List.mem_of_mem_drop hs))⟩

theorem sum5 (p1 m a8 p2 a9 : Int) (h1 : 0 ≤ p1 ∧ p1 ≤ 500000) (h2 : 0 ≤ m ∧ m ≤ 1000000) (h3 : 0 ≤ a8 ∧ a8 < 1000) (h4 : 0 ≤ p2 ∧ p2 ≤ 500000) (h5 : 0 ≤ a9 ∧ a9 < 1000) :
    0 ≤ IntKind.i64.wrap ((IntKind.i64.wrap ((IntKind.i64.wrap ((IntKind.i64.wrap (p1 + (IntKind.i64.wrap m))) + a8)) + p2)) + a9) ∧ IntKind.i64.wrap ((IntKind.i64.wrap ((IntKind.i64.wrap ((IntKind.i64.wrap (p1 + (IntKind.i64.wrap m))) + a8)) + p2)) + a9) < 10000000 := by
  have e1 : IntKind.i64.wrap m = m := wrap_i64 (by omega) (by omega)
  have e2 : IntKind.i64.wrap (p1 + m) = p1 + m := wrap_i64 (by omega) (by omega)
  have e3 : IntKind.i64.wrap (p1 + m + a8) = p1 + m + a8 := wrap_i64 (by omega) (by omega)
  have e4 : IntKind.i64.wrap (p1 + m + a8 + p2) = p1 + m + a8 + p2 := wrap_i64 (by omega) (by omega)
  have e5 : IntKind.i64.wrap (p1 + m + a8 + p2 + a9) = p1 + m + a8 + p2 + a9 := wrap_i64 (by omega) (by omega)
  rw [e1, e2, e3, e4, e5]; omega

theorem rest_both (c : Crs) (x : Int) (hc : Few c.2.1) (h : Mild (stepsV c.2.1)) (ht : c.2.2.2.2.1 < 9223372036854775808) : ∃ r, need_Rest c x = some r ∧ pledgeref21_Rest c x = some r ∧ 0 ≤ r ∧ r < 10000000 := by
  obtain ⟨a8, a9, c1, c2, c3, c4, c5, c6, c7, c8⟩ := cost89
  have hl := h.len
  have hk := kept_range x
  obtain ⟨at1, at2⟩ := att_val c.2.1 hc h
  have ha := attV_le (l := stepsV c.2.1) (m := 0) (by omega) (by omega) fun s hs => ⟨(h.of s hs).2.2.2.2.2.2.1, (h.of s hs).2.2.2.2.2.2.2⟩
  unfold need_Rest pledgeref21_Rest
  rw [goodC_val c hc, refGoodC_val c hc, steps_val _ hc, refSteps_val _ hc]
  simp only [Option.bind_some]
  cases hgc : goodC c with
  | false => exact ⟨0, rfl, rfl, by omega, by omega⟩
  | true =>
    have hgd : 0 ≤ c.2.2.2.1 ∧ c.2.2.2.1 ≤ ((stepsV c.2.1).length : Int) ∧ 0 ≤ c.2.2.2.2.1 := by
      unfold goodC at hgc
      simp only [Bool.and_eq_true, decide_eq_true_eq] at hgc
      omega
    have e : c.2.2.2.1 = ((c.2.2.2.1.toNat : Nat) : Int) := by omega
    have hchk : (decide (0 ≤ c.2.2.2.1) && decide (c.2.2.2.1 ≤ ((stepsV c.2.1).length : Int))) = true := by simp; omega
    have bnd : ∀ a b, 0 ≤ passesV (((stepsV c.2.1).take b).drop a) ∧ passesV (((stepsV c.2.1).take b).drop a) ≤ 500000 := fun a b => by
      have hm := h.take a b
      have := passesV_le (l := ((stepsV c.2.1).take b).drop a) fun s hs => ⟨(hm.of s hs).2.2.2.2.1, (hm.of s hs).2.2.2.2.2.1⟩
      have := hm.len
      omega
    simp only [Bool.not_true, cond_false]
    cases c.2.2.1 with
    | true =>
      simp only [cond_true]
      have hp := refPasses_val c.2.1 hc h 0 c.2.2.2.1.toNat (by omega) (by omega)
      rw [← e] at hp
      rw [chk_true hchk, passes_val _ (h.take 0 _), show (0 : Int) = ((0 : Nat) : Int) from rfl, hp, c3, c4]
      have := bnd 0 c.2.2.2.1.toNat
      exact ⟨_, rfl, rfl, by rw [wrap_i64 (by omega) (by omega)]; omega, by rw [wrap_i64 (by omega) (by omega)]; omega⟩
    | false =>
      simp only [cond_false]
      have hp1 := refPasses_val c.2.1 hc h c.2.2.2.1.toNat (stepsV c.2.1).length (by omega) (by omega)
      rw [← e] at hp1
      have hp2 := refPasses_val c.2.1 hc h 0 (stepsV c.2.1).length (by omega) (by omega)
      have htk : ((stepsV c.2.1).take (stepsV c.2.1).length).drop 0 = stepsV c.2.1 := by simp
      rw [htk] at hp2
      have b1 := bnd c.2.2.2.1.toNat (stepsV c.2.1).length
      have b2 := bnd 0 (stepsV c.2.1).length
      rw [htk] at b2
      rw [chk_true hchk, passes_val _ (h.take _ _), at1, c1, passes_val _ h, c3, kept_val]
      have w1 : IntKind.i64.wrap (keptV x + 1) = keptV x + 1 := wrap_i64 (by omega) (by omega)
      have w2 : IntKind.i64.wrap (keptV x + 1 - c.2.2.2.2.1) = keptV x + 1 - c.2.2.2.2.1 := wrap_i64 (by omega) (by omega)
      have hof : (if 0 > keptV x + 1 - c.2.2.2.2.1 then 0 else keptV x + 1 - c.2.2.2.2.1) = if c.2.2.2.2.1 ≤ keptV x then keptV x + 1 - c.2.2.2.2.1 else 0 := by
        split <;> split <;> omega
      have hneed : (if 4 < (if 0 > x then 0 else x) then 4 else if 0 > x then 0 else x) = keptV x := rfl
      simp only [Option.bind_some, hneed, w1, w2, hof]
      have hmul : ∀ o m : Int, 0 ≤ o → o ≤ 5 → 0 ≤ m → m < 200000 → 0 ≤ o * m ∧ o * m ≤ 1000000 := fun o m h1 h2 h3 h4 => ⟨Int.mul_nonneg h1 h3, by
        have := Int.mul_le_mul h2 (show m ≤ 200000 by omega) h3 (by omega); omega⟩
      by_cases hq : c.2.2.2.2.1 ≤ keptV x
      · have hm := hmul (keptV x + 1 - c.2.2.2.2.1) (attV (stepsV c.2.1) 0) (by omega) (by omega) ha.1 ha.2
        rw [if_pos hq, dec_t hq]
        simp only [cond_true, Option.bind_some]
        rw [hp1, at2, c2, show (0 : Int) = ((0 : Nat) : Int) from rfl, hp2, c4]
        have := sum5 _ _ a8 _ a9 b1 hm ⟨c5, c6⟩ b2 ⟨c7, c8⟩
        exact ⟨_, rfl, rfl, this.1, this.2⟩
      · rw [if_neg hq, dec_f hq]
        simp only [cond_false, Option.bind_some]
        have hm := hmul 0 (attV (stepsV c.2.1) 0) (by omega) (by omega) ha.1 ha.2
        have hp2' : pledgeref21_passes c.2.1 0 ((stepsV c.2.1).length : Int) = some (passesV (stepsV c.2.1)) := hp2
        rw [hp1, at2, c2, hp2', c4]
        have := sum5 _ _ a8 _ a9 b1 hm ⟨c5, c6⟩ b2 ⟨c7, c8⟩
        exact ⟨_, rfl, rfl, this.1, this.2⟩

theorem hold_both (c : Crs) (t : Int × Int × Int × Bool × Bool × List OpE × Int × Int × Unit) (x : Int) (hc : Few c.2.1) (h : Mild (stepsV c.2.1)) (ht : c.2.2.2.2.1 < 9223372036854775808) (hs : 0 ≤ t.2.2.2.2.2.2.2.1 ∧ t.2.2.2.2.2.2.2.1 ≤ 1048576) : ∃ r, need_Hold c t x = some r ∧ pledgeref21_Hold c t x = some r ∧ 0 ≤ r ∧ r < 20000000 := by
  obtain ⟨r, r1, r2, r3, r4⟩ := rest_both c x hc h ht
  obtain ⟨at1, at2⟩ := att_val c.2.1 hc h
  have ha := attV_le (l := stepsV c.2.1) (m := 0) (by omega) (by omega) fun s hs => ⟨(h.of s hs).2.2.2.2.2.2.1, (h.of s hs).2.2.2.2.2.2.2⟩
  unfold need_Hold pledgeref21_Hold
  rw [goodC_val c hc, refGoodC_val c hc, r1, r2, at1, at2]
  simp only [Option.bind_some]
  generalize attV (stepsV c.2.1) 0 = a at *
  generalize t.2.2.2.2.2.2.2.1 = z at *
  have e1 : IntKind.i64.wrap (r + a) = r + a := wrap_i64 (by omega) (by omega)
  have e2 : IntKind.i64.wrap (r + a + a) = r + a + a := wrap_i64 (by omega) (by omega)
  have e3 : IntKind.i64.wrap (r + a - z) = r + a - z := wrap_i64 (by omega) (by omega)
  have e4 : IntKind.i64.wrap (r + a + a - z) = r + a + a - z := wrap_i64 (by omega) (by omega)
  have k1 : ∃ q, (some (if 0 > r + a - z then 0 else r + a - z) : Option Int) = some q ∧ (bif decide (z ≥ r + a) then some 0 else some (r + a - z) : Option Int) = some q ∧ 0 ≤ q ∧ q < 20000000 := by
    by_cases hz : z ≥ r + a
    · exact ⟨0, by congr 1; split <;> omega, by rw [dec_t hz]; rfl, by omega, by omega⟩
    · exact ⟨r + a - z, by congr 1; split <;> omega, by rw [dec_f hz]; rfl, by omega, by omega⟩
  have k2 : ∃ q, (some (if 0 > r + a + a - z then 0 else r + a + a - z) : Option Int) = some q ∧ (bif decide (z ≥ r + a + a) then some 0 else some (r + a + a - z) : Option Int) = some q ∧ 0 ≤ q ∧ q < 20000000 := by
    by_cases hz : z ≥ r + a + a
    · exact ⟨0, by congr 1; split <;> omega, by rw [dec_t hz]; rfl, by omega, by omega⟩
    · exact ⟨r + a + a - z, by congr 1; split <;> omega, by rw [dec_f hz]; rfl, by omega, by omega⟩
  simp only [e1, e2, e3, e4]
  cases goodC c with
  | false => exact ⟨0, rfl, rfl, by omega, by omega⟩
  | true =>
    simp only [Bool.not_true, cond_false]
    cases c.2.2.2.2.2.1 == 0 with
    | true => exact ⟨_, rfl, rfl, by omega, by omega⟩
    | false =>
      simp only [cond_false]
      cases t.2.2.2.2.1 with
      | false => exact k1
      | true =>
        simp only [cond_true]
        cases c.2.2.1 with
        | true => exact k1
        | false => exact k2

abbrev Wr := (Int × Unit) × Unit × Int × Unit
def wr0 : Wr := ((0, ()), ((), (512, ())))
abbrev WrOut := Unit × Wr × Unit × List Int × Unit
def wOut (b : List Int) : WrOut := ((), (wr0, ((), (b, ()))))

theorem raw_val (x b : List Int) (h : b.length + x.length ≤ 512) : wire_Writer_Raw () x wr0 b = some (wOut (b ++ x)) := by
  have e1 : IntKind.i64.wrap (512 - (b.length : Int)) = 512 - (b.length : Int) := wrap_i64 (by omega) (by omega)
  show (bif !((0 : Int) == 0) then some ((), (((0, ()), ((), (512, ()))), ((), (b, ())))) else bif decide ((x.length : Int) > (IntKind.i64.wrap (512 - (b.length : Int)))) then _ else room (b.length + x.length) (some ((), (((0, ()), ((), (512, ()))), ((), (b ++ x, ())))))) = _
  rw [e1, dec_f (show ¬ (x.length : Int) > 512 - (b.length : Int) by omega), room_ok (by omega)]
  rfl

theorem num_val (x : Int) (n : Nat) (b : List Int) (h1 : 1 ≤ n) (h8 : n ≤ 8) (hx : n < 8 → Int.fdiv x (2 ^ (min (IntKind.i64.wrap (8 * (n : Int)) : Int).toNat 64)) = 0) (hb : b.length + n ≤ 512) : ∃ y : List Int, y.length = n ∧ wire_Writer_Num () x (n : Int) wr0 b = some (wOut (b ++ y)) := by
  unfold wire_Writer_Num
  have hchk : decide (0 ≤ (IntKind.i64.wrap (8 * (n : Int)))) = true := by rw [wrap_i64 (by omega) (by omega)]; simp; omega
  have hpre : (bif decide ((n : Int) < 1) then some ((((), (x, ((n : Int), true))), ((wr0.1, ((), wr0.2.2)), (b, ())))) else bif decide ((n : Int) > 8) then some ((((), (x, ((n : Int), true))), ((wr0.1, ((), wr0.2.2)), (b, ())))) else bif decide ((n : Int) < 8) then chk (decide (0 ≤ (IntKind.i64.wrap (8 * (n : Int))))) (some ((((), (x, ((n : Int), (Int.fdiv x (2 ^ (min (IntKind.i64.wrap (8 * (n : Int)) : Int).toNat 64)) : Int) != 0))), ((wr0.1, ((), wr0.2.2)), (b, ()))))) else some ((((), (x, ((n : Int), false))), ((wr0.1, ((), wr0.2.2)), (b, ())))) : Option ((Unit × Int × Int × Bool) × Wr × List Int × Unit)) = some ((((), (x, ((n : Int), false))), (wr0, (b, ())))) := by
    rw [dec_f (show ¬ (n : Int) < 1 by omega), dec_f (show ¬ (n : Int) > 8 by omega)]
    by_cases h : n < 8
    · rw [dec_t (show (n : Int) < 8 by omega), chk_true hchk, hx h]; rfl
    · rw [dec_f (show ¬ (n : Int) < 8 by omega)]; rfl
  have hpre' := congrArg (fun z => Option.bind z fun (y22 : (Unit × Int × Int × Bool) × Wr × List Int × Unit) => bif y22.1.2.2.2 then (wire_fault_wrong () 1 y22.2.1.1).bind fun r23 => some ((), ((r23.2.1, ((), y22.2.1.2.2)), ((), (y22.2.2.1, ())))) else (iterL wire_Writer_Num.l1 loopN (((), (y22.1.2.1, (y22.1.2.2.1, ((), (y22.1.2.2.1, 0))))), ((y22.2.1.1, ((), y22.2.1.2.2)), (y22.2.2.1, (List.replicate 8 0, ()))))).bind fun y26 => chk (decide (0 ≤ y26.1.2.1) && decide (y26.1.2.1 ≤ 8)) ((wire_Writer_Raw () ((y26.2.2.2.1.take (y26.1.2.1 : Int).toNat).drop 0) (y26.2.1.1, ((), y26.2.1.2.2)) y26.2.2.1).bind fun r27 => some ((), ((r27.2.1.1, ((), r27.2.1.2.2)), ((), (r27.2.2.2.1, ())))))) hpre
  have hl := loop_walk (step := wire_Writer_Num.l1) (List.range n) (fun i (arr : List Int) => (((), (x, ((n : Int), ((), ((n : Int), (i : Int)))))), (wr0, (b, (arr, ()))))) (fun i _ arr => .inl (arr.set i (IntKind.u8.wrap (Int.fdiv x (2 ^ (min (IntKind.i64.wrap (8 * (i : Int)) : Int).toNat 64)))))) (fun arr => (((), ((n : Int), ())), (wr0, (b, (arr, ()))))) (fun _ arr => arr.length = 8) (List.replicate 8 0) (by simp; omega) (by simp) (fun i y arr hy hi => by
    have hi2 := get_lt hy
    rw [List.length_range] at hi2
    refine ⟨?_, fun _ h => by cases h; rw [List.length_set]; exact hi⟩
    obtain ⟨z, hz⟩ : ∃ z, arr[i]? = some z := ⟨_, List.getElem?_eq_getElem (by omega)⟩
    unfold wire_Writer_Num.l1
    simp only [dec_t (show (i : Int) < (n : Int) by omega), cond_true]
    rw [chk_true (by rw [wrap_i64 (by omega) (by omega)]; simp; omega), chk_true (by simp; omega)]
    show natK (i : Int) (fun n24 => nthN arr n24 fun e25 => _) = _
    show nthN arr i (fun e25 => _) = _
    rw [nthN_get hz, succ_i64 (by omega)]) (fun arr _ => by
    unfold wire_Writer_Num.l1
    rw [List.length_range]
    simp only [dec_f (show ¬ (n : Int) < (n : Int) by omega), cond_false])
  have hend : ∀ (l : List Nat) (i : Nat) (arr : List Int), arr.length = 8 → ∃ arr' : List Int, arr'.length = 8 ∧ walkL (X := (Unit × Int × Unit) × Wr × List Int × List Int × Unit) (fun i (_ : Nat) (arr : List Int) => .inl (arr.set i (IntKind.u8.wrap (Int.fdiv x (2 ^ (min (IntKind.i64.wrap (8 * (i : Int)) : Int).toNat 64)))))) (fun arr => (((), ((n : Int), ())), (wr0, (b, (arr, ()))))) i l arr = (((), ((n : Int), ())), (wr0, (b, (arr', ())))) := by
    intro l
    induction l with
    | nil => intro i arr h; exact ⟨arr, h, rfl⟩
    | cons a l ih => intro i arr h; exact ih (i + 1) _ (by rw [List.length_set]; exact h)
  obtain ⟨arr', ha1, ha2⟩ := hend (List.range n) 0 (List.replicate 8 0) (by simp)
  rw [show (((0 : Nat) : Int)) = 0 from rfl, ha2] at hl
  refine ⟨(arr'.take n).drop 0, by simp; omega, ?_⟩
  refine hpre'.trans ?_
  show ((iterL wire_Writer_Num.l1 loopN (((), (x, ((n : Int), ((), ((n : Int), 0))))), (wr0, (b, (List.replicate 8 0, ()))))).bind _) = _
  rw [hl]
  show chk (decide (0 ≤ (n : Int)) && decide ((n : Int) ≤ 8)) ((wire_Writer_Raw () ((arr'.take (n : Int).toNat).drop 0) wr0 b).bind fun r27 => some ((), ((r27.2.1.1, ((), r27.2.1.2.2)), ((), (r27.2.2.2.1, ()))))) = _
  rw [chk_true (by simp; omega), Int.toNat_natCast, raw_val _ _ (by simp; omega)]
  rfl

theorem shift_zero (x : Int) (k : Nat) (h0 : 0 ≤ x) (h : x < 2 ^ k) : Int.fdiv x (2 ^ k) = 0 := by
  rw [Int.fdiv_eq_ediv_of_nonneg _ (Int.pow_nonneg (by omega))]
  exact Int.ediv_eq_zero_of_lt h0 h
theorem num1_val (x : Int) (b : List Int) (h0 : 0 ≤ x) (h : x < 256) (hb : b.length + 1 ≤ 512) : ∃ y : List Int, y.length = 1 ∧ wire_Writer_Num () x 1 wr0 b = some (wOut (b ++ y)) :=
  num_val x 1 b (by omega) (by omega) (fun _ => shift_zero x 8 h0 (by omega)) hb
theorem num4_val (x : Int) (b : List Int) (h0 : 0 ≤ x) (h : x < 4294967296) (hb : b.length + 4 ≤ 512) : ∃ y : List Int, y.length = 4 ∧ wire_Writer_Num () x 4 wr0 b = some (wOut (b ++ y)) :=
  num_val x 4 b (by omega) (by omega) (fun _ => shift_zero x 32 h0 (by omega)) hb
theorem int_val (x : Int) (b : List Int) (hb : b.length + 8 ≤ 512) : ∃ y : List Int, y.length = 8 ∧ wire_Writer_Int () x wr0 b = some (wOut (b ++ y)) := by
  obtain ⟨y, h1, h2⟩ := num_val (IntKind.u64.wrap x) 8 b (by omega) (by omega) (fun h => by omega) hb
  refine ⟨y, h1, ?_⟩
  unfold wire_Writer_Int
  have h2 : wire_Writer_Num () (IntKind.u64.wrap x) 8 (wr0.1, ((), wr0.2.2)) b = some (wOut (b ++ y)) := h2
  rw [h2]; rfl

theorem u64_of {x : Int} (h0 : 0 ≤ x) (h : x < 18446744073709551616) : IntKind.u64.wrap x = x := by
  show x % 18446744073709551616 = x
  omega

theorem putLines_val (l : List Ln) (b : List Int) (hw : ∀ x ∈ l, WfE kLine x) (hl : l.length < 256) (hb : b.length + 1 + 9 * l.length ≤ 512) : ∃ y : List Int, y.length = 1 + 9 * l.length ∧ prog_putLines () l wr0 b = some (wOut (b ++ y)) := by
  unfold prog_putLines
  obtain ⟨y0, a1, a2⟩ := num1_val (l.length : Int) b (by omega) (by omega) (by omega)
  have a2 : wire_Writer_Num () (IntKind.u64.wrap (l.length : Int)) 1 (wr0.1, ((), wr0.2.2)) b = some (wOut (b ++ y0)) := by rw [u64_of (by omega) (by omega)]; exact a2
  rw [a2]
  obtain ⟨z, hz1, hz2⟩ : ∃ z : List Int, z.length = b.length + 1 + 9 * l.length ∧ (∃ y, z = b ++ y) ∧ iterL prog_putLines.l1 loopN (((), (l, ((l.length : Int), 0))), (wr0, ((), (b ++ y0, ())))) = some ((), (wr0, ((), (z, ())))) := by
    have key : ∀ (k i : Nat) (acc : List Int) (n : Nat), i + k = l.length → k < n → (∃ y, acc = b ++ y) → acc.length = b.length + 1 + 9 * i → ∃ z : List Int, z.length = b.length + 1 + 9 * l.length ∧ (∃ y, z = b ++ y) ∧ iterL prog_putLines.l1 n (((), (l, ((l.length : Int), (i : Int)))), (wr0, ((), (acc, ())))) = some ((), (wr0, ((), (z, ())))) := by
      intro k
      induction k with
      | zero =>
        intro i acc n hi hn hy ha
        obtain ⟨m, rfl⟩ : ∃ m, n = m + 1 := ⟨n - 1, by omega⟩
        refine ⟨acc, by rw [ha]; omega, hy, iterL_done ?_⟩
        unfold prog_putLines.l1
        simp only [dec_f (show ¬ (i : Int) < (l.length : Int) by omega), cond_false]
      | succ k ih =>
        intro i acc n hi hn hy ha
        obtain ⟨m, rfl⟩ : ∃ m, n = m + 1 := ⟨n - 1, by omega⟩
        obtain ⟨e, he⟩ : ∃ e, l[i]? = some e := ⟨_, List.getElem?_eq_getElem (by omega)⟩
        have hwe := wf_u8 (hw e (get_mem he)).1
        obtain ⟨y1, b1, b2⟩ := num1_val e.1 acc (by omega) (by omega) (by omega)
        obtain ⟨y2, c1, c2⟩ := int_val e.2.1 (acc ++ y1) (by rw [List.length_append]; omega)
        have b2 : wire_Writer_Num () (IntKind.u64.wrap e.1) 1 (wr0.1, ((), wr0.2.2)) acc = some (wOut (acc ++ y1)) := by rw [u64_of (by omega) (by omega)]; exact b2
        have hs : prog_putLines.l1 (((), (l, ((l.length : Int), (i : Int)))), (wr0, ((), (acc, ())))) = some (.inl (((), (l, ((l.length : Int), ((i + 1 : Nat) : Int)))), (wr0, ((), (acc ++ y1 ++ y2, ()))))) := by
          unfold prog_putLines.l1
          simp only [dec_t (show (i : Int) < (l.length : Int) by omega), cond_true]
          rw [nthK_get he, b2]
          show ((wire_Writer_Int () e.2.1 wr0 (acc ++ y1)).bind _) = _
          rw [c2, succ_i64 (by omega)]
          rfl
        rw [iterL_next hs]
        obtain ⟨y, rfl⟩ := hy
        exact ih (i + 1) _ m (by omega) (by omega) ⟨y ++ y1 ++ y2, by simp⟩ (by simp only [List.length_append] at ha ⊢; omega)
    exact key l.length 0 (b ++ y0) loopN (by omega) (by rw [loopN_eq]; omega) ⟨y0, rfl⟩ (by rw [List.length_append]; omega)
  obtain ⟨⟨y, rfl⟩, hz3⟩ := hz2
  refine ⟨y, by rw [List.length_append] at hz1; omega, ?_⟩
  show ((iterL prog_putLines.l1 loopN (((), (l, ((l.length : Int), 0))), (wr0, ((), (b ++ y0, ()))))).bind _) = _
  rw [hz3]; rfl

theorem takes_val (p : Prg) (l : List Tk) (b0 : List Int) (hw : ∀ x ∈ l, WfE kTake x) (hb : b0.length + 14 * l.length ≤ 512) : ∃ y : List Int, y.length = 14 * l.length ∧ iterL prog_Encode.l1 loopN (((), ((), (l, ((l.length : Int), 0)))), (p, (wr0, (b0, ())))) = some (((), ()), (p, (wr0, (b0 ++ y, ())))) := by
  have key : ∀ (k i : Nat) (y : List Int) (n : Nat), i + k = l.length → k < n → y.length = 14 * i → ∃ z : List Int, z.length = 14 * l.length ∧ iterL prog_Encode.l1 n (((), ((), (l, ((l.length : Int), (i : Int))))), (p, (wr0, (b0 ++ y, ())))) = some (((), ()), (p, (wr0, (b0 ++ z, ())))) := by
    intro k
    induction k with
    | zero =>
      intro i y n hi hn hy
      obtain ⟨m, rfl⟩ : ∃ m, n = m + 1 := ⟨n - 1, by omega⟩
      refine ⟨y, by rw [hy]; omega, iterL_done ?_⟩
      unfold prog_Encode.l1
      simp only [dec_f (show ¬ (i : Int) < (l.length : Int) by omega), cond_false]
    | succ k ih =>
      intro i y n hi hn hy
      obtain ⟨m, rfl⟩ : ∃ m, n = m + 1 := ⟨n - 1, by omega⟩
      obtain ⟨e, he⟩ : ∃ e, l[i]? = some e := ⟨_, List.getElem?_eq_getElem (by omega)⟩
      have hwe := wf_u32 (hw e (get_mem he)).1
      obtain ⟨y1, b1, b2⟩ := num4_val e.1 (b0 ++ y) (by omega) (by omega) (by rw [List.length_append]; omega)
      have b2 : wire_Writer_Num () (IntKind.u64.wrap e.1) 4 (wr0.1, ((), wr0.2.2)) (b0 ++ y) = some (wOut (b0 ++ y ++ y1)) := by rw [u64_of (by omega) (by omega)]; exact b2
      have c2 := raw_val [e.2.1, e.2.2.1] (b0 ++ y ++ y1) (by simp only [List.length_append, List.length_cons, List.length_nil]; omega)
      obtain ⟨y3, d1, d2⟩ := int_val e.2.2.2.1 (b0 ++ y ++ y1 ++ [e.2.1, e.2.2.1]) (by simp only [List.length_append, List.length_cons, List.length_nil]; omega)
      have hs : prog_Encode.l1 (((), ((), (l, ((l.length : Int), (i : Int))))), (p, (wr0, (b0 ++ y, ())))) = some (.inl (((), ((), (l, ((l.length : Int), ((i + 1 : Nat) : Int))))), (p, (wr0, (b0 ++ (y ++ y1 ++ [e.2.1, e.2.2.1] ++ y3), ()))))) := by
        unfold prog_Encode.l1
        simp only [dec_t (show (i : Int) < (l.length : Int) by omega), cond_true]
        rw [nthK_get he, b2]
        show ((wire_Writer_Raw () [e.2.1, e.2.2.1] wr0 (b0 ++ y ++ y1)).bind _) = _
        rw [c2]
        show ((wire_Writer_Int () e.2.2.2.1 wr0 (b0 ++ y ++ y1 ++ [e.2.1, e.2.2.1])).bind _) = _
        rw [d2, succ_i64 (by omega)]
        simp only [List.append_assoc]
        rfl
      rw [iterL_next hs]
      exact ih (i + 1) _ m (by omega) (by omega) (by simp only [List.length_append, List.length_cons, List.length_nil]; omega)
  obtain ⟨z, h1, h2⟩ := key l.length 0 [] loopN (by omega) (by rw [loopN_eq]; omega) rfl
  rw [List.append_nil] at h2
  exact ⟨z, h1, h2⟩

theorem done_val (b : List Int) (hb : b.length ≤ 512) : wire_Writer_Done () wr0 b = some ((b, (0, ())), (wr0, (b, ()))) := by
  show room (0 + b.length) (some (([] ++ b, (0, ())), (wr0, (b, ())))) = _
  rw [room_ok (by omega)]; rfl

theorem encode_val (p : Prg) (hf : Few p) (hg : goodP 4 4 p = true) (hn : 20 + 9 * p.2.2.2.1.length + 14 * p.2.2.2.2.1.length + 9 * p.2.2.2.2.2.1.length ≤ 500) : ∃ y : List Int, y.length = 20 + 9 * p.2.2.2.1.length + 14 * p.2.2.2.2.1.length + 9 * p.2.2.2.2.2.1.length ∧ prog_Encode p = some (y, (0, ())) := by
  have l1 := hf.lines; have l2 := hf.takes; have l3 := hf.owes
  have w0 := wf_u8 hf.wf.1
  have w1 := wf_u32 hf.wf.2.1
  have w2 := wf_u8 hf.wf.2.2.1
  have u0 : IntKind.u64.wrap p.1 = p.1 := u64_of (by omega) (by omega)
  have u1 : IntKind.u64.wrap p.2.1 = p.2.1 := u64_of (by omega) (by omega)
  have u2 : IntKind.u64.wrap p.2.2.1 = p.2.2.1 := u64_of (by omega) (by omega)
  have u3 : IntKind.u64.wrap (p.2.2.2.2.1.length : Int) = (p.2.2.2.2.1.length : Int) := u64_of (by omega) (by omega)
  obtain ⟨y1, a1, e1⟩ := num1_val p.1 [] (by omega) (by omega) (by simp)
  obtain ⟨y2, a2, e2⟩ := num4_val p.2.1 ([] ++ y1) (by omega) (by omega) (by simp; omega)
  obtain ⟨y3, a3, e3⟩ := num1_val p.2.2.1 ([] ++ y1 ++ y2) (by omega) (by omega) (by simp; omega)
  obtain ⟨y4, a4, e4⟩ := putLines_val p.2.2.2.1 ([] ++ y1 ++ y2 ++ y3) hf.wf.2.2.2.1.2 (by omega) (by simp; omega)
  obtain ⟨y5, a5, e5⟩ := num1_val (p.2.2.2.2.1.length : Int) ([] ++ y1 ++ y2 ++ y3 ++ y4) (by omega) (by omega) (by simp; omega)
  obtain ⟨y6, a6, e6⟩ := takes_val p p.2.2.2.2.1 ([] ++ y1 ++ y2 ++ y3 ++ y4 ++ y5) hf.wf.2.2.2.2.1.2 (by simp; omega)
  obtain ⟨y7, a7, e7⟩ := putLines_val p.2.2.2.2.2.1 ([] ++ y1 ++ y2 ++ y3 ++ y4 ++ y5 ++ y6) hf.wf.2.2.2.2.2.1.2 (by omega) (by simp; omega)
  have e8 := raw_val [p.2.2.2.2.2.2.1, p.2.2.2.2.2.2.2.1, p.2.2.2.2.2.2.2.2.1] ([] ++ y1 ++ y2 ++ y3 ++ y4 ++ y5 ++ y6 ++ y7) (by simp; omega)
  obtain ⟨y9, a9, e9⟩ := int_val p.2.2.2.2.2.2.2.2.2.1 ([] ++ y1 ++ y2 ++ y3 ++ y4 ++ y5 ++ y6 ++ y7 ++ [p.2.2.2.2.2.2.1, p.2.2.2.2.2.2.2.1, p.2.2.2.2.2.2.2.2.1]) (by simp; omega)
  have e10 := done_val ([] ++ y1 ++ y2 ++ y3 ++ y4 ++ y5 ++ y6 ++ y7 ++ [p.2.2.2.2.2.2.1, p.2.2.2.2.2.2.2.1, p.2.2.2.2.2.2.2.2.1] ++ y9) (by simp; omega)
  refine ⟨[] ++ y1 ++ y2 ++ y3 ++ y4 ++ y5 ++ y6 ++ y7 ++ [p.2.2.2.2.2.2.1, p.2.2.2.2.2.2.2.1, p.2.2.2.2.2.2.2.2.1] ++ y9, by simp only [List.length_append, List.length_cons, List.length_nil]; omega, ?_⟩
  · unfold prog_Encode
    rw [progGood_val 4 4 p hf, hg, u0, u1, u2, u3]
    show ((wire_Writer_Num () p.1 1 wr0 []).bind _) = _
    rw [e1]
    show ((wire_Writer_Num () p.2.1 4 wr0 ([] ++ y1)).bind _) = _
    rw [e2]
    show ((wire_Writer_Num () p.2.2.1 1 wr0 ([] ++ y1 ++ y2)).bind _) = _
    rw [e3]
    show ((prog_putLines () p.2.2.2.1 wr0 ([] ++ y1 ++ y2 ++ y3)).bind _) = _
    rw [e4]
    show ((wire_Writer_Num () (p.2.2.2.2.1.length : Int) 1 wr0 ([] ++ y1 ++ y2 ++ y3 ++ y4)).bind _) = _
    rw [e5]
    show ((iterL prog_Encode.l1 loopN (((), ((), (p.2.2.2.2.1, ((p.2.2.2.2.1.length : Int), 0)))), (p, (wr0, ([] ++ y1 ++ y2 ++ y3 ++ y4 ++ y5, ()))))).bind _) = _
    rw [e6]
    show ((prog_putLines () p.2.2.2.2.2.1 wr0 ([] ++ y1 ++ y2 ++ y3 ++ y4 ++ y5 ++ y6)).bind _) = _
    rw [e7]
    show ((wire_Writer_Raw () [p.2.2.2.2.2.2.1, p.2.2.2.2.2.2.2.1, p.2.2.2.2.2.2.2.2.1] wr0 ([] ++ y1 ++ y2 ++ y3 ++ y4 ++ y5 ++ y6 ++ y7)).bind _) = _
    rw [e8]
    show ((wire_Writer_Int () p.2.2.2.2.2.2.2.2.2.1 wr0 ([] ++ y1 ++ y2 ++ y3 ++ y4 ++ y5 ++ y6 ++ y7 ++ [p.2.2.2.2.2.2.1, p.2.2.2.2.2.2.2.1, p.2.2.2.2.2.2.2.2.1])).bind _) = _
    rw [e9]
    show ((wire_Writer_Done () wr0 ([] ++ y1 ++ y2 ++ y3 ++ y4 ++ y5 ++ y6 ++ y7 ++ [p.2.2.2.2.2.2.1, p.2.2.2.2.2.2.2.1, p.2.2.2.2.2.2.2.2.1] ++ y9)).bind _) = _
    rw [e10]
    rfl

abbrev RcS := Int × Int × Int × Int × Bool × (Int × Int × Int × Unit) × Int × Int × Prg × Unit
def startR (p : Prg) : RcS := (1, (1, (0, (0, (false, ((0, (0, (0, ()))), (0, (0, (p, ())))))))))
theorem recEncode_eq (p : Prg) : rec_Encode (startR p) = ((rec_Good (startR p)).bind fun r18 => bif !r18 then some ([], (1, ())) else (prog_Encode p).bind fun r27 => (wire_Writer_Bytes () r27.1 wr0 [1, 1, 0, 0, 0]).bind fun r28 => (wire_Writer_Done () (r28.2.1.1, ((), r28.2.1.2.2)) r28.2.2.2.1).bind fun r29 => some (r29.1.1, (r29.1.2.1, ()))) := by kernel_rfl
theorem recEncode_val (p : Prg) (hf : Few p) (hg : goodP 4 4 p = true) (hr : rec_Good (startR p) = some true) (hn : 20 + 9 * p.2.2.2.1.length + 14 * p.2.2.2.2.1.length + 9 * p.2.2.2.2.2.1.length ≤ 500) :
    rec_Size (startR p) = some (6 + (7 + (20 + 9 * (p.2.2.2.1.length : Int) + 14 * (p.2.2.2.2.1.length : Int) + 9 * (p.2.2.2.2.2.1.length : Int)))) := by
  obtain ⟨y, h1, h2⟩ := encode_val p hf hg hn
  have e3 := raw_val ([IntKind.u8.wrap (y.length : Int), IntKind.u8.wrap (Int.fdiv (y.length : Int) (2 ^ 8))] ++ y) [1, 1, 0, 0, 0] (by simp only [List.length_append, List.length_cons, List.length_nil]; omega)
  have e4 := done_val ([1, 1, 0, 0, 0] ++ ([IntKind.u8.wrap (y.length : Int), IntKind.u8.wrap (Int.fdiv (y.length : Int) (2 ^ 8))] ++ y)) (by simp only [List.length_append, List.length_cons, List.length_nil]; omega)
  have hb : wire_Writer_Bytes () y wr0 [1, 1, 0, 0, 0] = some (wOut ([1, 1, 0, 0, 0] ++ ([IntKind.u8.wrap (y.length : Int), IntKind.u8.wrap (Int.fdiv (y.length : Int) (2 ^ 8))] ++ y))) := by
    unfold wire_Writer_Bytes
    rw [dec_f (show ¬ (y.length : Int) > 65535 by omega)]
    simp only [cond_false]
    rw [room_ok (by simp only [List.length_cons, List.length_nil]; omega)]
    exact (congrArg (fun z => Option.bind z fun (r29 : WrOut) => (some ((), ((r29.2.1.1, ((), r29.2.1.2.2)), ((), (r29.2.2.2.1, ())))) : Option WrOut)) e3)
  have hE : rec_Encode (startR p) = some ([1, 1, 0, 0, 0] ++ ([IntKind.u8.wrap (y.length : Int), IntKind.u8.wrap (Int.fdiv (y.length : Int) (2 ^ 8))] ++ y), (0, ())) := by
    rw [recEncode_eq, hr, Option.bind_some]
    simp only [Bool.not_true, cond_false]
    rw [h2, Option.bind_some]
    simp only
    rw [hb, Option.bind_some]
    exact (congrArg (fun z => Option.bind z fun (r29 : (List Int × Int × Unit) × Wr × List Int × Unit) => (some (r29.1.1, (r29.1.2.1, ())) : Option (List Int × Int × Unit))) e4)
  unfold rec_Size
  rw [hE, Option.bind_some]
  have hl : (([1, 1, 0, 0, 0] ++ ([IntKind.u8.wrap (y.length : Int), IntKind.u8.wrap (Int.fdiv (y.length : Int) (2 ^ 8))] ++ y)).length : Int) = 7 + (20 + 9 * (p.2.2.2.1.length : Int) + 14 * (p.2.2.2.2.1.length : Int) + 9 * (p.2.2.2.2.2.1.length : Int)) := by
    simp only [List.length_append, List.length_cons, List.length_nil]; omega
  simp only
  rw [hl]
  unfold frame_Size
  rw [dec_f (by omega), dec_f (by omega), wrap_i64 (by omega) (by omega)]
  rfl

theorem refNum_val (x : Int) (n : Nat) (hn : n ≤ 8) : ∃ y : List Int, y.length = n ∧ pledgeref03_Num x (n : Int) = some ((), (y, ())) := by
  have key : ∀ (k i : Nat) (x : Int) (acc : List Int) (m : Nat), i + k = n → k < m → acc.length = i → ∃ z : List Int, z.length = n ∧ iterL pledgeref03_Num.l1 m ((x, ((n : Int), ((), (i : Int)))), (acc, ())) = some ((), (z, ())) := by
    intro k
    induction k with
    | zero =>
      intro i x acc m hi hm ha
      obtain ⟨m, rfl⟩ : ∃ j, m = j + 1 := ⟨m - 1, by omega⟩
      refine ⟨acc, by omega, iterL_done ?_⟩
      unfold pledgeref03_Num.l1
      simp only [dec_f (show ¬ (i : Int) < (n : Int) by omega), cond_false]
    | succ k ih =>
      intro i x acc m hi hm ha
      obtain ⟨m, rfl⟩ : ∃ j, m = j + 1 := ⟨m - 1, by omega⟩
      have hs : pledgeref03_Num.l1 ((x, ((n : Int), ((), (i : Int)))), (acc, ())) = some (.inl ((IntKind.u64.wrap (Int.tdiv x 256), ((n : Int), ((), ((i + 1 : Nat) : Int)))), (acc ++ [IntKind.u8.wrap (Int.tmod x 256)], ()))) := by
        unfold pledgeref03_Num.l1
        simp only [dec_t (show (i : Int) < (n : Int) by omega), cond_true]
        rw [room_ok (by simp only [List.length_cons, List.length_nil]; omega), succ_i64 (by omega)]
      rw [iterL_next hs]
      exact ih (i + 1) _ _ m (by omega) (by omega) (by simp only [List.length_append, List.length_cons, List.length_nil]; omega)
  obtain ⟨z, h1, h2⟩ := key n 0 x [] loopN (by omega) (by rw [loopN_eq]; omega) rfl
  refine ⟨z, h1, ?_⟩
  unfold pledgeref03_Num
  rw [show (((0 : Nat) : Int)) = 0 from rfl] at h2
  rw [h2]; rfl
theorem refInt_val (x : Int) : ∃ y : List Int, y.length = 8 ∧ pledgeref03_Int x = some y := by
  obtain ⟨y, h1, h2⟩ := refNum_val (IntKind.u64.wrap x) 8 (by omega)
  refine ⟨y, h1, ?_⟩
  unfold pledgeref03_Int
  have h2 : pledgeref03_Num (IntKind.u64.wrap x) 8 = some ((), (y, ())) := h2
  rw [h2]; rfl
theorem refLB_val (l : List Ln) (hl : l.length < 1000) : ∃ y : List Int, y.length = 1 + 9 * l.length ∧ pledgeref13_LinesBytes l = some y := by
  have key : ∀ (k i : Nat) (acc : List Int) (m : Nat), i + k = l.length → k < m → acc.length = 1 + 9 * i → ∃ z : List Int, z.length = 1 + 9 * l.length ∧ iterL pledgeref13_LinesBytes.l1 m ((l, ((), (i : Int))), (acc, ())) = some ((), (z, ())) := by
    intro k
    induction k with
    | zero =>
      intro i acc m hi hm ha
      obtain ⟨m, rfl⟩ : ∃ j, m = j + 1 := ⟨m - 1, by omega⟩
      refine ⟨acc, by omega, iterL_done ?_⟩
      unfold pledgeref13_LinesBytes.l1
      simp only [dec_f (show ¬ (i : Int) < (l.length : Int) by omega), cond_false]
    | succ k ih =>
      intro i acc m hi hm ha
      obtain ⟨m, rfl⟩ : ∃ j, m = j + 1 := ⟨m - 1, by omega⟩
      obtain ⟨e, he⟩ : ∃ e, l[i]? = some e := ⟨_, List.getElem?_eq_getElem (by omega)⟩
      obtain ⟨y, y1, y2⟩ := refInt_val e.2.1
      have hs : pledgeref13_LinesBytes.l1 ((l, ((), (i : Int))), (acc, ())) = some (.inl ((l, ((), ((i + 1 : Nat) : Int))), ((acc ++ [e.1]) ++ y, ()))) := by
        unfold pledgeref13_LinesBytes.l1
        simp only [dec_t (show (i : Int) < (l.length : Int) by omega), cond_true]
        rw [nthK_get he, nthK_get he, y2, room_ok (by simp only [List.length_cons, List.length_nil]; omega), Option.bind_some, room_ok (by simp only [List.length_append, List.length_cons, List.length_nil]; omega), succ_i64 (by omega)]
      rw [iterL_next hs]
      exact ih (i + 1) _ m (by omega) (by omega) (by simp only [List.length_append, List.length_cons, List.length_nil]; omega)
  obtain ⟨z, h1, h2⟩ := key l.length 0 [IntKind.u8.wrap (l.length : Int)] loopN (by omega) (by rw [loopN_eq]; omega) rfl
  refine ⟨z, h1, ?_⟩
  unfold pledgeref13_LinesBytes
  rw [show (((0 : Nat) : Int)) = 0 from rfl] at h2
  rw [h2]; rfl
theorem refTB_val (p : Prg) (b : List Int) (hl : p.2.2.2.2.1.length < 1000) (hb : b.length < 10000) : ∃ y : List Int, y.length = b.length + 14 * p.2.2.2.2.1.length ∧ iterL pledgeref13_Bytes.l1 loopN (((), ((), 0)), (p, (b, ()))) = some (((), ()), (p, (y, ()))) := by
  have key : ∀ (k i : Nat) (acc : List Int) (m : Nat), i + k = p.2.2.2.2.1.length → k < m → acc.length = b.length + 14 * i → ∃ z : List Int, z.length = b.length + 14 * p.2.2.2.2.1.length ∧ iterL pledgeref13_Bytes.l1 m (((), ((), (i : Int))), (p, (acc, ()))) = some (((), ()), (p, (z, ()))) := by
    intro k
    induction k with
    | zero =>
      intro i acc m hi hm ha
      obtain ⟨m, rfl⟩ : ∃ j, m = j + 1 := ⟨m - 1, by omega⟩
      refine ⟨acc, by rw [ha]; omega, iterL_done ?_⟩
      unfold pledgeref13_Bytes.l1
      simp only [dec_f (show ¬ (i : Int) < (p.2.2.2.2.1.length : Int) by omega), cond_false]
    | succ k ih =>
      intro i acc m hi hm ha
      obtain ⟨m, rfl⟩ : ∃ j, m = j + 1 := ⟨m - 1, by omega⟩
      obtain ⟨e, he⟩ : ∃ e, p.2.2.2.2.1[i]? = some e := ⟨_, List.getElem?_eq_getElem (by omega)⟩
      obtain ⟨y, y1, y2⟩ := refNum_val (IntKind.u64.wrap e.1) 4 (by omega)
      have y2 : pledgeref03_Num (IntKind.u64.wrap e.1) 4 = some ((), (y, ())) := y2
      obtain ⟨z, z1, z2⟩ := refInt_val e.2.2.2.1
      have hs : pledgeref13_Bytes.l1 (((), ((), (i : Int))), (p, (acc, ()))) = some (.inl (((), ((), ((i + 1 : Nat) : Int))), (p, (((acc ++ y) ++ [e.2.1, e.2.2.1]) ++ z, ())))) := by
        unfold pledgeref13_Bytes.l1
        simp only [dec_t (show (i : Int) < (p.2.2.2.2.1.length : Int) by omega), cond_true]
        rw [nthK_get he, y2, Option.bind_some, room_ok (by simp only; omega), nthK_get he, nthK_get he, room_ok (by simp only [List.length_append, List.length_cons, List.length_nil]; omega), nthK_get he, z2, Option.bind_some, room_ok (by simp only [List.length_append, List.length_cons, List.length_nil]; omega), succ_i64 (by omega)]
      rw [iterL_next hs]
      exact ih (i + 1) _ m (by omega) (by omega) (by simp only [List.length_append, List.length_cons, List.length_nil]; omega)
  obtain ⟨z, h1, h2⟩ := key p.2.2.2.2.1.length 0 b loopN (by omega) (by rw [loopN_eq]; omega) (by omega)
  rw [show (((0 : Nat) : Int)) = 0 from rfl] at h2
  exact ⟨z, h1, h2⟩

theorem refBytes_val (p : Prg) (h1 : p.2.2.2.1.length < 200) (h2 : p.2.2.2.2.1.length < 200) (h3 : p.2.2.2.2.2.1.length < 200) : ∃ y : List Int, y.length = 20 + 9 * p.2.2.2.1.length + 14 * p.2.2.2.2.1.length + 9 * p.2.2.2.2.2.1.length ∧ pledgeref13_Bytes p = some y := by
  obtain ⟨y, y1, y2⟩ := refNum_val (IntKind.u64.wrap p.2.1) 4 (by omega)
  have y2 : pledgeref03_Num (IntKind.u64.wrap p.2.1) 4 = some ((), (y, ())) := y2
  obtain ⟨l, l1, l2⟩ := refLB_val p.2.2.2.1 (by omega)
  obtain ⟨o, o1, o2⟩ := refLB_val p.2.2.2.2.2.1 (by omega)
  obtain ⟨k, k1, k2⟩ := refInt_val p.2.2.2.2.2.2.2.2.2.1
  obtain ⟨t, t1, t2⟩ := refTB_val p (((([p.1] ++ y) ++ [p.2.2.1]) ++ l) ++ [IntKind.u8.wrap (p.2.2.2.2.1.length : Int)]) (by omega) (by first | omega | (simp only [List.length_append, List.length_cons, List.length_nil]; omega) | (simp; omega))
  have ht : t.length = 7 + (1 + 9 * p.2.2.2.1.length) + 14 * p.2.2.2.2.1.length := by rw [t1]; (simp only [List.length_append, List.length_cons, List.length_nil]; omega)
  refine ⟨((t ++ o) ++ [p.2.2.2.2.2.2.1, p.2.2.2.2.2.2.2.1, p.2.2.2.2.2.2.2.2.1]) ++ k, by (simp only [List.length_append, List.length_cons, List.length_nil]; omega), ?_⟩
  unfold pledgeref13_Bytes
  rw [y2, Option.bind_some, room_ok (by first | omega | (simp only [List.length_append, List.length_cons, List.length_nil]; omega) | (simp; omega)), room_ok (by first | omega | (simp only [List.length_append, List.length_cons, List.length_nil]; omega) | (simp; omega)), l2, Option.bind_some, room_ok (by first | omega | (simp only [List.length_append, List.length_cons, List.length_nil]; omega) | (simp; omega)), room_ok (by first | omega | (simp only [List.length_append, List.length_cons, List.length_nil]; omega) | (simp; omega)), t2, Option.bind_some]
  simp only
  rw [o2, Option.bind_some, room_ok (by first | omega | (simp only [List.length_append, List.length_cons, List.length_nil]; omega) | (simp; omega)), room_ok (by first | omega | (simp only [List.length_append, List.length_cons, List.length_nil]; omega) | (simp; omega)), k2, Option.bind_some, room_ok (by first | omega | (simp only [List.length_append, List.length_cons, List.length_nil]; omega) | (simp; omega))]

theorem refSize_val (p : Prg) (hr : pledgeref14_Good (startR p) = some true) (h1 : p.2.2.2.1.length < 200) (h2 : p.2.2.2.2.1.length < 200) (h3 : p.2.2.2.2.2.1.length < 200) :
    pledgeref14_Size (startR p) = some (6 + (7 + (20 + 9 * (p.2.2.2.1.length : Int) + 14 * (p.2.2.2.2.1.length : Int) + 9 * (p.2.2.2.2.2.1.length : Int)))) := by
  obtain ⟨b, b1, b2⟩ := refBytes_val p h1 h2 h3
  obtain ⟨y, y1, y2⟩ := refNum_val (IntKind.u64.wrap 1) 4 (by omega)
  have y2 : pledgeref03_Num (IntKind.u64.wrap 1) 4 = some ((), (y, ())) := y2
  obtain ⟨z, z1, z2⟩ := refNum_val (IntKind.u64.wrap 0) 4 (by omega)
  have z2 : pledgeref03_Num (IntKind.u64.wrap 0) 4 = some ((), (z, ())) := z2
  obtain ⟨n, n1, n2⟩ := refNum_val (IntKind.u64.wrap (b.length : Int)) 2 (by omega)
  have n2 : pledgeref03_Num (IntKind.u64.wrap (b.length : Int)) 2 = some ((), (n, ())) := n2
  have hb : pledgeref03_Bytes b = some (n ++ b) := by
    unfold pledgeref03_Bytes
    rw [n2, Option.bind_some, room_ok (by first | omega | (simp only; omega))]
  have hB : pledgeref14_Bytes (startR p) = some (([1] ++ y) ++ (n ++ b)) := by
    unfold pledgeref14_Bytes startR
    simp only
    rw [y2, z2]
    simp only [Option.bind_some, show ((1 : Int) == 1) = true from rfl, cond_true]
    rw [room_ok (by first | omega | (simp only [List.length_append, List.length_cons, List.length_nil]; omega) | (simp; omega)), b2, Option.bind_some, hb, Option.bind_some, room_ok (by first | omega | (simp only [List.length_append, List.length_cons, List.length_nil]; omega) | (simp; omega))]
  unfold pledgeref14_Size
  rw [hr, hB]
  simp only [Option.bind_some, Bool.not_true, cond_false]
  have hl : ((([1] ++ y) ++ (n ++ b)).length : Int) = 7 + (20 + 9 * (p.2.2.2.1.length : Int) + 14 * (p.2.2.2.2.1.length : Int) + 9 * (p.2.2.2.2.2.1.length : Int)) := by (simp only [List.length_append, List.length_cons, List.length_nil]; omega)
  rw [hl, wrap_i64 (by omega) (by omega)]

abbrev Tx := Int × Int × Int × Bool × Bool × List OpE × Int × Int × Unit
theorem works21' : pledgelaw21_works = some true := by kernel_rfl
theorem few13_any (p : Prg) : pledgelaw13_Few p = some 0 ∨ (pledgelaw13_Few p = some 1 ∧ p.2.2.2.1.length ≤ 20 ∧ p.2.2.2.2.1.length ≤ 30 ∧ p.2.2.2.2.2.1.length ≤ 20) := by
  unfold pledgelaw13_Few pledgelaw13_isFew
  by_cases h1 : (p.2.2.2.1.length : Int) ≤ 20
  · rw [dec_t h1]
    by_cases h2 : (p.2.2.2.2.1.length : Int) ≤ 30
    · rw [dec_t h2]
      by_cases h3 : (p.2.2.2.2.2.1.length : Int) ≤ 20
      · rw [dec_t h3]; exact .inr ⟨rfl, by omega, by omega, by omega⟩
      · rw [dec_f h3]; exact .inl rfl
    · rw [dec_f h2]; exact .inl rfl
  · rw [dec_f h1]; exact .inl rfl
theorem few20_any (c : Crs) (t : Tx) : pledgelaw20_Few c t = some 0 ∨ (pledgelaw20_Few c t = some 1 ∧ (c.2.1.2.2.2.1.length ≤ 20 ∧ c.2.1.2.2.2.2.1.length ≤ 30 ∧ c.2.1.2.2.2.2.2.1.length ≤ 20) ∧ t.2.2.2.2.2.1.length ≤ 20) := by
  unfold pledgelaw20_Few pledgelaw20_isFew
  rcases few13_any c.2.1 with e | ⟨e, h⟩
  · rw [e]; exact .inl rfl
  · rw [e]
    by_cases h1 : (t.2.2.2.2.2.1.length : Int) ≤ 20
    · simp only [Option.bind_some, dec_t h1]; exact .inr ⟨rfl, h, by omega⟩
    · simp only [Option.bind_some, dec_f h1]; exact .inl rfl

theorem mild_of {p : Prg} (hf : Few p) : Mild (stepsV p) := ⟨stepsV_le hf, fun s hs => by
  unfold stepsV at hs
  cases hg : goodP 4 4 p with
  | false => rw [hg] at hs; cases hs
  | true =>
    rw [hg] at hs
    have h2 := (stepsP_fine hf hg s hs).2
    unfold goodS at h2
    simp only [Bool.and_eq_true, decide_eq_true_eq] at h2
    exact h2.1.1.2⟩
theorem fewR_start {p : Prg} (hf : Few p) : FewR (startR p) := ⟨hf, ⟨Int.le_refl 0, (by show (0 : Int) < 256; omega)⟩, ⟨Int.le_refl 0, (by show (0 : Int) < 256; omega)⟩, (by show (-9223372036854775808 : Int) ≤ 0; omega)⟩
theorem recB_start (p : Prg) : recB (startR p) = goodP 4 4 p := by
  show ((((1 : Int) != 0) && goodP 4 4 p) && sameR (startR p) (startR p)) = goodP 4 4 p
  rw [sameR_refl]; simp
theorem start_both' (p : Prg) (x : Int) (hf : Few p) (hT : p.2.2.2.2.1.length ≤ 30) (hL : p.2.2.2.1.length ≤ 20) (hO : p.2.2.2.2.2.1.length ≤ 20) (hlen : goodP 4 4 p = true → 20 + 9 * p.2.2.2.1.length + 14 * p.2.2.2.2.1.length + 9 * p.2.2.2.2.2.1.length ≤ 500) :
    ∃ r, need_Start p x = some r ∧ pledgeref21_Start p x = some r := by
  have g1 : rec_Good (startR p) = some (goodP 4 4 p) := by rw [recGood_val _ (fewR_start hf), recB_start]
  have g2 : pledgeref14_Good (startR p) = some (goodP 4 4 p) := by rw [refRecGood_val _ (fewR_start hf), recB_start]
  obtain ⟨h, h1, h2, h3, h4⟩ := hold_both (1, (p, (false, (0, (0, (0, ())))))) (0, (0, (0, (false, (false, ([], (0, (0, ())))))))) x hf (mild_of hf) (by show (0 : Int) < 9223372036854775808; omega) ⟨Int.le_refl 0, (by show (0 : Int) ≤ 1048576; omega)⟩
  have hcp := copyP_val p hf
  unfold need_Start pledgeref21_Start
  rw [refGoodP_val 4 4 p hf]
  cases hg : goodP 4 4 p with
  | false =>
    rw [hg] at g1
    refine ⟨0, ?_, rfl⟩
    unfold course_Start
    show (((rec_Good (startR p)).bind _).bind _) = _
    rw [g1]; rfl
  | true =>
    rw [hg] at g1 g2
    have z1 := recEncode_val p hf hg g1 (hlen hg)
    have z2 := refSize_val p g2 (by omega) (by omega) (by omega)
    have hs : course_Start (startR p) = some ((1, (p, (false, (0, (0, (0, ())))))), (0, ())) := by
      unfold course_Start
      show ((rec_Good (startR p)).bind _) = _
      rw [g1]
      show ((prog_Copy p).bind _) = _
      rw [hcp]; rfl
    refine ⟨IntKind.i64.wrap ((6 + (7 + (20 + 9 * (p.2.2.2.1.length : Int) + 14 * (p.2.2.2.2.1.length : Int) + 9 * (p.2.2.2.2.2.1.length : Int)))) + h), ?_, ?_⟩
    · show ((course_Start (startR p)).bind _) = _
      rw [hs]
      show ((rec_Size (startR p)).bind _) = _
      rw [z1]
      show ((need_Hold _ _ x).bind _) = _
      rw [h1]; rfl
    · show ((pledgeref14_Size (startR p)).bind _) = _
      rw [z2]
      show ((pledgeref21_Hold _ _ x).bind _) = _
      rw [h2]; rfl

theorem good_few {p : Prg} (hf : Few p) (hT : p.2.2.2.2.1.length ≤ 30) (hg : goodP 4 4 p = true) : 20 + 9 * p.2.2.2.1.length + 14 * p.2.2.2.2.1.length + 9 * p.2.2.2.2.2.1.length ≤ 500 := by
  have tk : ∀ {id : Int} {l : List Tk}, takesB 4 4 id l = true → l.length ≤ 12 := fun h => by
    unfold takesB at h
    simp only [Bool.and_eq_true, decide_eq_true_eq] at h
    omega
  have lk : ∀ {l : List Ln}, linesB 4 l = true → l.length ≤ 3 := fun h => by
    unfold linesB at h
    simp only [Bool.and_eq_true, decide_eq_true_eq] at h
    omega
  have bare : ∀ {p : Prg}, bareB p = true → p.2.2.2.1.length = 0 := fun h => by
    unfold bareB at h
    simp only [Bool.and_eq_true, beq_iff_eq] at h
    omega
  unfold goodP goodKind at hg
  simp only [Bool.and_eq_true] at hg
  have hk := hg.2
  clear hg
  cases c1 : p.1 == 1 with
  | true =>
    rw [c1] at hk
    simp only [cond_true, Bool.and_eq_true] at hk
    have := lk hk.2.2.2.1; have := tk hk.2.2.2.2.1; have := lk hk.2.2.2.2.2.1
    omega
  | false =>
  rw [c1] at hk
  cases c2 : p.1 == 2 with
  | true =>
    rw [c2] at hk
    simp only [cond_true, cond_false, Bool.and_eq_true] at hk
    have := bare hk.2.1; have := tk hk.2.2.1; have := lk hk.2.2.2.1
    omega
  | false =>
  rw [c2] at hk
  cases c3 : (p.1 == 3) || (p.1 == 4) with
  | true =>
    rw [c3] at hk
    simp only [cond_true, cond_false, Bool.and_eq_true, beq_iff_eq] at hk
    have := bare hk.2.1; have := tk hk.2.2.1; have := hk.2.2.2.2
    omega
  | false =>
  rw [c3] at hk
  have mv : movedB 4 4 p = true → p.2.2.2.1.length = 0 ∧ p.2.2.2.2.2.1.length = 0 := fun h => by
    unfold movedB at h
    simp only [Bool.and_eq_true, beq_iff_eq] at h
    have := bare h.2.1
    exact ⟨this, by have := h.2.2.1; omega⟩
  cases c5 : p.1 == 5 with
  | true =>
    rw [c5] at hk
    simp only [cond_true, cond_false, Bool.and_eq_true] at hk
    have := mv hk.1
    omega
  | false =>
  rw [c5] at hk
  cases c6 : p.1 == 6 with
  | true =>
    rw [c6] at hk
    simp only [cond_true, cond_false, Bool.and_eq_true] at hk
    have := mv hk.1
    omega
  | false =>
    rw [c6] at hk
    simp only [cond_false] at hk
    cases hk

theorem walk_thru {α X : Type} (d : X) : ∀ (l : List α) (i : Nat), walkL (X := X) (fun _ (_ : α) (_ : Unit) => .inl ()) (fun _ => d) i l () = d
  | [], _ => rfl
  | _ :: l, i => walk_thru d l (i + 1)
theorem NeedSays (x0 : Crs) (x1 : Tx) (x2 : Int) (hx0 : WfE kCourse x0) (hx1 : WfE kTxn x1) (hx2 : WfE (.int .i64) x2) : pledgelaw21_NeedSays x0 x1 x2 = some true := by
  unfold pledgelaw21_NeedSays
  rw [works21']
  rcases few20_any x0 x1 with e | ⟨e, ⟨a, b, c⟩, d⟩
  · rw [e]; rfl
  have hc : Few x0.2.1 := ⟨hx0.2.1, by omega, by omega, by omega⟩
  rw [e]
  simp only [Option.bind_some, show ((1 : Int) == 0) = false from rfl, cond_false]
  by_cases s1 : x1.2.2.2.2.2.2.2.1 < 0
  · rw [dec_t s1]; rfl
  rw [dec_f s1]
  by_cases s2 : x1.2.2.2.2.2.2.2.1 > 1048576
  · rw [dec_t s2]; rfl
  rw [dec_f s2, refSteps_val _ hc]
  simp only [Option.bind_some, cond_false]
  have hm := mild_of hc
  have hl5 := hm.len
  obtain ⟨at1, at2⟩ := att_val x0.2.1 hc hm
  obtain ⟨r, r1, r2, r3, r4⟩ := rest_both x0 x2 hc hm (wf_i64 hx0.2.2.2.2.1).2
  obtain ⟨h, h1, h2, h3, h4⟩ := hold_both x0 x1 x2 hc hm (wf_i64 hx0.2.2.2.2.1).2 ⟨by omega, by omega⟩
  obtain ⟨s, t1, t2⟩ := start_both' x0.2.1 x2 hc b a c (good_few hc b)
  have hlp : iterL pledgelaw21_NeedSays.l1 loopN ((x2, ((), ((), (stepsV x0.2.1, 0)))), (x0, (x1, ()))) = some (.inl ((x2, ((), ())), (x0, (x1, ())))) := by
    generalize stepsV x0.2.1 = l at *
    have := loop_walk (step := pledgelaw21_NeedSays.l1) l (fun i (_ : Unit) => ((x2, ((), ((), (l, (i : Int))))), (x0, (x1, ())))) (fun _ _ _ => .inl ()) (fun _ => .inl ((x2, ((), ())), (x0, (x1, ())))) (fun _ _ => True) () (by omega) trivial (fun i y acc hx _ => by
      have hi := get_lt hx
      obtain ⟨p1, p2, p3, p4, _⟩ := hm.of y (get_mem hx)
      refine ⟨?_, fun _ _ => trivial⟩
      unfold pledgelaw21_NeedSays.l1
      simp only [dec_t (show (i : Int) < (l.length : Int) by omega), cond_true]
      rw [nthK_get hx, p1, Option.bind_some, nthK_get hx, p2, Option.bind_some]
      simp only [bne_self_eq_false, cond_false]
      rw [nthK_get hx, p3, Option.bind_some, nthK_get hx, p4, Option.bind_some]
      simp only [bne_self_eq_false, cond_false]
      rw [succ_i64 (by omega)]) (fun acc _ => by
      unfold pledgelaw21_NeedSays.l1
      simp only [dec_f (show ¬ (l.length : Int) < (l.length : Int) by omega), cond_false])
    rw [show (((0 : Nat) : Int)) = 0 from rfl] at this
    rw [this, walk_thru]
  rw [hlp]
  simp only [Option.bind_some]
  rw [at1, at2, r1, r2, h1, h2, t1, t2]
  simp only [Option.bind_some, beq_self_eq_true, cond_true]
end Go.Proofs.Pure
