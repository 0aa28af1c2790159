/- Courses: which may be; what a record makes of one. -/
import Derived.Test.YtkipelkedgckoaaRecGood
import Derived.Test.YtkipelkedgckoaaStepsVal
set_option linter.unusedVariables false
set_option linter.unusedSimpArgs false
namespace Go.Proofs.Pure
open Go.Proofs.D Go.Proofs.F

abbrev Crs := Int × Prg × Bool × Int × Int × Int × Unit
theorem stepsV_le {p : Prg} (hf : Few p) : (stepsV p).length ≤ 5 := by
  unfold stepsV
  cases hg : goodP 4 4 p with
  | false => simp
  | true =>
    have := stepsP_len hf hg
    simp only [cond_true]
    exact this.2
def goodC (c : Crs) : Bool := (c.1 != 0) && (goodP 4 4 c.2.1 && (decide (c.2.2.2.1 ≥ 0) && (decide (c.2.2.2.1 ≤ ((stepsV c.2.1).length : Int)) && decide (c.2.2.2.2.1 ≥ 0))))
theorem csteps_val (c : Crs) (hf : Few c.2.1) : course_steps c = some ((stepsV c.2.1).length : Int) := by
  unfold course_steps
  rw [steps_val _ hf]; rfl
theorem goodC_val (c : Crs) (hf : Few c.2.1) : course_Good c = some (goodC c) := by
  unfold course_Good goodC
  rw [progGood_val 4 4 _ hf, csteps_val c hf]
  simp only [Option.bind_some, cond_some, cond_no]
theorem refGoodC_val (c : Crs) (hf : Few c.2.1) : pledgeref20_Good c = some (goodC c) := by
  unfold pledgeref20_Good goodC
  rw [refGoodP_val 4 4 _ hf, refSteps_val _ hf]
  simp only [Option.bind_some, cond_some, cond_no]

theorem clone_val {α : Type} (l : List α) (hl : l.length < 1000) : (room (0 + l.length) (some ((), (l, ()))) : Option (Unit × List α × Unit)) = some ((), (l, ())) := room_ok (by omega)
theorem copyP_val (p : Prg) (hf : Few p) : prog_Copy p = some p := by
  have l1 := hf.lines; have l2 := hf.takes; have l3 := hf.owes
  unfold prog_Copy slices_Clone_api_Line_api_Line slices_Clone_api_Take_api_Take
  rw [clone_val _ (by omega), clone_val _ (by omega), clone_val _ (by omega)]
  rfl

theorem start_both (r : Rc) (h : FewR r) : ∃ z, course_Start r = some z ∧ pledgeref20_Start r = some z ∧ (z.1.2.1 = prgZ ∨ z.1.2.1 = r.2.2.2.2.2.2.2.2.1) := by
  unfold course_Start pledgeref20_Start
  rw [recGood_val r h, refRecGood_val r h, copyP_val _ h.pr]
  by_cases k1 : r.1 = 1
  · rw [show (r.1 != 1) = false by simp [k1]]
    cases recB r with
    | true => exact ⟨_, rfl, rfl, .inr rfl⟩
    | false => exact ⟨_, rfl, rfl, .inl rfl⟩
  · rw [show (r.1 != 1) = true by simp [k1]]
    cases recB r <;> exact ⟨_, rfl, rfl, .inl rfl⟩

theorem beq_sw (a b : Int) : (a == b) = (b == a) := by
  by_cases h : a = b
  · subst h; rfl
  · rw [show (a == b) = false by simpa using h, show (b == a) = false by simpa using (Ne.symm h)]

set_option maxHeartbeats 4000000 in
theorem apply_both (c : Crs) (r : Rc) (hc : Few c.2.1) (hr : FewR r) (hs : 0 ≤ r.2.2.2.1 ∧ r.2.2.2.1 < 256) (ht : c.2.2.2.2.1 < 9223372036854775808) : ∃ z, course_Apply c r = some z ∧ pledgeref20_Apply c r = some z ∧ z.1.2.1 = c.2.1 := by
  have hn := stepsV_le hc
  have hg := goodC_val c hc
  have hg2 := refGoodC_val c hc
  have hrg := recGood_val r hr
  have hrg2 := refRecGood_val r hr
  obtain ⟨saga, p, back, step, tries, tx, u⟩ := c
  simp only at hc hn hs ht
  have hcp := copyP_val p hc
  have G1 : ∀ a b c d e f, course_Good (a, (p, (b, (c, (d, (e, f)))))) = some (goodC (a, (p, (b, (c, (d, (e, f))))))) := fun a b c d e f => goodC_val _ hc
  have G2 : ∀ a b c d e f, pledgeref20_Good (a, (p, (b, (c, (d, (e, f)))))) = some (goodC (a, (p, (b, (c, (d, (e, f))))))) := fun a b c d e f => refGoodC_val _ hc
  have S1 : ∀ a b c d e f, course_steps (a, (p, (b, (c, (d, (e, f)))))) = some ((stepsV p).length : Int) := fun a b c d e f => csteps_val _ hc
  have S2 := refSteps_val p hc
  unfold course_Apply pledgeref20_Apply
  simp only [hcp, Option.bind_some, hg, hg2]
  cases hgc : goodC (saga, p, back, step, tries, tx, u) with
  | false => exact ⟨_, rfl, rfl, rfl⟩
  | true =>
    simp only [Bool.not_true, cond_false, hrg, hrg2, Option.bind_some]
    have hgd : 0 ≤ step ∧ step ≤ 5 ∧ 0 ≤ tries := by
      unfold goodC at hgc
      simp only [Bool.and_eq_true, decide_eq_true_eq] at hgc
      omega
    cases hrb : recB r with
    | false =>
      simp only [Bool.not_false, cond_true]
      cases r.1 == 1 <;> exact ⟨_, rfl, rfl, rfl⟩
    | true =>
      obtain ⟨k, rsaga, rtx, rstep, rback, key, delta, out, q, v⟩ := r
      simp only [Bool.not_true, cond_false]
      by_cases k1 : k = 1
      · subst k1; exact ⟨_, rfl, rfl, rfl⟩
      rw [show (k == 1) = false by simpa using k1]
      simp only [cond_false]
      have sw1 : (rsaga == saga) = (saga == rsaga) := beq_sw _ _
      have sw2 : (rtx == tx) = (tx == rtx) := beq_sw _ _
      have hs' : 0 ≤ rstep ∧ rstep < 256 := hs
      have w1 : IntKind.i64.wrap rstep = rstep := wrap_i64 (by omega) (by omega)
      have w2 : IntKind.i64.wrap (rstep + 1) = rstep + 1 := wrap_i64 (by omega) (by omega)
      have w3 : IntKind.i64.wrap (step - 1) = step - 1 := wrap_i64 (by omega) (by omega)
      have w4 : IntKind.i64.wrap (step + 1) = step + 1 := wrap_i64 (by omega) (by omega)
      have w5 : IntKind.i64.wrap (step + 1 - 2) = step - 1 := by rw [wrap_i64 (by omega) (by omega)]; omega
      have w6 : (rstep + 1 == step) = (rstep == step - 1) := by rw [Bool.eq_iff_iff]; simp; omega
      by_cases k2 : k = 2
      · subst k2
        unfold pledgeref20_fits course_begins
        simp only [G1, G2, S1, S2, sw1, sw2, beq_self_eq_true, cond_true, cond_false, Option.bind_some, Bool.not_true, Bool.not_false, show ((2 : Int) == 1) = false from rfl, show ((2 : Int) == 3) = false from rfl, show ((2 : Int) == 4) = false from rfl, show ((2 : Int) == 5) = false from rfl, show ((2 : Int) == 6) = false from rfl, show ((2 : Int) == 7) = false from rfl, show ((2 : Int) == 8) = false from rfl, show ((2 : Int) == 9) = false from rfl, w1, w2, w3, w6]
        cases tx == 0 <;> cases saga == rsaga <;> cases back <;> cases rback <;> (try simp only [G1, G2, S1, S2, sw1, sw2, beq_self_eq_true, cond_true, cond_false, Option.bind_some, Bool.not_true, Bool.not_false, show ((2 : Int) == 1) = false from rfl, show ((2 : Int) == 3) = false from rfl, show ((2 : Int) == 4) = false from rfl, show ((2 : Int) == 5) = false from rfl, show ((2 : Int) == 6) = false from rfl, show ((2 : Int) == 7) = false from rfl, show ((2 : Int) == 8) = false from rfl, show ((2 : Int) == 9) = false from rfl, w1, w2, w3, w6]) <;>
          cases rstep == step - 1 <;> cases rstep == step <;> cases decide (step < ((stepsV p).length : Int)) <;> (try simp only [cond_true, cond_false, Bool.not_true, Bool.not_false, Option.bind_some, G1, G2]) <;>
          first | exact ⟨_, rfl, rfl, rfl⟩ | (generalize goodC _ = gg; cases gg <;> exact ⟨_, rfl, rfl, rfl⟩)
      by_cases k3 : k = 3
      · subst k3
        unfold pledgeref20_fits
        simp only [G1, G2, S1, S2, sw1, sw2, beq_self_eq_true, cond_true, cond_false, Option.bind_some, Bool.not_true, Bool.not_false, show ((3 : Int) == 1) = false from rfl, show ((3 : Int) == 2) = false from rfl, show ((3 : Int) == 4) = false from rfl, show ((3 : Int) == 5) = false from rfl, show ((3 : Int) == 6) = false from rfl, show ((3 : Int) == 7) = false from rfl, show ((3 : Int) == 8) = false from rfl, show ((3 : Int) == 9) = false from rfl, w3, w4, w5]
        cases back <;> (try simp only [G1, G2, S1, S2, sw1, sw2, beq_self_eq_true, cond_true, cond_false, Option.bind_some, Bool.not_true, Bool.not_false, show ((3 : Int) == 1) = false from rfl, show ((3 : Int) == 2) = false from rfl, show ((3 : Int) == 4) = false from rfl, show ((3 : Int) == 5) = false from rfl, show ((3 : Int) == 6) = false from rfl, show ((3 : Int) == 7) = false from rfl, show ((3 : Int) == 8) = false from rfl, show ((3 : Int) == 9) = false from rfl, w3, w4, w5]) <;> cases tx == 0 <;> cases tx == rtx <;> (try simp only [G1, G2, S1, S2, sw1, sw2, beq_self_eq_true, cond_true, cond_false, Option.bind_some, Bool.not_true, Bool.not_false, show ((3 : Int) == 1) = false from rfl, show ((3 : Int) == 2) = false from rfl, show ((3 : Int) == 4) = false from rfl, show ((3 : Int) == 5) = false from rfl, show ((3 : Int) == 6) = false from rfl, show ((3 : Int) == 7) = false from rfl, show ((3 : Int) == 8) = false from rfl, show ((3 : Int) == 9) = false from rfl, w3, w4, w5]) <;>
          first | exact ⟨_, rfl, rfl, rfl⟩ | (generalize goodC _ = gg; cases gg <;> exact ⟨_, rfl, rfl, rfl⟩)
      by_cases k6 : k = 6
      · subst k6
        unfold pledgeref20_fits
        simp only [G1, G2, S1, S2, sw1, sw2, beq_self_eq_true, cond_true, cond_false, Option.bind_some, Bool.not_true, Bool.not_false, show ((6 : Int) == 1) = false from rfl, show ((6 : Int) == 2) = false from rfl, show ((6 : Int) == 3) = false from rfl, show ((6 : Int) == 4) = false from rfl, show ((6 : Int) == 5) = false from rfl, show ((6 : Int) == 7) = false from rfl, show ((6 : Int) == 8) = false from rfl, show ((6 : Int) == 9) = false from rfl, w3, w4, w5]
        cases back <;> (try simp only [G1, G2, S1, S2, sw1, sw2, beq_self_eq_true, cond_true, cond_false, Option.bind_some, Bool.not_true, Bool.not_false, show ((6 : Int) == 1) = false from rfl, show ((6 : Int) == 2) = false from rfl, show ((6 : Int) == 3) = false from rfl, show ((6 : Int) == 4) = false from rfl, show ((6 : Int) == 5) = false from rfl, show ((6 : Int) == 7) = false from rfl, show ((6 : Int) == 8) = false from rfl, show ((6 : Int) == 9) = false from rfl, w3, w4, w5]) <;> cases tx == 0 <;> cases tx == rtx <;> (try simp only [G1, G2, S1, S2, sw1, sw2, beq_self_eq_true, cond_true, cond_false, Option.bind_some, Bool.not_true, Bool.not_false, show ((6 : Int) == 1) = false from rfl, show ((6 : Int) == 2) = false from rfl, show ((6 : Int) == 3) = false from rfl, show ((6 : Int) == 4) = false from rfl, show ((6 : Int) == 5) = false from rfl, show ((6 : Int) == 7) = false from rfl, show ((6 : Int) == 8) = false from rfl, show ((6 : Int) == 9) = false from rfl, w3, w4, w5]) <;>
          first | exact ⟨_, rfl, rfl, rfl⟩ | (generalize goodC _ = gg; cases gg <;> exact ⟨_, rfl, rfl, rfl⟩)
      by_cases k4 : k = 4
      · subst k4
        unfold pledgeref20_fits
        simp only [G1, G2, S1, S2, sw1, sw2, beq_self_eq_true, cond_true, cond_false, Option.bind_some, Bool.not_true, Bool.not_false, show ((4 : Int) == 1) = false from rfl, show ((4 : Int) == 2) = false from rfl, show ((4 : Int) == 3) = false from rfl, show ((4 : Int) == 5) = false from rfl, show ((4 : Int) == 6) = false from rfl, show ((4 : Int) == 7) = false from rfl, show ((4 : Int) == 8) = false from rfl, show ((4 : Int) == 9) = false from rfl, w3, w4, w5]
        cases back <;> (try simp only [G1, G2, S1, S2, sw1, sw2, beq_self_eq_true, cond_true, cond_false, Option.bind_some, Bool.not_true, Bool.not_false, show ((4 : Int) == 1) = false from rfl, show ((4 : Int) == 2) = false from rfl, show ((4 : Int) == 3) = false from rfl, show ((4 : Int) == 5) = false from rfl, show ((4 : Int) == 6) = false from rfl, show ((4 : Int) == 7) = false from rfl, show ((4 : Int) == 8) = false from rfl, show ((4 : Int) == 9) = false from rfl, w3, w4, w5]) <;> cases tx == 0 <;> cases tx == rtx <;> (try simp only [G1, G2, S1, S2, sw1, sw2, beq_self_eq_true, cond_true, cond_false, Option.bind_some, Bool.not_true, Bool.not_false, show ((4 : Int) == 1) = false from rfl, show ((4 : Int) == 2) = false from rfl, show ((4 : Int) == 3) = false from rfl, show ((4 : Int) == 5) = false from rfl, show ((4 : Int) == 6) = false from rfl, show ((4 : Int) == 7) = false from rfl, show ((4 : Int) == 8) = false from rfl, show ((4 : Int) == 9) = false from rfl, w3, w4, w5]) <;>
          first | exact ⟨_, rfl, rfl, rfl⟩ | (generalize goodC _ = gg; cases gg <;> exact ⟨_, rfl, rfl, rfl⟩)
      by_cases k7 : k = 7
      · subst k7
        unfold pledgeref20_fits
        simp only [G1, G2, S1, S2, sw1, sw2, beq_self_eq_true, cond_true, cond_false, Option.bind_some, Bool.not_true, Bool.not_false, show ((7 : Int) == 1) = false from rfl, show ((7 : Int) == 2) = false from rfl, show ((7 : Int) == 3) = false from rfl, show ((7 : Int) == 4) = false from rfl, show ((7 : Int) == 5) = false from rfl, show ((7 : Int) == 6) = false from rfl, show ((7 : Int) == 8) = false from rfl, show ((7 : Int) == 9) = false from rfl, w3, w4, w5]
        cases back <;> (try simp only [G1, G2, S1, S2, sw1, sw2, beq_self_eq_true, cond_true, cond_false, Option.bind_some, Bool.not_true, Bool.not_false, show ((7 : Int) == 1) = false from rfl, show ((7 : Int) == 2) = false from rfl, show ((7 : Int) == 3) = false from rfl, show ((7 : Int) == 4) = false from rfl, show ((7 : Int) == 5) = false from rfl, show ((7 : Int) == 6) = false from rfl, show ((7 : Int) == 8) = false from rfl, show ((7 : Int) == 9) = false from rfl, w3, w4, w5]) <;> cases tx == 0 <;> cases tx == rtx <;> (try simp only [G1, G2, S1, S2, sw1, sw2, beq_self_eq_true, cond_true, cond_false, Option.bind_some, Bool.not_true, Bool.not_false, show ((7 : Int) == 1) = false from rfl, show ((7 : Int) == 2) = false from rfl, show ((7 : Int) == 3) = false from rfl, show ((7 : Int) == 4) = false from rfl, show ((7 : Int) == 5) = false from rfl, show ((7 : Int) == 6) = false from rfl, show ((7 : Int) == 8) = false from rfl, show ((7 : Int) == 9) = false from rfl, w3, w4, w5]) <;>
          first | exact ⟨_, rfl, rfl, rfl⟩ | (generalize goodC _ = gg; cases gg <;> exact ⟨_, rfl, rfl, rfl⟩)
      by_cases k5 : k = 5
      · subst k5
        unfold pledgeref20_fits
        have hmax : goodC (saga, p, back, step, IntKind.i64.wrap (tries + 1), tx, u) = (decide (IntKind.i64.wrap (tries + 1) > tries) && goodC (saga, p, back, step, IntKind.i64.wrap (tries + 1), tx, u)) := by
          by_cases hm : tries = 9223372036854775807
          · subst hm
            have e : IntKind.i64.wrap (9223372036854775807 + 1) = -9223372036854775808 := by decide
            rw [e]
            unfold goodC
            simp
          · rw [wrap_i64 (by omega) (by omega), dec_t (show tries + 1 > tries by omega)]; rfl
        simp only [G1, G2, S1, S2, sw1, sw2, beq_self_eq_true, cond_true, cond_false, Option.bind_some, Bool.not_true, Bool.not_false, show ((5 : Int) == 1) = false from rfl, show ((5 : Int) == 2) = false from rfl, show ((5 : Int) == 3) = false from rfl, show ((5 : Int) == 4) = false from rfl, show ((5 : Int) == 6) = false from rfl, show ((5 : Int) == 7) = false from rfl, show ((5 : Int) == 8) = false from rfl, show ((5 : Int) == 9) = false from rfl]
        cases back <;> (try simp only [G1, G2, S1, S2, sw1, sw2, beq_self_eq_true, cond_true, cond_false, Option.bind_some, Bool.not_true, Bool.not_false, show ((5 : Int) == 1) = false from rfl, show ((5 : Int) == 2) = false from rfl, show ((5 : Int) == 3) = false from rfl, show ((5 : Int) == 4) = false from rfl, show ((5 : Int) == 6) = false from rfl, show ((5 : Int) == 7) = false from rfl, show ((5 : Int) == 8) = false from rfl, show ((5 : Int) == 9) = false from rfl]) <;> cases tx == 0 <;> cases tx == rtx <;> (try simp only [G1, G2, S1, S2, sw1, sw2, beq_self_eq_true, cond_true, cond_false, Option.bind_some, Bool.not_true, Bool.not_false, show ((5 : Int) == 1) = false from rfl, show ((5 : Int) == 2) = false from rfl, show ((5 : Int) == 3) = false from rfl, show ((5 : Int) == 4) = false from rfl, show ((5 : Int) == 6) = false from rfl, show ((5 : Int) == 7) = false from rfl, show ((5 : Int) == 8) = false from rfl, show ((5 : Int) == 9) = false from rfl]) <;>
          first | exact ⟨_, rfl, rfl, rfl⟩ | (rw [hmax]; generalize goodC _ = gg; cases decide (IntKind.i64.wrap (tries + 1) > tries) <;> cases gg <;> exact ⟨_, rfl, rfl, rfl⟩)
      by_cases k8 : k = 8
      · subst k8
        unfold pledgeref20_fits
        simp only [G1, G2, S1, S2, sw1, sw2, beq_self_eq_true, cond_true, cond_false, Option.bind_some, Bool.not_true, Bool.not_false, show ((8 : Int) == 1) = false from rfl, show ((8 : Int) == 2) = false from rfl, show ((8 : Int) == 3) = false from rfl, show ((8 : Int) == 4) = false from rfl, show ((8 : Int) == 5) = false from rfl, show ((8 : Int) == 6) = false from rfl, show ((8 : Int) == 7) = false from rfl, show ((8 : Int) == 9) = false from rfl]
        cases back <;> (try simp only [G1, G2, S1, S2, sw1, sw2, beq_self_eq_true, cond_true, cond_false, Option.bind_some, Bool.not_true, Bool.not_false, show ((8 : Int) == 1) = false from rfl, show ((8 : Int) == 2) = false from rfl, show ((8 : Int) == 3) = false from rfl, show ((8 : Int) == 4) = false from rfl, show ((8 : Int) == 5) = false from rfl, show ((8 : Int) == 6) = false from rfl, show ((8 : Int) == 7) = false from rfl, show ((8 : Int) == 9) = false from rfl]) <;> cases tx == 0 <;> cases saga == rsaga <;> (try simp only [G1, G2, S1, S2, sw1, sw2, beq_self_eq_true, cond_true, cond_false, Option.bind_some, Bool.not_true, Bool.not_false, show ((8 : Int) == 1) = false from rfl, show ((8 : Int) == 2) = false from rfl, show ((8 : Int) == 3) = false from rfl, show ((8 : Int) == 4) = false from rfl, show ((8 : Int) == 5) = false from rfl, show ((8 : Int) == 6) = false from rfl, show ((8 : Int) == 7) = false from rfl, show ((8 : Int) == 9) = false from rfl]) <;>
          first | exact ⟨_, rfl, rfl, rfl⟩ | (generalize goodC _ = gg; cases gg <;> exact ⟨_, rfl, rfl, rfl⟩)
      by_cases k9 : k = 9
      · subst k9
        unfold pledgeref20_fits course_over
        simp only [G1, G2, S1, S2, sw1, sw2, beq_self_eq_true, cond_true, cond_false, Option.bind_some, Bool.not_true, Bool.not_false, show ((9 : Int) == 1) = false from rfl, show ((9 : Int) == 2) = false from rfl, show ((9 : Int) == 3) = false from rfl, show ((9 : Int) == 4) = false from rfl, show ((9 : Int) == 5) = false from rfl, show ((9 : Int) == 6) = false from rfl, show ((9 : Int) == 7) = false from rfl, show ((9 : Int) == 8) = false from rfl]
        cases back <;> cases tx == 0 <;> cases saga == rsaga <;> (try simp only [G1, G2, S1, S2, sw1, sw2, beq_self_eq_true, cond_true, cond_false, Option.bind_some, Bool.not_true, Bool.not_false, show ((9 : Int) == 1) = false from rfl, show ((9 : Int) == 2) = false from rfl, show ((9 : Int) == 3) = false from rfl, show ((9 : Int) == 4) = false from rfl, show ((9 : Int) == 5) = false from rfl, show ((9 : Int) == 6) = false from rfl, show ((9 : Int) == 7) = false from rfl, show ((9 : Int) == 8) = false from rfl]) <;> cases out == 1 <;> (try simp only [G1, G2, S1, S2, sw1, sw2, beq_self_eq_true, cond_true, cond_false, Option.bind_some, Bool.not_true, Bool.not_false, show ((9 : Int) == 1) = false from rfl, show ((9 : Int) == 2) = false from rfl, show ((9 : Int) == 3) = false from rfl, show ((9 : Int) == 4) = false from rfl, show ((9 : Int) == 5) = false from rfl, show ((9 : Int) == 6) = false from rfl, show ((9 : Int) == 7) = false from rfl, show ((9 : Int) == 8) = false from rfl]) <;> cases step == 0 <;> cases step == ((stepsV p).length : Int) <;> (try simp only [cond_true, cond_false, Option.bind_some, Bool.not_true, Bool.not_false]) <;>
          first | exact ⟨_, rfl, rfl, rfl⟩ | (generalize goodC _ = gg; cases gg <;> exact ⟨_, rfl, rfl, rfl⟩)
      exfalso
      have hk : ∀ n : Int, k ≠ n → (k == n) = false := fun n h => by simpa using h
      unfold recB ownR at hrb
      simp only [hk 1 k1, hk 2 k2, hk 3 k3, hk 4 k4, hk 5 k5, hk 6 k6, hk 7 k7, hk 8 k8, hk 9 k9, cond_false, Bool.or_false, Bool.false_and] at hrb
      cases hrb
end Go.Proofs.Pure
