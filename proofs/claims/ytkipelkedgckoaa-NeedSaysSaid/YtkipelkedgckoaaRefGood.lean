/- Which programs may be, by the document: the same. -/
import Derived.Test.YtkipelkedgckoaaProgGood
set_option linter.unusedVariables false
namespace Go.Proofs.Pure
open Go.Proofs.D Go.Proofs.F

def sameP (x y : Prg) : Bool := (x.1 == y.1) && ((x.2.1 == y.2.1) && ((x.2.2.1 == y.2.2.1) && (sameL x.2.2.2.1 y.2.2.2.1 && (sameT x.2.2.2.2.1 y.2.2.2.2.1 && (sameL x.2.2.2.2.2.1 y.2.2.2.2.2.1 && ((x.2.2.2.2.2.2.1 == y.2.2.2.2.2.2.1) && ((x.2.2.2.2.2.2.2.1 == y.2.2.2.2.2.2.2.1) && ((x.2.2.2.2.2.2.2.2.1 == y.2.2.2.2.2.2.2.2.1) && (x.2.2.2.2.2.2.2.2.2.1 == y.2.2.2.2.2.2.2.2.2.1)))))))))
theorem sameP_refl (x : Prg) : sameP x x = true := by unfold sameP; simp [sameL_refl, sameT_refl]

theorem refSameP_val (x y : Prg) (h1 : x.2.2.2.1.length < 1000) (h2 : x.2.2.2.2.1.length < 1000) (h3 : x.2.2.2.2.2.1.length < 1000) : pledgeref13_Same x y = some (sameP x y) := by
  unfold pledgeref13_Same sameP
  rw [ref_equal_val _ _ h1, ref_equalT_val _ _ h2, ref_equal_val _ _ h3]
  simp only [Option.bind_some, cond_some, cond_no]

theorem sameL_nil (x : List Ln) : sameL x [] = ((x.length : Int) == 0) := by
  unfold sameL
  cases x with
  | nil => rfl
  | cons a x => rw [show ((a :: x).length == ([] : List Ln).length) = false by simp, show (((a :: x).length : Int) == 0) = false by rw [beq_eq_false_iff_ne]; simp only [List.length_cons]; omega]; rfl
theorem sameT_nil (x : List Tk) : sameT x [] = ((x.length : Int) == 0) := by
  unfold sameT
  cases x with
  | nil => rfl
  | cons a x => rw [show ((a :: x).length == ([] : List Tk).length) = false by simp, show (((a :: x).length : Int) == 0) = false by rw [beq_eq_false_iff_ne]; simp only [List.length_cons]; omega]; rfl

theorem refCovered_of {s : Int} {p : Prg} (h : Few p) (hs : s ≤ 4) (h1 : linesB s p.2.2.2.1 = true) : pledgeref13_covered p = some (coveredB p.2.2.2.2.1 p.2.2.2.2.2.1 p.2.2.2.1) := by
  have l1 := h.lines; have l2 := h.takes; have l3 := h.owes
  exact refCovered_val p hs h1 (by omega) (by omega) (by omega) h.w1 h.w2 h.w3

theorem refGoodP_val (s w : Int) (p : Prg) (h : Few p) : pledgeref13_Good s w p = some (goodP s w p) := by
  have l1 := h.lines; have l2 := h.takes; have l3 := h.owes
  obtain ⟨k1, k2, k3⟩ := h.k
  unfold pledgeref13_Good goodP fineB
  cases hs1 : decide (s < 1) with
  | true => rfl
  | false =>
  cases hs2 : decide (s > 4) with
  | true => rfl
  | false =>
  cases hw1 : decide (w < 1) with
  | true => rfl
  | false =>
  cases hw2 : decide (w > 4) with
  | true => rfl
  | false =>
  have hs : s ≤ 4 := by simpa using hs2
  simp only [cond_false, Bool.not_false, Bool.true_and, refLines_val s _ (show p.2.2.2.1.length < 1000 by omega) h.w1, refLines_val s _ (show p.2.2.2.2.2.1.length < 1000 by omega) h.w3, refTakes_val s w p (by omega) h.w2, refFills_val p (by omega) h.w2,
    wrap_i64 (show -9223372036854775808 ≤ p.2.2.2.2.2.2.1 by omega) (by omega), wrap_i64 (show -9223372036854775808 ≤ p.2.2.2.2.2.2.2.1 by omega) (by omega), wrap_i64 (show -9223372036854775808 ≤ p.2.2.2.2.2.2.2.2.1 by omega) (by omega),
    Option.bind_some, cond_some, fst_cond, snd_cond, Bool.cond_self]
  have e34 : (bif p.1 == 3 then p.1 == 3 else p.1 == 4) = ((p.1 == 3) || (p.1 == 4)) := by cases (p.1 == 3) <;> rfl
  have hwr : IntKind.i64.wrap ((p.2.2.2.2.1.length : Int) + (p.2.2.2.2.2.1.length : Int)) = (p.2.2.2.2.1.length : Int) + (p.2.2.2.2.2.1.length : Int) := wrap_i64 (by omega) (by omega)
  have hsame : ∀ q : Prg, pledgeref13_Same p q = some (sameP p q) := fun q => refSameP_val p q (by omega) (by omega) (by omega)
  have fin : ∀ (x : (Unit × Unit × Bool) × Prg × Prg × Unit), x.2.1 = p → ((some x).bind fun y47 => bif y47.1.2.2 then (pledgeref13_Same y47.2.1 y47.2.2.1).bind fun r48 => some r48 else some false) = some (x.1.2.2 && sameP p x.2.2.1) := by
    intro x hx
    rw [Option.bind_some, hx, hsame, Option.bind_some]
    cases x.1.2.2 <;> rfl
  unfold goodKind orderedB movedB
  by_cases c1 : p.1 = 1
  · simp only [show (p.1 == 1) = true by rw [beq_iff_eq]; exact c1, cond_true]
    cases (p.2.1 != 0) with
    | false => rfl
    | true =>
    cases decide (p.2.2.1 ≤ 1) with
    | false => rw [Bool.and_comm]; rfl
    | true =>
    cases decide ((p.2.2.2.1.length : Int) > 0) with
    | false => rw [Bool.and_comm]; rfl
    | true =>
    cases c2 : linesB s p.2.2.2.1 with
    | false => rw [Bool.and_comm]; rfl
    | true =>
    cases takesB s w p.2.1 p.2.2.2.2.1 with
    | false => rw [Bool.and_comm]; rfl
    | true =>
    cases linesB s p.2.2.2.2.2.1 with
    | false => rw [Bool.and_comm]; rfl
    | true =>
    simp only [cond_true, Bool.true_and]
    rw [refCovered_of h hs c2, Option.bind_some]
    cases coveredB p.2.2.2.2.1 p.2.2.2.2.2.1 p.2.2.2.1 with
    | false => rw [Bool.and_comm]; rfl
    | true =>
    have hst : sameP p (p.1, p.2.1, p.2.2.1, p.2.2.2.1, p.2.2.2.2.1, p.2.2.2.2.2.1, 0, 0, 0, 0, ()) = stillB p := by
      unfold sameP stillB
      simp only [beq_self_eq_true, sameL_refl, sameT_refl, Bool.true_and]
    simp only [cond_true, Bool.true_and]
    cases (p.2.2.1 == 0) with
    | true => simp only [cond_true]; refine (fin _ rfl).trans ?_; simp only [hst, Bool.true_or, Bool.true_and, Bool.and_true]
    | false => simp only [cond_false]; refine (fin _ rfl).trans ?_; simp only [hst, Bool.false_or, Bool.and_comm]
  simp only [show (p.1 == 1) = false by rw [beq_eq_false_iff_ne]; exact c1, cond_false, e34, hwr]
  by_cases c2 : p.1 = 2
  · simp only [show (p.1 == 2) = true by rw [beq_iff_eq]; exact c2, cond_true]
    have hst : sameP p (p.1, p.2.1, 0, [], p.2.2.2.2.1, p.2.2.2.2.2.1, 0, 0, 0, 0, ()) = (bareB p && stillB p) := by
      unfold sameP stillB bareB
      simp only [beq_self_eq_true, sameL_refl, sameT_refl, sameL_nil, Bool.true_and, Bool.and_assoc]
    cases (p.2.1 != 0) with
    | false => rfl
    | true =>
    cases takesB s w p.2.1 p.2.2.2.2.1 with
    | false => simp
    | true =>
    cases linesB s p.2.2.2.2.2.1 with
    | false => simp
    | true =>
    simp only [cond_true]
    refine (fin _ rfl).trans ?_
    simp only [hst, Bool.true_and]
    cases decide ((p.2.2.2.2.1.length : Int) + (p.2.2.2.2.2.1.length : Int) > 0) <;> cases bareB p <;> cases stillB p <;> rfl
  simp only [show (p.1 == 2) = false by rw [beq_eq_false_iff_ne]; exact c2, cond_false]
  cases c34 : ((p.1 == 3) || (p.1 == 4)) with
  | true =>
    simp only [cond_true]
    have hst : sameP p (p.1, p.2.1, 0, [], p.2.2.2.2.1, [], 0, 0, 0, 0, ()) = (bareB p && (((p.2.2.2.2.2.1.length : Int) == 0) && stillB p)) := by
      unfold sameP stillB bareB
      simp only [beq_self_eq_true, sameT_refl, sameL_nil, Bool.true_and, Bool.and_assoc]
    cases (p.2.1 != 0) with
    | false => rfl
    | true =>
    cases takesB s w p.2.1 p.2.2.2.2.1 with
    | false => simp
    | true =>
    simp only [cond_true]
    refine (fin _ rfl).trans ?_
    simp only [hst, Bool.true_and]
    cases decide ((p.2.2.2.2.1.length : Int) > 0) <;> cases bareB p <;> cases stillB p <;> cases ((p.2.2.2.2.2.1.length : Int) == 0) <;> rfl
  | false =>
    simp only [cond_false]
    by_cases c5 : p.1 = 5
    · simp only [show (p.1 == 5) = true by rw [beq_iff_eq]; exact c5, cond_true]
      have hst : sameP p (p.1, 0, 0, [], p.2.2.2.2.1, [], p.2.2.2.2.2.2.1, 0, p.2.2.2.2.2.2.2.2.1, p.2.2.2.2.2.2.2.2.2.1, ()) = ((p.2.1 == 0) && (bareB p && (((p.2.2.2.2.2.1.length : Int) == 0) && (p.2.2.2.2.2.2.2.1 == 0)))) := by
        unfold sameP bareB
        simp only [beq_self_eq_true, sameT_refl, sameL_nil, Bool.true_and, Bool.and_assoc, Bool.and_true]
      cases decide (p.2.2.2.2.2.2.1 < s) with
      | false => simp
      | true =>
      cases decide (p.2.2.2.2.2.2.2.2.1 < w) with
      | false => simp
      | true =>
      cases decide (p.2.2.2.2.2.2.2.2.2.1 ≥ 1) with
      | false => simp
      | true =>
      simp only [cond_true]
      refine (fin _ rfl).trans ?_
      simp only [hst]
      cases fillsB p <;> cases (p.2.1 == 0) <;> cases bareB p <;> cases ((p.2.2.2.2.2.1.length : Int) == 0) <;> cases (p.2.2.2.2.2.2.2.1 == 0) <;> rfl
    simp only [show (p.1 == 5) = false by rw [beq_eq_false_iff_ne]; exact c5, cond_false]
    by_cases c6 : p.1 = 6
    · simp only [show (p.1 == 6) = true by rw [beq_iff_eq]; exact c6, cond_true]
      have hst : sameP p (6, 0, 0, [], [], [], p.2.2.2.2.2.2.1, p.2.2.2.2.2.2.2.1, p.2.2.2.2.2.2.2.2.1, p.2.2.2.2.2.2.2.2.2.1, ()) = ((p.2.1 == 0) && (bareB p && (((p.2.2.2.2.1.length : Int) == 0) && ((p.2.2.2.2.2.1.length : Int) == 0)))) := by
        unfold sameP bareB
        simp only [show (p.1 == 6) = true by rw [beq_iff_eq]; exact c6, beq_self_eq_true, sameT_nil, sameL_nil, Bool.true_and, Bool.and_assoc, Bool.and_true]
      cases decide (p.2.2.2.2.2.2.1 < s) with
      | false => simp
      | true =>
      cases decide (p.2.2.2.2.2.2.2.1 < w) with
      | false => simp
      | true =>
      cases decide (p.2.2.2.2.2.2.2.2.1 < w) with
      | false => simp
      | true =>
      cases (p.2.2.2.2.2.2.2.1 != p.2.2.2.2.2.2.2.2.1) with
      | false => simp
      | true =>
      simp only [cond_true]
      refine (fin _ rfl).trans ?_
      simp only [hst]
      cases decide (p.2.2.2.2.2.2.2.2.2.1 ≥ 1) <;> cases (p.2.1 == 0) <;> cases bareB p <;> cases ((p.2.2.2.2.2.1.length : Int) == 0) <;> cases ((p.2.2.2.2.1.length : Int) == 0) <;> rfl
    simp only [show (p.1 == 6) = false by rw [beq_eq_false_iff_ne]; exact c6, cond_false]
    rfl
end Go.Proofs.Pure
