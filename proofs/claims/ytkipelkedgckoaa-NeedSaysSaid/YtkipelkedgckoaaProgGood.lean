/- Which programs may be. -/
import Derived.Test.YtkipelkedgckoaaCovered
import Derived.Test.YtkipelkedgckoaaFills
set_option linter.unusedVariables false
namespace Go.Proofs.Pure
open Go.Proofs.D Go.Proofs.F

def stillB (p : Prg) : Bool := (p.2.2.2.2.2.2.1 == 0) && ((p.2.2.2.2.2.2.2.1 == 0) && ((p.2.2.2.2.2.2.2.2.1 == 0) && (p.2.2.2.2.2.2.2.2.2.1 == 0)))
def bareB (p : Prg) : Bool := (p.2.2.1 == 0) && ((p.2.2.2.1.length : Int) == 0)
theorem still_val (p : Prg) : prog_still p = some (stillB p) := by
  unfold prog_still stillB
  cases (p.2.2.2.2.2.2.1 == 0) <;> cases (p.2.2.2.2.2.2.2.1 == 0) <;> cases (p.2.2.2.2.2.2.2.2.1 == 0) <;> rfl
theorem bare_val (p : Prg) : prog_bare p = some (bareB p) := by
  unfold prog_bare bareB
  cases (p.2.2.1 == 0) <;> rfl

def orderedB (p : Prg) : Bool := (p.2.1 != 0) && stillB p
def movedB (s w : Int) (p : Prg) : Bool := (p.2.1 == 0) && (bareB p && (((p.2.2.2.2.2.1.length : Int) == 0) && (decide (p.2.2.2.2.2.2.1 < s) && (decide (p.2.2.2.2.2.2.2.2.1 < w) && decide (p.2.2.2.2.2.2.2.2.2.1 ≥ 1)))))

def goodKind (s w : Int) (p : Prg) : Bool :=
  bif p.1 == 1 then orderedB p && (decide (p.2.2.1 ≤ 1) && (decide ((p.2.2.2.1.length : Int) > 0) && (linesB s p.2.2.2.1 && (takesB s w p.2.1 p.2.2.2.2.1 && (linesB s p.2.2.2.2.2.1 && (coveredB p.2.2.2.2.1 p.2.2.2.2.2.1 p.2.2.2.1 && ((p.2.2.1 == 0) || ((p.2.2.2.2.2.1.length : Int) == 0))))))))
  else bif p.1 == 2 then orderedB p && (bareB p && (takesB s w p.2.1 p.2.2.2.2.1 && (linesB s p.2.2.2.2.2.1 && decide ((p.2.2.2.2.1.length : Int) + (p.2.2.2.2.2.1.length : Int) > 0))))
  else bif (p.1 == 3) || (p.1 == 4) then orderedB p && (bareB p && (takesB s w p.2.1 p.2.2.2.2.1 && (decide ((p.2.2.2.2.1.length : Int) > 0) && ((p.2.2.2.2.2.1.length : Int) == 0))))
  else bif p.1 == 5 then movedB s w p && ((p.2.2.2.2.2.2.2.1 == 0) && fillsB p)
  else bif p.1 == 6 then movedB s w p && (((p.2.2.2.2.1.length : Int) == 0) && (decide (p.2.2.2.2.2.2.2.1 < w) && (p.2.2.2.2.2.2.2.1 != p.2.2.2.2.2.2.2.2.1)))
  else false
def fineB (s w : Int) : Bool := !decide (s < 1) && (!decide (s > 4) && (!decide (w < 1) && !decide (w > 4)))
def goodP (s w : Int) (p : Prg) : Bool := fineB s w && goodKind s w p

structure Few (p : Prg) : Prop where
  wf : WfE kProgram p
  lines : p.2.2.2.1.length ≤ 100
  takes : p.2.2.2.2.1.length ≤ 100
  owes : p.2.2.2.2.2.1.length ≤ 100

theorem takesB_lt {s w id : Int} {l : List Tk} (h : takesB s w id l = true) : ∀ x ∈ l, x.1 = id ∧ x.2.1 < s ∧ x.2.2.1 < w ∧ 1 ≤ x.2.2.2.1 := by
  unfold takesB at h
  simp only [Bool.and_eq_true, decide_eq_true_eq] at h
  intro x hx
  obtain ⟨i, hi, e⟩ := List.getElem_of_mem hx
  have := allFrom_at h.1 hi
  have ea : at1 l i = x := by unfold at1; rw [List.getD_eq_getElem?_getD, List.getElem?_eq_getElem hi, e]; rfl
  unfold takeR takeQ tkBase at this
  rw [ea] at this
  simp only [Bool.and_eq_true, Bool.not_eq_true', decide_eq_false_iff_not, bne_eq_false_iff_eq] at this
  obtain ⟨⟨⟨h1, h2, h3, h4⟩, _⟩, _⟩ := this
  exact ⟨h1, by omega, by omega, by omega⟩

theorem Few.w1 {p : Prg} (h : Few p) : ∀ x ∈ p.2.2.2.1, WfE kLine x := h.wf.2.2.2.1.2
theorem Few.w2 {p : Prg} (h : Few p) : ∀ x ∈ p.2.2.2.2.1, WfE kTake x := h.wf.2.2.2.2.1.2
theorem Few.w3 {p : Prg} (h : Few p) : ∀ x ∈ p.2.2.2.2.2.1, WfE kLine x := h.wf.2.2.2.2.2.1.2
theorem Few.k {p : Prg} (h : Few p) : (0 ≤ p.2.2.2.2.2.2.1 ∧ p.2.2.2.2.2.2.1 < 256) ∧ (0 ≤ p.2.2.2.2.2.2.2.1 ∧ p.2.2.2.2.2.2.2.1 < 256) ∧ (0 ≤ p.2.2.2.2.2.2.2.2.1 ∧ p.2.2.2.2.2.2.2.2.1 < 256) :=
  ⟨wf_u8 h.wf.2.2.2.2.2.2.1, wf_u8 h.wf.2.2.2.2.2.2.2.1, wf_u8 h.wf.2.2.2.2.2.2.2.2.1⟩

theorem covered_of {s w : Int} {p : Prg} (h : Few p) (hs : s ≤ 4) (h1 : linesB s p.2.2.2.1 = true) (h2 : takesB s w p.2.1 p.2.2.2.2.1 = true) (h3 : linesB s p.2.2.2.2.2.1 = true) :
    prog_covered p = some (coveredB p.2.2.2.2.1 p.2.2.2.2.2.1 p.2.2.2.1) := by
  have l1 := h.lines; have l2 := h.takes; have l3 := h.owes
  exact progCovered_val p (by omega) (by omega) (by omega) h.w2 h.w3
    (fun x hx => ⟨(wf_u8 (h.w1 x hx).1).1, by have := (linesB_lt h1 x hx).1; omega⟩) (fun x hx => ⟨(wf_u8 (h.w2 x hx).2.1).1, by have := (takesB_lt h2 x hx).2.1; omega⟩) (fun x hx => ⟨(wf_u8 (h.w3 x hx).1).1, by have := (linesB_lt h3 x hx).1; omega⟩)

theorem progGood_val (s w : Int) (p : Prg) (h : Few p) : prog_Good s w p = some (goodP s w p) := by
  have l1 := h.lines; have l2 := h.takes; have l3 := h.owes
  obtain ⟨k1, k2, k3⟩ := h.k
  unfold prog_Good goodP fineB
  cases hs1 : decide (s < 1) with
  | true => rfl
  | false =>
  cases hs2 : decide (s > 4) with
  | true => rfl
  | false =>
  cases hw1 : decide (w < 1) with
  | true => rfl
  | false =>
  cases hw2 : decide (w > 4) with
  | true => rfl
  | false =>
  have hs : s ≤ 4 := by simpa using hs2
  simp only [cond_false, Bool.not_false, Bool.true_and, still_val, bare_val, progLines_val s _ (show p.2.2.2.1.length < 1000 by omega) h.w1, progLines_val s _ (show p.2.2.2.2.2.1.length < 1000 by omega) h.w3, progTakes_val s w p (by omega) h.w2, progFills_val p (by omega) h.w2,
    wrap_i64 (show -9223372036854775808 ≤ p.2.2.2.2.2.2.1 by omega) (by omega), wrap_i64 (show -9223372036854775808 ≤ p.2.2.2.2.2.2.2.1 by omega) (by omega), wrap_i64 (show -9223372036854775808 ≤ p.2.2.2.2.2.2.2.2.1 by omega) (by omega),
    Option.bind_some, cond_some, fst_cond, snd_cond, Bool.cond_self, cond_no]
  have e34 : (bif p.1 == 3 then p.1 == 3 else p.1 == 4) = ((p.1 == 3) || (p.1 == 4)) := by cases (p.1 == 3) <;> rfl
  have hwr : IntKind.i64.wrap ((p.2.2.2.2.1.length : Int) + (p.2.2.2.2.2.1.length : Int)) = (p.2.2.2.2.1.length : Int) + (p.2.2.2.2.2.1.length : Int) := wrap_i64 (by omega) (by omega)
  unfold goodKind orderedB movedB
  rw [e34, hwr]
  cases p.1 == 1 with
  | false => simp only [cond_false, cond_no]
  | true =>
    simp only [cond_true]
    cases ((p.2.1 != 0) && stillB p) with
    | false => rfl
    | true =>
    cases decide (p.2.2.1 ≤ 1) with
    | false => rfl
    | true =>
    cases decide ((p.2.2.2.1.length : Int) > 0) with
    | false => rfl
    | true =>
    cases c1 : linesB s p.2.2.2.1 with
    | false => rfl
    | true =>
    cases c2 : takesB s w p.2.1 p.2.2.2.2.1 with
    | false => rfl
    | true =>
    cases c3 : linesB s p.2.2.2.2.2.1 with
    | false => rfl
    | true =>
    simp only [cond_true, Bool.true_and]
    rw [covered_of h hs c1 c2 c3, Option.bind_some, cond_yes]
end Go.Proofs.Pure
