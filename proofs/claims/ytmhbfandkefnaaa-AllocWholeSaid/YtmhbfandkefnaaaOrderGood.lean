/- Which orders may be: lines, takes. -/
import Derived.Test.YtmhbfandkefnaaaLines
set_option linter.unusedVariables false
namespace Go.Proofs.Pure
open Go.Proofs.D Go.Proofs.F

theorem orderLines_val (l : List Ln) (hl : l.length < 1000) (hw : ∀ x ∈ l, WfE kLine x) : order_lines l = some (linesB 4 l) := by
  unfold order_lines linesB
  have := loop_all (step := order_lines.l1) (fun i => (l, (l, ((l.length : Int), (i : Int))))) (lineR 4 l) (.inl l) (.inr false) l.length (by omega) (fun i hi => by
    have e : order_lines.l1 (l, (l, ((l.length : Int), (i : Int)))) = bif decide ((i : Int) < (l.length : Int)) then lineBody (fun x => x) l 4 i (some (.inr (.inr false))) (some (.inl (l, (l, ((l.length : Int), IntKind.i64.wrap ((i : Int) + 1)))))) else some (.inr (.inl l)) := rfl
    rw [e, dec_t (show (i : Int) < (l.length : Int) by omega), lineBody_val _ l 4 i _ _ hi hl rfl, succ_i64 (by omega)]
    rfl) (by
    unfold order_lines.l1
    simp only [dec_f (show ¬ (l.length : Int) < (l.length : Int) by omega), cond_false])
  rw [show (((0 : Nat) : Int)) = 0 from rfl] at this
  rw [this, Option.bind_some]
  cases allFrom (lineR 4 l) 0 l.length <;> rfl

def takesO (id : Int) (l : List Tk) : Bool := allFrom (takeQ 4 4 id l) 0 l.length

theorem fine_val (id : Int) (x : Tk) : order_fine id x = some (tkBase 4 4 id x) := by
  unfold order_fine tkBase
  rw [not_ge, not_ge, show (!decide (x.2.2.2.1 < 1)) = decide (x.2.2.2.1 ≥ 1) by by_cases h : x.2.2.2.1 < 1 <;> simp [h] <;> omega, show (!(x.1 != id)) = (x.1 == id) by simp [bne]]
  cases (x.1 == id) <;> cases decide (x.2.1 < 4) <;> cases decide (x.2.2.1 < 4) <;> rfl

theorem ahead_val (y x : Tk) : order_ahead y x = some (tkPrev y x) := by
  unfold order_ahead tkPrev
  by_cases h1 : y.2.2.1 < x.2.2.1
  · rw [dec_t h1, dec_f (by omega : ¬ y.2.2.1 > x.2.2.1), show (y.2.2.1 == x.2.2.1) = false by rw [beq_eq_false_iff_ne]; omega]; rfl
  · by_cases h2 : y.2.2.1 = x.2.2.1
    · rw [dec_f h1, dec_f (by omega : ¬ y.2.2.1 > x.2.2.1), show (y.2.2.1 == x.2.2.1) = true by rw [beq_iff_eq]; exact h2]
      simp only [cond_false, cond_true, Bool.true_and, Bool.not_false, not_ge]
    · rw [dec_f h1, dec_t (by omega : y.2.2.1 > x.2.2.1), show (y.2.2.1 == x.2.2.1) = false by rw [beq_eq_false_iff_ne]; exact h2]; rfl

theorem orderTakes_val (id : Int) (l : List Tk) (hl : l.length < 1000) : order_takes id l = some (takesO id l) := by
  unfold order_takes takesO
  have := loop_all (step := order_takes.l1) (fun i => (id, (l, (l, ((l.length : Int), (i : Int)))))) (takeQ 4 4 id l) (.inl ()) (.inr false) l.length (by omega) (fun i hi => by
    unfold order_takes.l1 takeQ
    have w3 := succ_i64 (show i < 9223372036854775807 by omega)
    simp only [dec_t (show (i : Int) < (l.length : Int) by omega), cond_true]
    rw [nthK_get (at1_get hi), fine_val, Option.bind_some]
    cases tkBase 4 4 id (at1 l i) with
    | false => rfl
    | true =>
      simp only [Bool.not_true, cond_false, Bool.true_and, w3]
      cases i with
      | zero => rfl
      | succ i =>
        rw [dec_t (by omega : ((i + 1 : Nat) : Int) > 0), pred_i64 (by omega)]
        simp only [cond_true]
        rw [nthK_get (at1_get (by omega : i < l.length)), ahead_val, Option.bind_some, show Nat.beq (i + 1) 0 = false from rfl, Nat.add_sub_cancel]
        cases tkPrev (at1 l i) (at1 l (i + 1)) <;> rfl) (by
    unfold order_takes.l1
    simp only [dec_f (show ¬ (l.length : Int) < (l.length : Int) by omega), cond_false])
  rw [show (((0 : Nat) : Int)) = 0 from rfl] at this
  rw [this, Option.bind_some]
  cases allFrom (takeQ 4 4 id l) 0 l.length <;> rfl
end Go.Proofs.Pure
