/- Lines, takes: which may be. -/
import Derived.Test.YtkipelkedgckoaaSame
set_option linter.unusedVariables false
namespace Go.Proofs.Pure
open Go.Proofs.D Go.Proofs.F

abbrev Prg := Int × Int × Int × List Ln × List Tk × List Ln × Int × Int × Int × Int × Unit

theorem wfL {l : List Ln} (h : ∀ x ∈ l, WfE kLine x) {i : Nat} (hi : i < l.length) : (0 ≤ (at0 l i).1 ∧ (at0 l i).1 < 256) ∧ -9223372036854775808 ≤ (at0 l i).2.1 ∧ (at0 l i).2.1 < 9223372036854775808 := by
  have := h (at0 l i) (get_mem (at_get hi))
  exact ⟨wf_u8 this.1, wf_i64 this.2.1⟩
theorem wfT {l : List Tk} (h : ∀ x ∈ l, WfE kTake x) {i : Nat} (hi : i < l.length) : (0 ≤ (at1 l i).2.1 ∧ (at1 l i).2.1 < 256) ∧ (0 ≤ (at1 l i).2.2.1 ∧ (at1 l i).2.2.1 < 256) ∧ -9223372036854775808 ≤ (at1 l i).2.2.2.1 ∧ (at1 l i).2.2.2.1 < 9223372036854775808 := by
  have := h (at1 l i) (get_mem (at1_get hi))
  exact ⟨wf_u8 this.2.1, wf_u8 this.2.2.1, wf_i64 this.2.2.2.1⟩

/-! ### Lines -/
def lineR (s : Int) (l : List Ln) (i : Nat) : Bool := !decide ((at0 l i).1 ≥ s) && (!decide ((at0 l i).2.1 < 1) && (Nat.beq i 0 || !decide ((at0 l (i - 1)).1 ≥ (at0 l i).1)))
def linesB (s : Int) (l : List Ln) : Bool := allFrom (lineR s l) 0 l.length && decide ((l.length : Int) ≤ 3)

def lineBody {R : Type} (g : Int → Int) (l : List Ln) (s i : Int) (no yes : Option R) : Option R :=
  nthK l i fun e => bif decide (g e.1 ≥ s) then no else bif decide (e.2.1 < 1) then no else bif decide (i > 0) then nthK l (IntKind.i64.wrap (i - 1)) fun e' => bif decide (e'.1 ≥ e.1) then no else yes else yes

theorem lineBody_val {R : Type} (g : Int → Int) (l : List Ln) (s : Int) (i : Nat) (no yes : Option R) (hi : i < l.length) (hl : l.length < 1000) (hg : g (at0 l i).1 = (at0 l i).1) : lineBody g l s i no yes = bif lineR s l i then yes else no := by
  unfold lineBody lineR
  rw [nthK_get (at_get hi), hg]
  cases decide ((at0 l i).1 ≥ s) with
  | true => rfl
  | false =>
    cases decide ((at0 l i).2.1 < 1) with
    | true => rfl
    | false =>
      cases i with
      | zero => rfl
      | succ i =>
        rw [dec_t (by omega : ((i + 1 : Nat) : Int) > 0), pred_i64 (by omega)]
        simp only [cond_true, cond_false]
        rw [nthK_get (at_get (by omega : i < l.length)), show Nat.beq (i + 1) 0 = false from rfl, Nat.add_sub_cancel]
        cases decide ((at0 l i).1 ≥ (at0 l (i + 1)).1) <;> rfl

theorem wrapL {l : List Ln} (h : ∀ x ∈ l, WfE kLine x) {i : Nat} (hi : i < l.length) : IntKind.i64.wrap (at0 l i).1 = (at0 l i).1 := by
  have := wfL h hi
  exact wrap_i64 (by omega) (by omega)

theorem progLines_val (s : Int) (l : List Ln) (hl : l.length < 1000) (hw : ∀ x ∈ l, WfE kLine x) : prog_lines s l = some (linesB s l) := by
  unfold prog_lines linesB
  have := loop_all (step := prog_lines.l1) (fun i => (s, (l, (l, ((l.length : Int), (i : Int)))))) (lineR s l) (.inl l) (.inr false) l.length (by omega) (fun i hi => by
    have e : prog_lines.l1 (s, (l, (l, ((l.length : Int), (i : Int))))) = bif decide ((i : Int) < (l.length : Int)) then lineBody IntKind.i64.wrap l s i (some (.inr (.inr false))) (some (.inl (s, (l, (l, ((l.length : Int), IntKind.i64.wrap ((i : Int) + 1))))))) else some (.inr (.inl l)) := rfl
    rw [e, dec_t (show (i : Int) < (l.length : Int) by omega), lineBody_val _ l s i _ _ hi hl (wrapL hw hi), succ_i64 (by omega)]
    rfl) (by
    unfold prog_lines.l1
    simp only [dec_f (show ¬ (l.length : Int) < (l.length : Int) by omega), cond_false])
  rw [show (((0 : Nat) : Int)) = 0 from rfl] at this
  rw [this, Option.bind_some]
  cases allFrom (lineR s l) 0 l.length <;> rfl

theorem refLines_val (s : Int) (l : List Ln) (hl : l.length < 1000) (hw : ∀ x ∈ l, WfE kLine x) : pledgeref12_Lines s l = some (linesB s l) := by
  unfold pledgeref12_Lines linesB
  have := loop_all (step := pledgeref12_Lines.l1) (fun i => (s, (l, (i : Int)))) (lineR s l) (.inl l) (.inr false) l.length (by omega) (fun i hi => by
    unfold pledgeref12_Lines.l1
    simp only [dec_t (show (i : Int) < (l.length : Int) by omega), cond_true]
    have e : ∀ (no yes : Option ((Int × List Ln × Int) ⊕ (List Ln ⊕ Bool))), (nthK l (i : Int) fun e6 => bif decide ((IntKind.i64.wrap e6.1) ≥ s) then no else nthK l (i : Int) fun e7 => bif decide (e7.2.1 < 1) then no else bif decide ((i : Int) > 0) then nthK l (IntKind.i64.wrap ((i : Int) - 1)) fun e8 => nthK l (i : Int) fun e9 => bif decide (e8.1 ≥ e9.1) then no else yes else yes) = lineBody IntKind.i64.wrap l s i no yes := by
      intro no yes
      unfold lineBody
      rw [nthK_get (at_get hi), nthK_get (at_get hi), nthK_get (at_get hi)]
      congr 1
      congr 1
      cases i with
      | zero => rfl
      | succ i =>
        rw [dec_t (by omega : ((i + 1 : Nat) : Int) > 0), pred_i64 (by omega)]
        simp only [cond_true]
        rw [nthK_get (at_get (by omega : i < l.length)), nthK_get (at_get (by omega : i < l.length)), nthK_get (at_get hi)]
    rw [e, lineBody_val _ l s i _ _ hi hl (wrapL hw hi), succ_i64 (by omega)]) (by
    unfold pledgeref12_Lines.l1
    simp only [dec_f (show ¬ (l.length : Int) < (l.length : Int) by omega), cond_false])
  rw [show (((0 : Nat) : Int)) = 0 from rfl] at this
  rw [this, Option.bind_some]
  cases allFrom (lineR s l) 0 l.length <;> rfl

/-! ### Takes -/
def tkBase (s w id : Int) (x : Tk) : Bool := !(x.1 != id) && (!decide (x.2.1 ≥ s) && (!decide (x.2.2.1 ≥ w) && !decide (x.2.2.2.1 < 1)))
def tkPrev (y x : Tk) : Bool := !decide (y.2.2.1 > x.2.2.1) && !((y.2.2.1 == x.2.2.1) && decide (y.2.1 ≥ x.2.1))
def takeQ (s w id : Int) (l : List Tk) (i : Nat) : Bool := tkBase s w id (at1 l i) && (Nat.beq i 0 || tkPrev (at1 l (i - 1)) (at1 l i))
def takeR (s w id : Int) (l : List Tk) (i : Nat) : Bool := takeQ s w id l i && (Nat.ble i 2 || !((at1 l (i - 3)).2.2.1 == (at1 l i).2.2.1))
def takesB (s w id : Int) (l : List Tk) : Bool := allFrom (takeR s w id l) 0 l.length && decide ((l.length : Int) ≤ 12)

theorem wrapT {l : List Tk} (h : ∀ x ∈ l, WfE kTake x) {i : Nat} (hi : i < l.length) : IntKind.i64.wrap (at1 l i).2.1 = (at1 l i).2.1 ∧ IntKind.i64.wrap (at1 l i).2.2.1 = (at1 l i).2.2.1 := by
  have := wfT h hi
  exact ⟨wrap_i64 (by omega) (by omega), wrap_i64 (by omega) (by omega)⟩

theorem progTakes_val (s w : Int) (p : Prg) (hl : p.2.2.2.2.1.length < 1000) (hw : ∀ x ∈ p.2.2.2.2.1, WfE kTake x) : prog_takes s w p = some (takesB s w p.2.1 p.2.2.2.2.1) := by
  obtain ⟨kind, id, pol, lines, l, owes, rest⟩ := p
  simp only at hl hw ⊢
  unfold prog_takes takesB
  have := loop_all (step := prog_takes.l1) (fun i => ((s, (w, ((), (l, ((l.length : Int), (i : Int)))))), ((kind, id, pol, lines, l, owes, rest), ()))) (takeR s w id l) (.inl ((), ((kind, id, pol, lines, l, owes, rest), ()))) (.inr false) l.length (by omega) (fun i hi => by
    obtain ⟨w1, w2⟩ := wrapT hw hi
    unfold prog_takes.l1 takeR takeQ tkBase
    simp only [dec_t (show (i : Int) < (l.length : Int) by omega), cond_true]
    have w3 := succ_i64 (show i < 9223372036854775807 by omega)
    rw [nthK_get (at1_get hi), w1, w2]
    cases ((at1 l i).1 != id) with
    | true => rfl
    | false =>
      cases decide ((at1 l i).2.1 ≥ s) with
      | true => rfl
      | false =>
        cases decide ((at1 l i).2.2.1 ≥ w) with
        | true => rfl
        | false =>
          cases decide ((at1 l i).2.2.2.1 < 1) with
          | true => rfl
          | false =>
            simp only [cond_false, Bool.not_false, Bool.true_and]
            -- the one ahead
            have prev : ∀ (no yes : Option (((Int × Int × Unit × List Tk × Int × Int) × Prg × Unit) ⊕ ((Unit × Prg × Unit) ⊕ Bool))), (bif decide ((i : Int) > 0) then nthK l (IntKind.i64.wrap ((i : Int) - 1)) fun e33 => bif decide (e33.2.2.1 > (at1 l i).2.2.1) then no else nthK l (IntKind.i64.wrap ((i : Int) - 1)) fun e34 => bif e34.2.2.1 == (at1 l i).2.2.1 then nthK l (IntKind.i64.wrap ((i : Int) - 1)) fun e35 => bif decide (e35.2.1 ≥ (at1 l i).2.1) then no else yes else yes else yes) =
                bif (Nat.beq i 0 || tkPrev (at1 l (i - 1)) (at1 l i)) then yes else no := by
              intro no yes
              cases i with
              | zero => rfl
              | succ i =>
                rw [dec_t (by omega : ((i + 1 : Nat) : Int) > 0), pred_i64 (by omega)]
                have hi' := at1_get (by omega : i < l.length)
                simp only [cond_true]
                rw [nthK_get hi', nthK_get hi', nthK_get hi', show Nat.beq (i + 1) 0 = false from rfl, Nat.add_sub_cancel]
                unfold tkPrev
                cases decide ((at1 l i).2.2.1 > (at1 l (i + 1)).2.2.1) <;> cases ((at1 l i).2.2.1 == (at1 l (i + 1)).2.2.1) <;> cases decide ((at1 l i).2.1 ≥ (at1 l (i + 1)).2.1) <;> rfl
            by_cases h3 : i ≤ 2
            · rw [dec_f (by omega : ¬ (i : Int) ≥ 3), Nat.ble_eq_true_of_le h3]
              simp only [cond_false, Option.bind_some, w3]
              rw [prev]
              cases (Nat.beq i 0 || tkPrev (at1 l (i - 1)) (at1 l i)) <;> rfl
            · have hw3 : IntKind.i64.wrap ((i : Int) - 3) = ((i - 3 : Nat) : Int) := by rw [wrap_i64 (by omega) (by omega)]; omega
              have hb : Nat.ble i 2 = false := by cases hq : Nat.ble i 2 with
                | false => rfl
                | true => exact absurd (Nat.le_of_ble_eq_true hq) h3
              rw [dec_t (by omega : (i : Int) ≥ 3), hw3, hb]
              simp only [cond_true]
              rw [nthK_get (at1_get (by omega : i - 3 < l.length))]
              cases ((at1 l (i - 3)).2.2.1 == (at1 l i).2.2.1) with
              | true => simp only [cond_true, Option.bind_some]; cases (Nat.beq i 0 || tkPrev (at1 l (i - 1)) (at1 l i)) <;> rfl
              | false =>
                simp only [cond_false, Option.bind_some, w3]
                rw [prev]
                cases (Nat.beq i 0 || tkPrev (at1 l (i - 1)) (at1 l i)) <;> rfl) (by
    unfold prog_takes.l1
    simp only [dec_f (show ¬ (l.length : Int) < (l.length : Int) by omega), cond_false])
  rw [show (((0 : Nat) : Int)) = 0 from rfl] at this
  rw [this, Option.bind_some]
  cases allFrom (takeR s w id l) 0 l.length <;> rfl

theorem refTakes_val (s w : Int) (p : Prg) (hl : p.2.2.2.2.1.length < 1000) (hw : ∀ x ∈ p.2.2.2.2.1, WfE kTake x) : pledgeref13_takes s w p = some (takesB s w p.2.1 p.2.2.2.2.1) := by
  obtain ⟨kind, id, pol, lines, l, owes, rest⟩ := p
  simp only at hl hw ⊢
  unfold pledgeref13_takes takesB
  have := loop_all (step := pledgeref13_takes.l1) (fun i => ((s, (w, ((), (l, (i : Int))))), ((kind, id, pol, lines, l, owes, rest), ()))) (takeR s w id l) (.inl l) (.inr false) l.length (by omega) (fun i hi => by
    obtain ⟨w1, w2⟩ := wrapT hw hi
    have hg := at1_get hi
    unfold pledgeref13_takes.l1 takeR takeQ tkBase
    simp only [dec_t (show (i : Int) < (l.length : Int) by omega), cond_true]
    have w3 := succ_i64 (show i < 9223372036854775807 by omega)
    rw [nthK_get hg, nthK_get hg, nthK_get hg, nthK_get hg, w1, w2]
    cases ((at1 l i).1 != id) with
    | true => rfl
    | false =>
      cases decide ((at1 l i).2.1 ≥ s) with
      | true => rfl
      | false =>
        cases decide ((at1 l i).2.2.1 ≥ w) with
        | true => rfl
        | false =>
          cases decide ((at1 l i).2.2.2.1 < 1) with
          | true => rfl
          | false =>
            simp only [cond_false, Bool.not_false, Bool.true_and]
            -- the one ahead
            have prev : ∀ (R : Type) (no yes : Option R), (bif decide ((i : Int) > 0) then nthK l (IntKind.i64.wrap ((i : Int) - 1)) fun e43 => nthK l (i : Int) fun e44 => bif decide (e43.2.2.1 > e44.2.2.1) then no else nthK l (IntKind.i64.wrap ((i : Int) - 1)) fun e45 => nthK l (i : Int) fun e46 => bif e45.2.2.1 == e46.2.2.1 then nthK l (IntKind.i64.wrap ((i : Int) - 1)) fun e47 => nthK l (i : Int) fun e48 => bif decide (e47.2.1 ≥ e48.2.1) then no else yes else yes else yes) =
                bif (Nat.beq i 0 || tkPrev (at1 l (i - 1)) (at1 l i)) then yes else no := by
              intro R no yes
              cases i with
              | zero => rfl
              | succ i =>
                rw [dec_t (by omega : ((i + 1 : Nat) : Int) > 0), pred_i64 (by omega)]
                have hi' := at1_get (by omega : i < l.length)
                simp only [cond_true]
                rw [nthK_get hi', nthK_get hg, nthK_get hi', nthK_get hg, nthK_get hi', nthK_get hg, show Nat.beq (i + 1) 0 = false from rfl, Nat.add_sub_cancel]
                unfold tkPrev
                cases decide ((at1 l i).2.2.1 > (at1 l (i + 1)).2.2.1) <;> cases ((at1 l i).2.2.1 == (at1 l (i + 1)).2.2.1) <;> cases decide ((at1 l i).2.1 ≥ (at1 l (i + 1)).2.1) <;> rfl
            rw [prev]
            cases (Nat.beq i 0 || tkPrev (at1 l (i - 1)) (at1 l i)) with
            | false => rfl
            | true =>
              simp only [cond_true, Option.bind_some, Bool.true_and]
              by_cases h3 : i ≤ 2
              · rw [dec_f (by omega : ¬ (i : Int) ≥ 3), Nat.ble_eq_true_of_le h3]
                simp only [cond_false, w3, Bool.true_or, cond_true]
              · have hw3 : IntKind.i64.wrap ((i : Int) - 3) = ((i - 3 : Nat) : Int) := by rw [wrap_i64 (by omega) (by omega)]; omega
                have hb : Nat.ble i 2 = false := by cases hq : Nat.ble i 2 with
                  | false => rfl
                  | true => exact absurd (Nat.le_of_ble_eq_true hq) h3
                rw [dec_t (by omega : (i : Int) ≥ 3), hw3, hb]
                simp only [cond_true]
                rw [nthK_get (at1_get (by omega : i - 3 < l.length)), nthK_get hg, w3]
                cases ((at1 l (i - 3)).2.2.1 == (at1 l i).2.2.1) <;> rfl) (by
    unfold pledgeref13_takes.l1
    simp only [dec_f (show ¬ (l.length : Int) < (l.length : Int) by omega), cond_false])
  rw [show (((0 : Nat) : Int)) = 0 from rfl] at this
  rw [this, Option.bind_some]
  cases allFrom (takeR s w id l) 0 l.length <;> rfl
end Go.Proofs.Pure
