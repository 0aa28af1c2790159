/- What a crash undoes was held, too: the plain law and all that it leans on. -/
import Derived.Test.YtkcjpifpljgpeaaGreatFnNcr
import Derived.Test.YtkcjpifpljgpeaaGreatPLib
import Derived.Test.YtkcjpifpljgpeaaGreatDOpen
set_option linter.unusedVariables false
set_option linter.unusedSimpArgs false
set_option maxRecDepth 100000

/- The base of the laws of courses: steps, records, what is needed (texts of P in one). -/

/- Lists of lines, of takes: which are the same. -/
namespace Go.Proofs.Pure
open Go.Proofs.D Go.Proofs.F

abbrev Ln := Int × Int × Unit
abbrev Stp := Int × Int × List Ln × Unit
def ln0 : Ln := (0, (0, ()))
def at0 (l : List Ln) (i : Nat) : Ln := l.getD i ln0
theorem at_get {l : List Ln} {i : Nat} (h : i < l.length) : l[i]? = some (at0 l i) := by
  unfold at0; rw [List.getD_eq_getElem?_getD, List.getElem?_eq_getElem h]; rfl

def sameL (x y : List Ln) : Bool := (x.length == y.length) && allFrom (fun i => eqE kLine (at0 x i) (at0 y i)) 0 x.length

theorem equal_val (x y : List Ln) (hx : x.length < 1000) : slices_Equal_api_Line_api_Line x y = some (sameL x y) := by
  unfold slices_Equal_api_Line_api_Line sameL
  by_cases h : x.length = y.length
  · have e : (((x.length : Int) : Int) != (y.length : Int)) = false := by simp [h]
    rw [e]
    simp only [cond_false]
    have := loop_all (step := slices_Equal_api_Line_api_Line.l1) (fun i => (x, (y, ((x.length : Int), (i : Int))))) (fun i => eqE kLine (at0 x i) (at0 y i)) (.inl ()) (.inr false) x.length (by omega) (fun i hi => by
      unfold slices_Equal_api_Line_api_Line.l1
      simp only [dec_t (show (i : Int) < (x.length : Int) by omega), cond_true]
      rw [nthK_get (at_get hi), nthK_get (at_get (by omega : i < y.length))]
      cases eqE kLine (at0 x i) (at0 y i) with
      | true => simp only [Bool.not_true, cond_false, cond_true]; rw [succ_i64 (by omega)]
      | false => rfl) (by
      unfold slices_Equal_api_Line_api_Line.l1
      simp only [dec_f (show ¬ (x.length : Int) < (x.length : Int) by omega), cond_false])
    rw [show (((0 : Nat) : Int)) = 0 from rfl] at this
    rw [this, Option.bind_some]
    rw [show (x.length == y.length) = true by simp [h], Bool.true_and]
    cases allFrom (fun i => eqE kLine (at0 x i) (at0 y i)) 0 x.length <;> rfl
  · have e : (((x.length : Int) : Int) != (y.length : Int)) = true := by simp; omega
    rw [e, show (x.length == y.length) = false by simp [h]]
    rfl

theorem ref_equal_val (x y : List Ln) (hx : x.length < 1000) : pledgeref12_SameLines x y = some (sameL x y) := by
  unfold pledgeref12_SameLines sameL
  by_cases h : x.length = y.length
  · have e : (((x.length : Int) : Int) != (y.length : Int)) = false := by simp [h]
    rw [e]
    simp only [cond_false]
    have := loop_all (step := pledgeref12_SameLines.l1) (fun i => (x, (y, (i : Int)))) (fun i => eqE kLine (at0 x i) (at0 y i)) (.inl ()) (.inr false) x.length (by omega) (fun i hi => by
      unfold pledgeref12_SameLines.l1
      simp only [dec_t (show (i : Int) < (x.length : Int) by omega), cond_true]
      rw [nthK_get (at_get hi), nthK_get (at_get (by omega : i < y.length))]
      cases eqE kLine (at0 x i) (at0 y i) with
      | true => simp only [Bool.not_true, cond_false, cond_true]; rw [succ_i64 (by omega)]
      | false => rfl) (by
      unfold pledgeref12_SameLines.l1
      simp only [dec_f (show ¬ (x.length : Int) < (x.length : Int) by omega), cond_false])
    rw [show (((0 : Nat) : Int)) = 0 from rfl] at this
    rw [this, Option.bind_some]
    rw [show (x.length == y.length) = true by simp [h], Bool.true_and]
    cases allFrom (fun i => eqE kLine (at0 x i) (at0 y i)) 0 x.length <;> rfl
  · have e : (((x.length : Int) : Int) != (y.length : Int)) = true := by simp; omega
    rw [e, show (x.length == y.length) = false by simp [h]]
    rfl

theorem eqLine_refl (a : Ln) : eqE kLine a a = true := by
  show ((a.1 == a.1) && ((a.2.1 == a.2.1) && true)) = true
  simp

theorem sameL_refl (x : List Ln) : sameL x x = true := by
  unfold sameL
  rw [show (x.length == x.length) = true by simp, Bool.true_and, allFrom_iff]
  exact fun j _ _ => eqLine_refl _


abbrev Tk := Int × Int × Int × Int × Unit
def tk0 : Tk := (0, (0, (0, (0, ()))))
def at1 (l : List Tk) (i : Nat) : Tk := l.getD i tk0
theorem at1_get {l : List Tk} {i : Nat} (h : i < l.length) : l[i]? = some (at1 l i) := by
  unfold at1; rw [List.getD_eq_getElem?_getD, List.getElem?_eq_getElem h]; rfl

def sameT (x y : List Tk) : Bool := (x.length == y.length) && allFrom (fun i => eqE kTake (at1 x i) (at1 y i)) 0 x.length

theorem equalT_val (x y : List Tk) (hx : x.length < 1000) : slices_Equal_api_Take_api_Take x y = some (sameT x y) := by
  unfold slices_Equal_api_Take_api_Take sameT
  by_cases h : x.length = y.length
  · have e : (((x.length : Int) : Int) != (y.length : Int)) = false := by simp [h]
    rw [e]
    simp only [cond_false]
    have := loop_all (step := slices_Equal_api_Take_api_Take.l1) (fun i => (x, (y, ((x.length : Int), (i : Int))))) (fun i => eqE kTake (at1 x i) (at1 y i)) (.inl ()) (.inr false) x.length (by omega) (fun i hi => by
      unfold slices_Equal_api_Take_api_Take.l1
      simp only [dec_t (show (i : Int) < (x.length : Int) by omega), cond_true]
      rw [nthK_get (at1_get hi), nthK_get (at1_get (by omega : i < y.length))]
      cases eqE kTake (at1 x i) (at1 y i) with
      | true => simp only [Bool.not_true, cond_false, cond_true]; rw [succ_i64 (by omega)]
      | false => rfl) (by
      unfold slices_Equal_api_Take_api_Take.l1
      simp only [dec_f (show ¬ (x.length : Int) < (x.length : Int) by omega), cond_false])
    rw [show (((0 : Nat) : Int)) = 0 from rfl] at this
    rw [this, Option.bind_some]
    rw [show (x.length == y.length) = true by simp [h], Bool.true_and]
    cases allFrom (fun i => eqE kTake (at1 x i) (at1 y i)) 0 x.length <;> rfl
  · have e : (((x.length : Int) : Int) != (y.length : Int)) = true := by simp; omega
    rw [e, show (x.length == y.length) = false by simp [h]]
    rfl

theorem ref_equalT_val (x y : List Tk) (hx : x.length < 1000) : pledgeref13_SameTakes x y = some (sameT x y) := by
  unfold pledgeref13_SameTakes sameT
  by_cases h : x.length = y.length
  · have e : (((x.length : Int) : Int) != (y.length : Int)) = false := by simp [h]
    rw [e]
    simp only [cond_false]
    have := loop_all (step := pledgeref13_SameTakes.l1) (fun i => (x, (y, (i : Int)))) (fun i => eqE kTake (at1 x i) (at1 y i)) (.inl ()) (.inr false) x.length (by omega) (fun i hi => by
      unfold pledgeref13_SameTakes.l1
      simp only [dec_t (show (i : Int) < (x.length : Int) by omega), cond_true]
      rw [nthK_get (at1_get hi), nthK_get (at1_get (by omega : i < y.length))]
      cases eqE kTake (at1 x i) (at1 y i) with
      | true => simp only [Bool.not_true, cond_false, cond_true]; rw [succ_i64 (by omega)]
      | false => rfl) (by
      unfold pledgeref13_SameTakes.l1
      simp only [dec_f (show ¬ (x.length : Int) < (x.length : Int) by omega), cond_false])
    rw [show (((0 : Nat) : Int)) = 0 from rfl] at this
    rw [this, Option.bind_some]
    rw [show (x.length == y.length) = true by simp [h], Bool.true_and]
    cases allFrom (fun i => eqE kTake (at1 x i) (at1 y i)) 0 x.length <;> rfl
  · have e : (((x.length : Int) : Int) != (y.length : Int)) = true := by simp; omega
    rw [e, show (x.length == y.length) = false by simp [h]]
    rfl

theorem eqTake_refl (a : Tk) : eqE kTake a a = true := by
  show ((a.1 == a.1) && ((a.2.1 == a.2.1) && ((a.2.2.1 == a.2.2.1) && ((a.2.2.2.1 == a.2.2.2.1) && true)))) = true
  simp

theorem sameT_refl (x : List Tk) : sameT x x = true := by
  unfold sameT
  rw [show (x.length == x.length) = true by simp, Bool.true_and, allFrom_iff]
  exact fun j _ _ => eqTake_refl _

end Go.Proofs.Pure

/- Lines, takes: which may be. -/
namespace Go.Proofs.Pure
open Go.Proofs.D Go.Proofs.F

abbrev Prg := Int × Int × Int × List Ln × List Tk × List Ln × Int × Int × Int × Int × Unit

theorem wfL {l : List Ln} (h : ∀ x ∈ l, WfE kLine x) {i : Nat} (hi : i < l.length) : (0 ≤ (at0 l i).1 ∧ (at0 l i).1 < 256) ∧ -9223372036854775808 ≤ (at0 l i).2.1 ∧ (at0 l i).2.1 < 9223372036854775808 := by
  have := h (at0 l i) (get_mem (at_get hi))
  exact ⟨wf_u8 this.1, wf_i64 this.2.1⟩
theorem wfT {l : List Tk} (h : ∀ x ∈ l, WfE kTake x) {i : Nat} (hi : i < l.length) : (0 ≤ (at1 l i).2.1 ∧ (at1 l i).2.1 < 256) ∧ (0 ≤ (at1 l i).2.2.1 ∧ (at1 l i).2.2.1 < 256) ∧ -9223372036854775808 ≤ (at1 l i).2.2.2.1 ∧ (at1 l i).2.2.2.1 < 9223372036854775808 := by
  have := h (at1 l i) (get_mem (at1_get hi))
  exact ⟨wf_u8 this.2.1, wf_u8 this.2.2.1, wf_i64 this.2.2.2.1⟩

/-! ### Lines -/
def lineR (s : Int) (l : List Ln) (i : Nat) : Bool := !decide ((at0 l i).1 ≥ s) && (!decide ((at0 l i).2.1 < 1) && (Nat.beq i 0 || !decide ((at0 l (i - 1)).1 ≥ (at0 l i).1)))
def linesB (s : Int) (l : List Ln) : Bool := allFrom (lineR s l) 0 l.length && decide ((l.length : Int) ≤ 3)

def lineBody {R : Type} (g : Int → Int) (l : List Ln) (s i : Int) (no yes : Option R) : Option R :=
  nthK l i fun e => bif decide (g e.1 ≥ s) then no else bif decide (e.2.1 < 1) then no else bif decide (i > 0) then nthK l (IntKind.i64.wrap (i - 1)) fun e' => bif decide (e'.1 ≥ e.1) then no else yes else yes

theorem lineBody_val {R : Type} (g : Int → Int) (l : List Ln) (s : Int) (i : Nat) (no yes : Option R) (hi : i < l.length) (hl : l.length < 1000) (hg : g (at0 l i).1 = (at0 l i).1) : lineBody g l s i no yes = bif lineR s l i then yes else no := by
  unfold lineBody lineR
  rw [nthK_get (at_get hi), hg]
  cases decide ((at0 l i).1 ≥ s) with
  | true => rfl
  | false =>
    cases decide ((at0 l i).2.1 < 1) with
    | true => rfl
    | false =>
      cases i with
      | zero => rfl
      | succ i =>
        rw [dec_t (by omega : ((i + 1 : Nat) : Int) > 0), pred_i64 (by omega)]
        simp only [cond_true, cond_false]
        rw [nthK_get (at_get (by omega : i < l.length)), show Nat.beq (i + 1) 0 = false from rfl, Nat.add_sub_cancel]
        cases decide ((at0 l i).1 ≥ (at0 l (i + 1)).1) <;> rfl

theorem wrapL {l : List Ln} (h : ∀ x ∈ l, WfE kLine x) {i : Nat} (hi : i < l.length) : IntKind.i64.wrap (at0 l i).1 = (at0 l i).1 := by
  have := wfL h hi
  exact wrap_i64 (by omega) (by omega)

theorem progLines_val (s : Int) (l : List Ln) (hl : l.length < 1000) (hw : ∀ x ∈ l, WfE kLine x) : prog_lines s l = some (linesB s l) := by
  unfold prog_lines linesB
  have := loop_all (step := prog_lines.l1) (fun i => (s, (l, (l, ((l.length : Int), (i : Int)))))) (lineR s l) (.inl l) (.inr false) l.length (by omega) (fun i hi => by
    have e : prog_lines.l1 (s, (l, (l, ((l.length : Int), (i : Int))))) = bif decide ((i : Int) < (l.length : Int)) then lineBody IntKind.i64.wrap l s i (some (.inr (.inr false))) (some (.inl (s, (l, (l, ((l.length : Int), IntKind.i64.wrap ((i : Int) + 1))))))) else some (.inr (.inl l)) := rfl
    rw [e, dec_t (show (i : Int) < (l.length : Int) by omega), lineBody_val _ l s i _ _ hi hl (wrapL hw hi), succ_i64 (by omega)]
    rfl) (by
    unfold prog_lines.l1
    simp only [dec_f (show ¬ (l.length : Int) < (l.length : Int) by omega), cond_false])
  rw [show (((0 : Nat) : Int)) = 0 from rfl] at this
  rw [this, Option.bind_some]
  cases allFrom (lineR s l) 0 l.length <;> rfl

theorem refLines_val (s : Int) (l : List Ln) (hl : l.length < 1000) (hw : ∀ x ∈ l, WfE kLine x) : pledgeref12_Lines s l = some (linesB s l) := by
  unfold pledgeref12_Lines linesB
  have := loop_all (step := pledgeref12_Lines.l1) (fun i => (s, (l, (i : Int)))) (lineR s l) (.inl l) (.inr false) l.length (by omega) (fun i hi => by
    unfold pledgeref12_Lines.l1
    simp only [dec_t (show (i : Int) < (l.length : Int) by omega), cond_true]
    have e : ∀ (no yes : Option ((Int × List Ln × Int) ⊕ (List Ln ⊕ Bool))), (nthK l (i : Int) fun e6 => bif decide ((IntKind.i64.wrap e6.1) ≥ s) then no else nthK l (i : Int) fun e7 => bif decide (e7.2.1 < 1) then no else bif decide ((i : Int) > 0) then nthK l (IntKind.i64.wrap ((i : Int) - 1)) fun e8 => nthK l (i : Int) fun e9 => bif decide (e8.1 ≥ e9.1) then no else yes else yes) = lineBody IntKind.i64.wrap l s i no yes := by
      intro no yes
      unfold lineBody
      rw [nthK_get (at_get hi), nthK_get (at_get hi), nthK_get (at_get hi)]
      congr 1
      congr 1
      cases i with
      | zero => rfl
      | succ i =>
        rw [dec_t (by omega : ((i + 1 : Nat) : Int) > 0), pred_i64 (by omega)]
        simp only [cond_true]
        rw [nthK_get (at_get (by omega : i < l.length)), nthK_get (at_get (by omega : i < l.length)), nthK_get (at_get hi)]
    rw [e, lineBody_val _ l s i _ _ hi hl (wrapL hw hi), succ_i64 (by omega)]) (by
    unfold pledgeref12_Lines.l1
    simp only [dec_f (show ¬ (l.length : Int) < (l.length : Int) by omega), cond_false])
  rw [show (((0 : Nat) : Int)) = 0 from rfl] at this
  rw [this, Option.bind_some]
  cases allFrom (lineR s l) 0 l.length <;> rfl

/-! ### Takes -/
def tkBase (s w id : Int) (x : Tk) : Bool := !(x.1 != id) && (!decide (x.2.1 ≥ s) && (!decide (x.2.2.1 ≥ w) && !decide (x.2.2.2.1 < 1)))
def tkPrev (y x : Tk) : Bool := !decide (y.2.2.1 > x.2.2.1) && !((y.2.2.1 == x.2.2.1) && decide (y.2.1 ≥ x.2.1))
def takeQ (s w id : Int) (l : List Tk) (i : Nat) : Bool := tkBase s w id (at1 l i) && (Nat.beq i 0 || tkPrev (at1 l (i - 1)) (at1 l i))
def takeR (s w id : Int) (l : List Tk) (i : Nat) : Bool := takeQ s w id l i && (Nat.ble i 2 || !((at1 l (i - 3)).2.2.1 == (at1 l i).2.2.1))
def takesB (s w id : Int) (l : List Tk) : Bool := allFrom (takeR s w id l) 0 l.length && decide ((l.length : Int) ≤ 12)

theorem wrapT {l : List Tk} (h : ∀ x ∈ l, WfE kTake x) {i : Nat} (hi : i < l.length) : IntKind.i64.wrap (at1 l i).2.1 = (at1 l i).2.1 ∧ IntKind.i64.wrap (at1 l i).2.2.1 = (at1 l i).2.2.1 := by
  have := wfT h hi
  exact ⟨wrap_i64 (by omega) (by omega), wrap_i64 (by omega) (by omega)⟩

theorem progTakes_val (s w : Int) (p : Prg) (hl : p.2.2.2.2.1.length < 1000) (hw : ∀ x ∈ p.2.2.2.2.1, WfE kTake x) : prog_takes s w p = some (takesB s w p.2.1 p.2.2.2.2.1) := by
  obtain ⟨kind, id, pol, lines, l, owes, rest⟩ := p
  simp only at hl hw ⊢
  unfold prog_takes takesB
  have := loop_all (step := prog_takes.l1) (fun i => ((s, (w, ((), (l, ((l.length : Int), (i : Int)))))), ((kind, id, pol, lines, l, owes, rest), ()))) (takeR s w id l) (.inl ((), ((kind, id, pol, lines, l, owes, rest), ()))) (.inr false) l.length (by omega) (fun i hi => by
    obtain ⟨w1, w2⟩ := wrapT hw hi
    unfold prog_takes.l1 takeR takeQ tkBase
    simp only [dec_t (show (i : Int) < (l.length : Int) by omega), cond_true]
    have w3 := succ_i64 (show i < 9223372036854775807 by omega)
    rw [nthK_get (at1_get hi), w1, w2]
    cases ((at1 l i).1 != id) with
    | true => rfl
    | false =>
      cases decide ((at1 l i).2.1 ≥ s) with
      | true => rfl
      | false =>
        cases decide ((at1 l i).2.2.1 ≥ w) with
        | true => rfl
        | false =>
          cases decide ((at1 l i).2.2.2.1 < 1) with
          | true => rfl
          | false =>
            simp only [cond_false, Bool.not_false, Bool.true_and]
            -- the one ahead
            have prev : ∀ (no yes : Option (((Int × Int × Unit × List Tk × Int × Int) × Prg × Unit) ⊕ ((Unit × Prg × Unit) ⊕ Bool))), (bif decide ((i : Int) > 0) then nthK l (IntKind.i64.wrap ((i : Int) - 1)) fun e33 => bif decide (e33.2.2.1 > (at1 l i).2.2.1) then no else nthK l (IntKind.i64.wrap ((i : Int) - 1)) fun e34 => bif e34.2.2.1 == (at1 l i).2.2.1 then nthK l (IntKind.i64.wrap ((i : Int) - 1)) fun e35 => bif decide (e35.2.1 ≥ (at1 l i).2.1) then no else yes else yes else yes) =
                bif (Nat.beq i 0 || tkPrev (at1 l (i - 1)) (at1 l i)) then yes else no := by
              intro no yes
              cases i with
              | zero => rfl
              | succ i =>
                rw [dec_t (by omega : ((i + 1 : Nat) : Int) > 0), pred_i64 (by omega)]
                have hi' := at1_get (by omega : i < l.length)
                simp only [cond_true]
                rw [nthK_get hi', nthK_get hi', nthK_get hi', show Nat.beq (i + 1) 0 = false from rfl, Nat.add_sub_cancel]
                unfold tkPrev
                cases decide ((at1 l i).2.2.1 > (at1 l (i + 1)).2.2.1) <;> cases ((at1 l i).2.2.1 == (at1 l (i + 1)).2.2.1) <;> cases decide ((at1 l i).2.1 ≥ (at1 l (i + 1)).2.1) <;> rfl
            by_cases h3 : i ≤ 2
            · rw [dec_f (by omega : ¬ (i : Int) ≥ 3), Nat.ble_eq_true_of_le h3]
              simp only [cond_false, Option.bind_some, w3]
              rw [prev]
              cases (Nat.beq i 0 || tkPrev (at1 l (i - 1)) (at1 l i)) <;> rfl
            · have hw3 : IntKind.i64.wrap ((i : Int) - 3) = ((i - 3 : Nat) : Int) := by rw [wrap_i64 (by omega) (by omega)]; omega
              have hb : Nat.ble i 2 = false := by cases hq : Nat.ble i 2 with
                | false => rfl
                | true => exact absurd (Nat.le_of_ble_eq_true hq) h3
              rw [dec_t (by omega : (i : Int) ≥ 3), hw3, hb]
              simp only [cond_true]
              rw [nthK_get (at1_get (by omega : i - 3 < l.length))]
              cases ((at1 l (i - 3)).2.2.1 == (at1 l i).2.2.1) with
              | true => simp only [cond_true, Option.bind_some]; cases (Nat.beq i 0 || tkPrev (at1 l (i - 1)) (at1 l i)) <;> rfl
              | false =>
                simp only [cond_false, Option.bind_some, w3]
                rw [prev]
                cases (Nat.beq i 0 || tkPrev (at1 l (i - 1)) (at1 l i)) <;> rfl) (by
    unfold prog_takes.l1
    simp only [dec_f (show ¬ (l.length : Int) < (l.length : Int) by omega), cond_false])
  rw [show (((0 : Nat) : Int)) = 0 from rfl] at this
  rw [this, Option.bind_some]
  cases allFrom (takeR s w id l) 0 l.length <;> rfl

theorem refTakes_val (s w : Int) (p : Prg) (hl : p.2.2.2.2.1.length < 1000) (hw : ∀ x ∈ p.2.2.2.2.1, WfE kTake x) : pledgeref13_takes s w p = some (takesB s w p.2.1 p.2.2.2.2.1) := by
  obtain ⟨kind, id, pol, lines, l, owes, rest⟩ := p
  simp only at hl hw ⊢
  unfold pledgeref13_takes takesB
  have := loop_all (step := pledgeref13_takes.l1) (fun i => ((s, (w, ((), (l, (i : Int))))), ((kind, id, pol, lines, l, owes, rest), ()))) (takeR s w id l) (.inl l) (.inr false) l.length (by omega) (fun i hi => by
    obtain ⟨w1, w2⟩ := wrapT hw hi
    have hg := at1_get hi
    unfold pledgeref13_takes.l1 takeR takeQ tkBase
    simp only [dec_t (show (i : Int) < (l.length : Int) by omega), cond_true]
    have w3 := succ_i64 (show i < 9223372036854775807 by omega)
    rw [nthK_get hg, nthK_get hg, nthK_get hg, nthK_get hg, w1, w2]
    cases ((at1 l i).1 != id) with
    | true => rfl
    | false =>
      cases decide ((at1 l i).2.1 ≥ s) with
      | true => rfl
      | false =>
        cases decide ((at1 l i).2.2.1 ≥ w) with
        | true => rfl
        | false =>
          cases decide ((at1 l i).2.2.2.1 < 1) with
          | true => rfl
          | false =>
            simp only [cond_false, Bool.not_false, Bool.true_and]
            -- the one ahead
            have prev : ∀ (R : Type) (no yes : Option R), (bif decide ((i : Int) > 0) then nthK l (IntKind.i64.wrap ((i : Int) - 1)) fun e43 => nthK l (i : Int) fun e44 => bif decide (e43.2.2.1 > e44.2.2.1) then no else nthK l (IntKind.i64.wrap ((i : Int) - 1)) fun e45 => nthK l (i : Int) fun e46 => bif e45.2.2.1 == e46.2.2.1 then nthK l (IntKind.i64.wrap ((i : Int) - 1)) fun e47 => nthK l (i : Int) fun e48 => bif decide (e47.2.1 ≥ e48.2.1) then no else yes else yes else yes) =
                bif (Nat.beq i 0 || tkPrev (at1 l (i - 1)) (at1 l i)) then yes else no := by
              intro R no yes
              cases i with
              | zero => rfl
              | succ i =>
                rw [dec_t (by omega : ((i + 1 : Nat) : Int) > 0), pred_i64 (by omega)]
                have hi' := at1_get (by omega : i < l.length)
                simp only [cond_true]
                rw [nthK_get hi', nthK_get hg, nthK_get hi', nthK_get hg, nthK_get hi', nthK_get hg, show Nat.beq (i + 1) 0 = false from rfl, Nat.add_sub_cancel]
                unfold tkPrev
                cases decide ((at1 l i).2.2.1 > (at1 l (i + 1)).2.2.1) <;> cases ((at1 l i).2.2.1 == (at1 l (i + 1)).2.2.1) <;> cases decide ((at1 l i).2.1 ≥ (at1 l (i + 1)).2.1) <;> rfl
            rw [prev]
            cases (Nat.beq i 0 || tkPrev (at1 l (i - 1)) (at1 l i)) with
            | false => rfl
            | true =>
              simp only [cond_true, Option.bind_some, Bool.true_and]
              by_cases h3 : i ≤ 2
              · rw [dec_f (by omega : ¬ (i : Int) ≥ 3), Nat.ble_eq_true_of_le h3]
                simp only [cond_false, w3, Bool.true_or, cond_true]
              · have hw3 : IntKind.i64.wrap ((i : Int) - 3) = ((i - 3 : Nat) : Int) := by rw [wrap_i64 (by omega) (by omega)]; omega
                have hb : Nat.ble i 2 = false := by cases hq : Nat.ble i 2 with
                  | false => rfl
                  | true => exact absurd (Nat.le_of_ble_eq_true hq) h3
                rw [dec_t (by omega : (i : Int) ≥ 3), hw3, hb]
                simp only [cond_true]
                rw [nthK_get (at1_get (by omega : i - 3 < l.length)), nthK_get hg, w3]
                cases ((at1 l (i - 3)).2.2.1 == (at1 l i).2.2.1) <;> rfl) (by
    unfold pledgeref13_takes.l1
    simp only [dec_f (show ¬ (l.length : Int) < (l.length : Int) by omega), cond_false])
  rw [show (((0 : Nat) : Int)) = 0 from rfl] at this
  rw [this, Option.bind_some]
  cases allFrom (takeR s w id l) 0 l.length <;> rfl
end Go.Proofs.Pure

/- What calc.Sum answers. -/
namespace Go.Proofs.Pure
open Go.Proofs.D Go.Proofs.F

def total : List Int → Int | [] => 0 | x :: l => x + total l
theorem total_append : ∀ (a b : List Int), total (a ++ b) = total a + total b
  | [], b => by simp [total]
  | x :: a, b => by simp only [List.cons_append, total, total_append a b]; omega

theorem wrap_u64 (n : Int) : IntKind.u64.wrap n = n % 18446744073709551616 := by
  simp only [IntKind.wrap, IntKind.bits, IntKind.signed, Bool.false_and, Bool.false_eq_true, if_false, show (2 : Int) ^ 64 = 18446744073709551616 by decide]

theorem add64_val {a b c : Int} (ha : 0 ≤ a) (hb : 0 ≤ b) (hc : c = 0 ∨ c = 1) : add64 a b c = some ((a + b + c) % 18446744073709551616, ((a + b + c) / 18446744073709551616, ())) := by
  obtain ⟨a, rfl⟩ := Int.eq_ofNat_of_zero_le ha
  obtain ⟨b, rfl⟩ := Int.eq_ofNat_of_zero_le hb
  rcases hc with e | e <;> subst e <;> rfl

theorem fdiv63 {e : Int} (h1 : -9223372036854775808 ≤ e) (h2 : e < 9223372036854775808) : Int.fdiv e (2 ^ 63) = if e < 0 then -1 else 0 := by
  rw [show (2 : Int) ^ 63 = 9223372036854775808 by decide, Int.fdiv_eq_ediv_of_nonneg _ (by omega)]
  split <;> omega

/-- One number more, in two halves. -/
theorem sum_step {s e : Int} (h1 : -9223372036854775808 ≤ e) (h2 : e < 9223372036854775808) :
    ((s % 18446744073709551616 + e % 18446744073709551616 + 0) % 18446744073709551616 = (s + e) % 18446744073709551616) ∧
    (((s / 18446744073709551616) % 18446744073709551616 + (if e < 0 then -1 else 0) % 18446744073709551616 + (s % 18446744073709551616 + e % 18446744073709551616 + 0) / 18446744073709551616) % 18446744073709551616 = ((s + e) / 18446744073709551616) % 18446744073709551616) ∧
    ((s % 18446744073709551616 + e % 18446744073709551616 + 0) / 18446744073709551616 = 0 ∨ (s % 18446744073709551616 + e % 18446744073709551616 + 0) / 18446744073709551616 = 1) := by
  split <;> omega

theorem sum_loop (l : List Int) (hl : l.length < 9223372036854775807) (hx : ∀ x ∈ l, -9223372036854775808 ≤ x ∧ x < 9223372036854775808) : ∀ (k j : Nat), j + k = l.length →
    iterL calc_Sum.l1 (k + 1) ((total (l.take j) / 18446744073709551616) % 18446744073709551616, (total (l.take j) % 18446744073709551616, (l, ((l.length : Int), (j : Int))))) =
      some ((total l / 18446744073709551616) % 18446744073709551616, total l % 18446744073709551616)
  | 0, j, h => by
    have e : l.take j = l := List.take_of_length_le (by omega)
    rw [e]
    refine iterL_done ?_
    unfold calc_Sum.l1
    simp only [dec_f (show ¬ (j : Int) < (l.length : Int) by omega), cond_false]
  | k + 1, j, h => by
    have hj : j < l.length := by omega
    have hget : l[j]? = some l[j] := List.getElem?_eq_getElem hj
    obtain ⟨b1, b2⟩ := hx l[j] (List.getElem_mem hj)
    have htake : total (l.take (j + 1)) = total (l.take j) + l[j] := by
      rw [List.take_add_one, hget, total_append]; simp [total]
    obtain ⟨s1, s2, s3⟩ := sum_step (s := total (l.take j)) b1 b2
    have hstep : calc_Sum.l1 ((total (l.take j) / 18446744073709551616) % 18446744073709551616, (total (l.take j) % 18446744073709551616, (l, ((l.length : Int), (j : Int))))) =
        some (.inl ((total (l.take (j + 1)) / 18446744073709551616) % 18446744073709551616, (total (l.take (j + 1)) % 18446744073709551616, (l, ((l.length : Int), ((j + 1 : Nat) : Int)))))) := by
      unfold calc_Sum.l1
      simp only [dec_t (show (j : Int) < (l.length : Int) by omega), cond_true]
      rw [nthK_get hget, fdiv63 b1 b2, wrap_u64, wrap_u64, add64_val (by omega) (by omega) (.inl rfl), Option.bind_some]
      simp only []
      rw [add64_val (by omega) (by omega) s3, Option.bind_some, succ_i64 (by omega), s1, s2, htake]
    rw [iterL_next hstep]
    exact sum_loop l hl hx k (j + 1) (by omega)

/-- All numbers together, if that fits. -/
theorem sum_val (l : List Int) (hl : l.length < 4611686018427387904) (hx : ∀ x ∈ l, -9223372036854775808 ≤ x ∧ x < 9223372036854775808) (h1 : -9223372036854775808 ≤ total l) (h2 : total l < 9223372036854775808) : calc_Sum l = some (total l, (true, ())) := by
  unfold calc_Sum
  have := iterL_mono (sum_loop l (by omega) hx l.length 0 (by omega)) (m := loopN) (by rw [loopN_eq]; omega)
  simp only [List.take_zero, total, show (0 : Int) / 18446744073709551616 % 18446744073709551616 = 0 by decide, show (0 : Int) % 18446744073709551616 = 0 by decide] at this
  rw [show (((0 : Nat) : Int)) = 0 from rfl] at this
  rw [this, Option.bind_some]
  have hw : IntKind.i64.wrap (total l % 18446744073709551616) = total l := by
    unfold IntKind.wrap
    simp only [IntKind.bits, IntKind.signed, Bool.true_and, decide_eq_true_eq, show (2 : Int) ^ 64 = 18446744073709551616 by decide, show (2 : Int) ^ (64 - 1) = 9223372036854775808 by decide]
    split <;> omega
  simp only [hw]
  rw [fdiv63 h1 h2, wrap_u64]
  have : (((if total l < 0 then -1 else 0 : Int) % 18446744073709551616 : Int) == total l / 18446744073709551616 % 18446744073709551616) = true := by
    rw [beq_iff_eq]
    split <;> omega
  rw [this]
  rfl

theorem total_bound : ∀ (l : List Int), (∀ x ∈ l, -9223372036854775808 ≤ x ∧ x < 9223372036854775808) → -9223372036854775808 * (l.length : Int) ≤ total l ∧ total l ≤ 9223372036854775808 * (l.length : Int)
  | [], _ => by simp [total]
  | x :: l, h => by
    have h1 := h x List.mem_cons_self
    have h2 := total_bound l fun y hy => h y (List.mem_cons_of_mem _ hy)
    simp only [total, List.length_cons, Int.natCast_add, Int.natCast_one]
    omega

def fitsI (n : Int) : Bool := decide (-9223372036854775808 ≤ n) && decide (n < 9223372036854775808)
/-- All numbers together, or that they do not fit. -/
def sumOf (l : List Int) : Int × Bool × Unit := if fitsI (total l) = true then (total l, (true, ())) else (0, (false, ()))

theorem sum_all (l : List Int) (hl : l.length < 1000000) (hx : ∀ x ∈ l, -9223372036854775808 ≤ x ∧ x < 9223372036854775808) : calc_Sum l = some (sumOf l) := by
  by_cases hf : fitsI (total l) = true
  · have h := hf
    unfold fitsI at h
    simp only [Bool.and_eq_true, decide_eq_true_eq] at h
    unfold sumOf
    rw [if_pos hf]
    exact sum_val l (by omega) hx h.1 h.2
  · unfold sumOf
    rw [if_neg hf]
    have hb := total_bound l hx
    have hlen : (l.length : Int) < 1000000 := by omega
    unfold calc_Sum
    have := iterL_mono (sum_loop l (by omega) hx l.length 0 (by omega)) (m := loopN) (by rw [loopN_eq]; omega)
    simp only [List.take_zero, total, show (0 : Int) / 18446744073709551616 % 18446744073709551616 = 0 by decide, show (0 : Int) % 18446744073709551616 = 0 by decide] at this
    rw [show (((0 : Nat) : Int)) = 0 from rfl] at this
    rw [this, Option.bind_some]
    have hnf : ¬ (-9223372036854775808 ≤ total l ∧ total l < 9223372036854775808) := fun q => hf (by unfold fitsI; simp [q.1, q.2])
    generalize hw : IntKind.i64.wrap (total l % 18446744073709551616) = r
    have hr : -9223372036854775808 ≤ r ∧ r < 9223372036854775808 ∧ ((r = total l % 18446744073709551616 ∧ total l % 18446744073709551616 < 9223372036854775808) ∨ (r = total l % 18446744073709551616 - 18446744073709551616 ∧ 9223372036854775808 ≤ total l % 18446744073709551616)) := by
      rw [← hw]
      unfold IntKind.wrap
      simp only [IntKind.bits, IntKind.signed, Bool.true_and, decide_eq_true_eq, show (2 : Int) ^ 64 = 18446744073709551616 by decide, show (2 : Int) ^ (64 - 1) = 9223372036854775808 by decide]
      split <;> omega
    rw [fdiv63 hr.1 hr.2.1, wrap_u64]
    have : (((if r < 0 then -1 else 0 : Int) % 18446744073709551616 : Int) == total l / 18446744073709551616 % 18446744073709551616) = false := by
      rw [beq_eq_false_iff_ne]
      split <;> omega
    rw [this]
    rfl
end Go.Proofs.Pure

/- What the reference's sum answers: the same. -/
namespace Go.Proofs.Pure
open Go.Proofs.D Go.Proofs.F

theorem halves_val {a : Int} (h1 : -9223372036854775808 ≤ a) (h2 : a < 9223372036854775808) : pledgeref01_halves a = some (a / 4294967296, (a % 4294967296, ())) := by
  unfold pledgeref01_halves pledgeref01_halves_v2
  by_cases h : a < 0
  · rw [dec_t h]
    have e1 : IntKind.i64.wrap (a + 1) = a + 1 := wrap_i64 (by omega) (by omega)
    have e2 : IntKind.i64.wrap (0 - (a + 1)) = -(a + 1) := by rw [wrap_i64 (by omega) (by omega)]; omega
    simp only [cond_true, e1, e2]
    rw [dec_f (by omega : ¬ -(a + 1) < 0)]
    simp only [cond_false, Option.bind_some]
    have e3 : Int.tdiv (-(a + 1)) 4294967296 = -(a + 1) / 4294967296 := Int.tdiv_eq_ediv_of_nonneg (by omega)
    have e4 : Int.tmod (-(a + 1)) 4294967296 = -(a + 1) % 4294967296 := Int.tmod_eq_emod_of_nonneg (by omega)
    have w1 : IntKind.i64.wrap (-(a + 1) / 4294967296) = -(a + 1) / 4294967296 := wrap_i64 (by omega) (by omega)
    have w2 : IntKind.i64.wrap (-1 - -(a + 1) / 4294967296) = -1 - -(a + 1) / 4294967296 := wrap_i64 (by omega) (by omega)
    have w3 : IntKind.i64.wrap (4294967295 - -(a + 1) % 4294967296) = 4294967295 - -(a + 1) % 4294967296 := wrap_i64 (by omega) (by omega)
    simp only [e3, e4, w1, w2, w3]
    have g1 : -1 - -(a + 1) / 4294967296 = a / 4294967296 := by omega
    have g2 : 4294967295 - -(a + 1) % 4294967296 = a % 4294967296 := by omega
    rw [g1, g2]
  · rw [dec_f h]
    have e3 : Int.tdiv a 4294967296 = a / 4294967296 := Int.tdiv_eq_ediv_of_nonneg (by omega)
    have e4 : Int.tmod a 4294967296 = a % 4294967296 := Int.tmod_eq_emod_of_nonneg (by omega)
    simp only [cond_false, e3, e4]
    rw [wrap_i64 (by omega) (by omega)]

theorem total_take (l : List Int) {j : Nat} (hj : j < l.length) : total (l.take (j + 1)) = total (l.take j) + l[j] := by
  rw [List.take_add_one, List.getElem?_eq_getElem hj, total_append]; simp [total]

theorem refsum_loop (l : List Int) (hl : l.length < 1000000) (hx : ∀ x ∈ l, -9223372036854775808 ≤ x ∧ x < 9223372036854775808) : ∀ (k j : Nat), j + k = l.length →
    iterL pledgeref01_Sum.l1 (k + 1) ((l, ((), (j : Int))), ((total (l.take j) / 4294967296, (total (l.take j) % 4294967296, ())), ())) = some ((), ((total l / 4294967296, (total l % 4294967296, ())), ()))
  | 0, j, h => by
    have e : l.take j = l := List.take_of_length_le (by omega)
    rw [e]
    refine iterL_done ?_
    unfold pledgeref01_Sum.l1
    simp only [dec_f (show ¬ (j : Int) < (l.length : Int) by omega), cond_false]
  | k + 1, j, h => by
    have hj : j < l.length := by omega
    have hget : l[j]? = some l[j] := List.getElem?_eq_getElem hj
    obtain ⟨b1, b2⟩ := hx l[j] (List.getElem_mem hj)
    have htake := total_take l hj
    have hb := total_bound (l.take j) fun x hx' => hx x (List.mem_of_mem_take hx')
    have hlen : ((l.take j).length : Int) < 1000000 := by rw [List.length_take]; omega
    generalize hT : total (l.take j) = t at hb htake
    have hstep : pledgeref01_Sum.l1 ((l, ((), (j : Int))), ((t / 4294967296, (t % 4294967296, ())), ())) = some (.inl ((l, ((), ((j + 1 : Nat) : Int))), ((total (l.take (j + 1)) / 4294967296, (total (l.take (j + 1)) % 4294967296, ())), ()))) := by
      unfold pledgeref01_Sum.l1
      simp only [dec_t (show (j : Int) < (l.length : Int) by omega), cond_true]
      rw [nthK_get hget, halves_val b1 b2, Option.bind_some, succ_i64 (by omega), htake]
      have e1 : IntKind.i64.wrap (t % 4294967296 + l[j] % 4294967296) = t % 4294967296 + l[j] % 4294967296 := wrap_i64 (by omega) (by omega)
      have e2 : IntKind.i64.wrap (t / 4294967296 + l[j] / 4294967296) = t / 4294967296 + l[j] / 4294967296 := wrap_i64 (by omega) (by omega)
      simp only [e1, e2]
      by_cases q : t % 4294967296 + l[j] % 4294967296 ≥ 4294967296
      · rw [dec_t q]
        simp only [cond_true]
        rw [wrap_i64 (n := t / 4294967296 + l[j] / 4294967296 + 1) (by omega) (by omega), wrap_i64 (n := t % 4294967296 + l[j] % 4294967296 - 4294967296) (by omega) (by omega)]
        rw [show t / 4294967296 + l[j] / 4294967296 + 1 = (t + l[j]) / 4294967296 by omega, show t % 4294967296 + l[j] % 4294967296 - 4294967296 = (t + l[j]) % 4294967296 by omega]
      · rw [dec_f q]
        simp only [cond_false]
        rw [show t / 4294967296 + l[j] / 4294967296 = (t + l[j]) / 4294967296 by omega, show t % 4294967296 + l[j] % 4294967296 = (t + l[j]) % 4294967296 by omega]
    rw [iterL_next hstep]
    exact refsum_loop l hl hx k (j + 1) (by omega)

theorem refsum_all (l : List Int) (hl : l.length < 1000000) (hx : ∀ x ∈ l, -9223372036854775808 ≤ x ∧ x < 9223372036854775808) : pledgeref01_Sum l = some (sumOf l) := by
  unfold pledgeref01_Sum sumOf fitsI
  have := iterL_mono (refsum_loop l hl hx l.length 0 (by omega)) (m := loopN) (by rw [loopN_eq]; omega)
  simp only [List.take_zero, total, show (0 : Int) / 4294967296 = 0 by decide, show (0 : Int) % 4294967296 = 0 by decide] at this
  rw [show (((0 : Nat) : Int)) = 0 from rfl] at this
  rw [this, Option.bind_some]
  have hb := total_bound l hx
  have hlen : (l.length : Int) < 1000000 := by omega
  simp only []
  by_cases h1 : total l / 4294967296 < -2147483648
  · rw [dec_t h1, dec_f (by omega : ¬ -9223372036854775808 ≤ total l)]; rfl
  · rw [dec_f h1]
    by_cases h2 : total l / 4294967296 > 2147483647
    · rw [dec_t h2, dec_f (by omega : ¬ total l < 9223372036854775808), Bool.and_false]; rfl
    · rw [dec_f h2, dec_t (by omega : -9223372036854775808 ≤ total l), dec_t (by omega : total l < 9223372036854775808)]
      simp only [cond_false, Bool.and_true, if_true]
      rw [wrap_i64 (n := total l / 4294967296 * 4294967296) (by omega) (by omega), wrap_i64 (by omega) (by omega), show total l / 4294967296 * 4294967296 + total l % 4294967296 = total l by omega]
end Go.Proofs.Pure

/- What takes and items name of an article. -/
namespace Go.Proofs.Pure
open Go.Proofs.D Go.Proofs.F

abbrev Ord := Int × Int × List Ln × List Tk × List Tk × List Ln × Unit

def ofTake (a : Int) (t : Tk) : List Int := bif t.2.1 == a then [t.2.2.2.1] else []
def ofLine (a : Int) (t : Ln) : List Int := bif t.1 == a then [t.2.1] else []
def namedOf (a : Int) (t : List Tk) (l : List Ln) : List Int := t.flatMap (ofTake a) ++ l.flatMap (ofLine a)

theorem ofTake_len (a : Int) (t : Tk) : (ofTake a t).length ≤ 1 := by unfold ofTake; cases (t.2.1 == a) <;> simp
theorem ofLine_len (a : Int) (t : Ln) : (ofLine a t).length ≤ 1 := by unfold ofLine; cases (t.1 == a) <;> simp
theorem flat_len {α B : Type} {g : α → List B} (h : ∀ x, (g x).length ≤ 1) : ∀ l : List α, (l.flatMap g).length ≤ l.length
  | [] => by simp
  | x :: l => by
    have := h x; have := flat_len h l
    simp only [List.flatMap_cons, List.length_append, List.length_cons]; omega

theorem ref_named_l1 (a : Int) (l : List Ln) (t : List Tk) (ht : t.length < 1000000) : iterL pledgeref13_Named.l1 loopN ((t, (l, (a, ((), 0)))), ([], ())) = some ((l, (a, ())), (t.flatMap (ofTake a), ())) := by
  have := loop_walk (step := pledgeref13_Named.l1) t (fun i (acc : List Int) => ((t, (l, (a, ((), (i : Int))))), (acc, ()))) (fun _ y acc => .inl (acc ++ ofTake a y)) (fun acc => ((l, (a, ())), (acc, ()))) (fun i acc => acc.length ≤ i) [] (by omega) (by simp) (fun i y acc hx hI => by
    have hi := get_lt hx
    refine ⟨?_, fun _ h => by cases h; have := ofTake_len a y; simp only [List.length_append]; omega⟩
    unfold pledgeref13_Named.l1 ofTake
    simp only [dec_t (show (i : Int) < (t.length : Int) by omega), cond_true]
    rw [nthK_get hx, nthK_get hx]
    cases (y.2.1 == a) with
    | true =>
      simp only [cond_true]
      rw [room_ok (by simp; omega), succ_i64 (by omega)]
    | false => simp only [cond_false, List.append_nil]; rw [succ_i64 (by omega)]) (fun acc _ => by
    unfold pledgeref13_Named.l1
    simp only [dec_f (show ¬ (t.length : Int) < (t.length : Int) by omega), cond_false])
  rw [show (((0 : Nat) : Int)) = 0 from rfl] at this
  rw [this, walk_gather, List.nil_append]

theorem ref_named_l2 (a : Int) (acc0 : List Int) (t : List Ln) (h0 : acc0.length < 1000000) (ht : t.length < 1000000) : iterL pledgeref13_Named.l2 loopN ((t, (a, ((), 0))), (acc0, ())) = some ((), (acc0 ++ t.flatMap (ofLine a), ())) := by
  have := loop_walk (step := pledgeref13_Named.l2) t (fun i (acc : List Int) => ((t, (a, ((), (i : Int)))), (acc, ()))) (fun _ y acc => .inl (acc ++ ofLine a y)) (fun acc => ((), (acc, ()))) (fun i acc => acc.length ≤ i + acc0.length) acc0 (by omega) (by simp) (fun i y acc hx hI => by
    have hi := get_lt hx
    refine ⟨?_, fun _ h => by cases h; have := ofLine_len a y; simp only [List.length_append]; omega⟩
    unfold pledgeref13_Named.l2 ofLine
    simp only [dec_t (show (i : Int) < (t.length : Int) by omega), cond_true]
    rw [nthK_get hx, nthK_get hx]
    cases (y.1 == a) with
    | true =>
      simp only [cond_true]
      rw [room_ok (by simp; omega), succ_i64 (by omega)]
    | false => simp only [cond_false, List.append_nil]; rw [succ_i64 (by omega)]) (fun acc _ => by
    unfold pledgeref13_Named.l2
    simp only [dec_f (show ¬ (t.length : Int) < (t.length : Int) by omega), cond_false])
  rw [show (((0 : Nat) : Int)) = 0 from rfl] at this
  rw [this, walk_gather]

theorem wfTake {t : Tk} (h : WfE kTake t) : -9223372036854775808 ≤ t.2.2.2.1 ∧ t.2.2.2.1 < 9223372036854775808 := wf_i64 h.2.2.2.1
theorem wfLine {t : Ln} (h : WfE kLine t) : -9223372036854775808 ≤ t.2.1 ∧ t.2.1 < 9223372036854775808 := wf_i64 h.2.1

theorem named_fit (a : Int) (t : List Tk) (l : List Ln) (ht : ∀ x ∈ t, WfE kTake x) (hl : ∀ x ∈ l, WfE kLine x) : ∀ n ∈ namedOf a t l, -9223372036854775808 ≤ n ∧ n < 9223372036854775808 := by
  intro n hn
  unfold namedOf at hn
  rcases List.mem_append.mp hn with h | h
  · obtain ⟨x, hx, h2⟩ := List.mem_flatMap.mp h
    unfold ofTake at h2
    cases e : (x.2.1 == a) <;> rw [e] at h2
    · exact absurd h2 List.not_mem_nil
    · rw [List.mem_singleton.mp h2]; exact wfTake (ht x hx)
  · obtain ⟨x, hx, h2⟩ := List.mem_flatMap.mp h
    unfold ofLine at h2
    cases e : (x.1 == a) <;> rw [e] at h2
    · exact absurd h2 List.not_mem_nil
    · rw [List.mem_singleton.mp h2]; exact wfLine (hl x hx)

theorem named_len (a : Int) (t : List Tk) (l : List Ln) : (namedOf a t l).length ≤ t.length + l.length := by
  unfold namedOf
  have := flat_len (ofTake_len a) t
  have := flat_len (ofLine_len a) l
  simp only [List.length_append]; omega

theorem refNamed_val (a : Int) (t : List Tk) (l : List Ln) (h1 : t.length < 400000) (h2 : l.length < 400000) (ht : ∀ x ∈ t, WfE kTake x) (hl : ∀ x ∈ l, WfE kLine x) : pledgeref13_Named t l a = some (sumOf (namedOf a t l)) := by
  unfold pledgeref13_Named
  have := flat_len (ofTake_len a) t
  rw [ref_named_l1 a l t (by omega), Option.bind_some]
  simp only []
  rw [ref_named_l2 a _ l (by omega) (by omega), Option.bind_some]
  have hn := named_len a t l
  rw [show t.flatMap (ofTake a) ++ l.flatMap (ofLine a) = namedOf a t l from rfl, refsum_all _ (by omega) (named_fit a t l ht hl)]
  rfl
end Go.Proofs.Pure

/- Takes and what is owed are just what is ordered: the program's way and the document's. -/
namespace Go.Proofs.Pure
open Go.Proofs.D Go.Proofs.F

abbrev P4 := List Int × List Int × List Int × List Int
theorem walk4 {α X : Type} (g0 g1 g2 g3 : α → List Int) (fin : P4 → X) : ∀ (l : List α) (i : Nat) (a : P4),
    walkL (fun _ x (a : P4) => .inl (a.1 ++ g0 x, a.2.1 ++ g1 x, a.2.2.1 ++ g2 x, a.2.2.2 ++ g3 x)) fin i l a = fin (a.1 ++ l.flatMap g0, a.2.1 ++ l.flatMap g1, a.2.2.1 ++ l.flatMap g2, a.2.2.2 ++ l.flatMap g3)
  | [], _, _ => by simp [walkL]
  | x :: l, i, a => by simp only [walkL, walk4 g0 g1 g2 g3 fin l (i + 1), List.flatMap_cons, List.append_assoc]

abbrev U5 := Unit × Unit × Unit × Unit × Unit
def u5 : U5 := ((), ((), ((), ((), ()))))
def put4 (a : P4) : List Int × List Int × List Int × List Int × Unit := (a.1, (a.2.1, (a.2.2.1, (a.2.2.2, ()))))

theorem four {n : Int} (h : 0 ≤ n ∧ n < 4) : n = 0 ∨ n = 1 ∨ n = 2 ∨ n = 3 := by omega

theorem covered_l1 (p : Prg) (t : List Tk) (ht : t.length < 100000) (hs : ∀ x ∈ t, 0 ≤ x.2.1 ∧ x.2.1 < 4) :
    iterL prog_covered.l1 loopN (((), ((), (t, ((t.length : Int), 0)))), (p, (u5, put4 ([], [], [], [])))) = some (((), ()), (p, (u5, put4 (t.flatMap (ofTake 0), t.flatMap (ofTake 1), t.flatMap (ofTake 2), t.flatMap (ofTake 3))))) := by
  have := loop_walk (step := prog_covered.l1) t (fun i (a : P4) => (((), ((), (t, ((t.length : Int), (i : Int))))), (p, (u5, put4 a)))) (fun _ x a => .inl (a.1 ++ ofTake 0 x, a.2.1 ++ ofTake 1 x, a.2.2.1 ++ ofTake 2 x, a.2.2.2 ++ ofTake 3 x))
    (fun a => (((), ()), (p, (u5, put4 a)))) (fun i a => a.1.length ≤ i ∧ a.2.1.length ≤ i ∧ a.2.2.1.length ≤ i ∧ a.2.2.2.length ≤ i) ([], [], [], []) (by omega) (by simp) (fun i x a hx hI => by
    have hi := get_lt hx
    have h0 := hs x (get_mem hx)
    obtain ⟨i1, i2, i3, i4⟩ := hI
    refine ⟨?_, fun _ h => by
      cases h
      have q0 := ofTake_len 0 x; have q1 := ofTake_len 1 x; have q2 := ofTake_len 2 x; have q3 := ofTake_len 3 x
      simp only [List.length_append]; omega⟩
    unfold prog_covered.l1 put4
    simp only [dec_t (show (i : Int) < (t.length : Int) by omega), cond_true]
    rw [nthK_get hx, succ_i64 (by omega)]
    obtain ⟨id, sku, ware, qty, u⟩ := x
    simp only at h0 ⊢
    rcases four h0 with e | e | e | e <;> subst e
    · show room (a.1.length + [qty].length) _ = _
      rw [room_ok (by simp; omega)]
      unfold ofTake
      simp only [show ((0 : Int) == 0) = true by decide, show ((0 : Int) == 1) = false by decide, show ((0 : Int) == 2) = false by decide, show ((0 : Int) == 3) = false by decide, cond_true, cond_false, List.append_nil]
    · show room (a.2.1.length + [qty].length) _ = _
      rw [room_ok (by simp; omega)]
      unfold ofTake
      simp only [show ((1 : Int) == 0) = false by decide, show ((1 : Int) == 1) = true by decide, show ((1 : Int) == 2) = false by decide, show ((1 : Int) == 3) = false by decide, cond_true, cond_false, List.append_nil]
    · show room (a.2.2.1.length + [qty].length) _ = _
      rw [room_ok (by simp; omega)]
      unfold ofTake
      simp only [show ((2 : Int) == 0) = false by decide, show ((2 : Int) == 1) = false by decide, show ((2 : Int) == 2) = true by decide, show ((2 : Int) == 3) = false by decide, cond_true, cond_false, List.append_nil]
    · show room (a.2.2.2.length + [qty].length) _ = _
      rw [room_ok (by simp; omega)]
      unfold ofTake
      simp only [show ((3 : Int) == 0) = false by decide, show ((3 : Int) == 1) = false by decide, show ((3 : Int) == 2) = false by decide, show ((3 : Int) == 3) = true by decide, cond_true, cond_false, List.append_nil]) (fun a _ => by
    unfold prog_covered.l1
    simp only [dec_f (show ¬ (t.length : Int) < (t.length : Int) by omega), cond_false])
  rw [show (((0 : Nat) : Int)) = 0 from rfl] at this
  rw [this, walk4]
  simp only [List.nil_append]

theorem covered_l2 (p : Prg) (t : List Ln) (a0 : P4) (h0 : a0.1.length < 100000 ∧ a0.2.1.length < 100000 ∧ a0.2.2.1.length < 100000 ∧ a0.2.2.2.length < 100000) (ht : t.length < 100000) (hs : ∀ x ∈ t, 0 ≤ x.1 ∧ x.1 < 4) :
    iterL prog_covered.l2 loopN (((), ((), (t, ((t.length : Int), 0)))), (p, (u5, put4 a0))) = some (((), ()), (p, (u5, put4 (a0.1 ++ t.flatMap (ofLine 0), a0.2.1 ++ t.flatMap (ofLine 1), a0.2.2.1 ++ t.flatMap (ofLine 2), a0.2.2.2 ++ t.flatMap (ofLine 3))))) := by
  have := loop_walk (step := prog_covered.l2) t (fun i (a : P4) => (((), ((), (t, ((t.length : Int), (i : Int))))), (p, (u5, put4 a)))) (fun _ x a => .inl (a.1 ++ ofLine 0 x, a.2.1 ++ ofLine 1 x, a.2.2.1 ++ ofLine 2 x, a.2.2.2 ++ ofLine 3 x))
    (fun a => (((), ()), (p, (u5, put4 a)))) (fun i a => a.1.length ≤ i + 100000 ∧ a.2.1.length ≤ i + 100000 ∧ a.2.2.1.length ≤ i + 100000 ∧ a.2.2.2.length ≤ i + 100000) a0 (by omega) (by omega) (fun i x a hx hI => by
    have hi := get_lt hx
    have h0 := hs x (get_mem hx)
    obtain ⟨i1, i2, i3, i4⟩ := hI
    refine ⟨?_, fun _ h => by
      cases h
      have q0 := ofLine_len 0 x; have q1 := ofLine_len 1 x; have q2 := ofLine_len 2 x; have q3 := ofLine_len 3 x
      simp only [List.length_append]; omega⟩
    unfold prog_covered.l2 put4
    simp only [dec_t (show (i : Int) < (t.length : Int) by omega), cond_true]
    rw [nthK_get hx, succ_i64 (by omega)]
    obtain ⟨sku, qty, u⟩ := x
    simp only at h0 ⊢
    rcases four h0 with e | e | e | e <;> subst e
    · show room (a.1.length + [qty].length) _ = _
      rw [room_ok (by simp; omega)]
      unfold ofLine
      simp only [show ((0 : Int) == 0) = true by decide, show ((0 : Int) == 1) = false by decide, show ((0 : Int) == 2) = false by decide, show ((0 : Int) == 3) = false by decide, cond_true, cond_false, List.append_nil]
    · show room (a.2.1.length + [qty].length) _ = _
      rw [room_ok (by simp; omega)]
      unfold ofLine
      simp only [show ((1 : Int) == 0) = false by decide, show ((1 : Int) == 1) = true by decide, show ((1 : Int) == 2) = false by decide, show ((1 : Int) == 3) = false by decide, cond_true, cond_false, List.append_nil]
    · show room (a.2.2.1.length + [qty].length) _ = _
      rw [room_ok (by simp; omega)]
      unfold ofLine
      simp only [show ((2 : Int) == 0) = false by decide, show ((2 : Int) == 1) = false by decide, show ((2 : Int) == 2) = true by decide, show ((2 : Int) == 3) = false by decide, cond_true, cond_false, List.append_nil]
    · show room (a.2.2.2.length + [qty].length) _ = _
      rw [room_ok (by simp; omega)]
      unfold ofLine
      simp only [show ((3 : Int) == 0) = false by decide, show ((3 : Int) == 1) = false by decide, show ((3 : Int) == 2) = false by decide, show ((3 : Int) == 3) = true by decide, cond_true, cond_false, List.append_nil]) (fun a _ => by
    unfold prog_covered.l2
    simp only [dec_f (show ¬ (t.length : Int) < (t.length : Int) by omega), cond_false])
  rw [show (((0 : Nat) : Int)) = 0 from rfl] at this
  rw [this, walk4]

def wantOf (l : List Ln) : List Int := l.foldl (fun a x => a.set x.1.toNat x.2.1) (List.replicate 4 0)
theorem walk_fold {α A X : Type} (h : A → α → A) (fin : A → X) : ∀ (l : List α) (i : Nat) (a : A), walkL (fun _ x a => .inl (h a x)) fin i l a = fin (l.foldl h a)
  | [], _, _ => rfl
  | x :: l, i, a => by simp only [walkL, walk_fold h fin l (i + 1), List.foldl_cons]

theorem covered_l3 (t : List Ln) (a0 : P4) (ht : t.length < 100000) (hs : ∀ x ∈ t, 0 ≤ x.1 ∧ x.1 < 4) :
    iterL prog_covered.l3 loopN (((), ((), (t, ((t.length : Int), 0)))), (u5, (List.replicate 4 0, put4 a0))) = some (((), ()), (u5, (wantOf t, put4 a0))) := by
  have := loop_walk (step := prog_covered.l3) t (fun i (a : List Int) => (((), ((), (t, ((t.length : Int), (i : Int))))), (u5, (a, put4 a0)))) (fun _ x a => .inl (a.set x.1.toNat x.2.1))
    (fun a => (((), ()), (u5, (a, put4 a0)))) (fun i a => a.length = 4) (List.replicate 4 0) (by omega) (by simp) (fun i x a hx hI => by
    have hi := get_lt hx
    have h0 := hs x (get_mem hx)
    refine ⟨?_, fun _ h => by cases h; simpa using hI⟩
    unfold prog_covered.l3
    simp only [dec_t (show (i : Int) < (t.length : Int) by omega), cond_true]
    rw [nthK_get hx, succ_i64 (by omega), chk_true (by rw [dec_t h0.1, dec_t h0.2]; rfl)]
    obtain ⟨sku, qty, u⟩ := x
    obtain ⟨n, rfl⟩ := Int.eq_ofNat_of_zero_le h0.1
    simp only at h0
    show nthN a n _ = _
    rw [nthN_get (List.getElem?_eq_getElem (by omega : n < a.length))]
    rfl) (fun a _ => by
    unfold prog_covered.l3
    simp only [dec_f (show ¬ (t.length : Int) < (t.length : Int) by omega), cond_false])
  rw [show (((0 : Nat) : Int)) = 0 from rfl] at this
  rw [this, walk_fold]
  rfl

/-- Of one article: the parts come to what is wanted. -/
def coverK (a : List Int) (n : Int) : Bool := (sumOf a).2.1 && !((sumOf a).1 != n)
def coverP (a : P4) (w : List Int) : Bool := coverK a.1 (w.getD 0 0) && (coverK a.2.1 (w.getD 1 0) && (coverK a.2.2.1 (w.getD 2 0) && coverK a.2.2.2 (w.getD 3 0)))

theorem covered_step (a : P4) (w : List Int) (hw : w.length = 4) (k : Nat) (hk : k < 4) (q : List Int) (hq : q = [a.1, a.2.1, a.2.2.1, a.2.2.2].getD k []) (hl : q.length < 1000000) (hf : ∀ n ∈ q, -9223372036854775808 ≤ n ∧ n < 9223372036854775808) :
    prog_covered.l4 (((), (u5, (k : Int))), (w, put4 a)) = bif coverK q (w.getD k 0) then some (.inl (((), (u5, ((k + 1 : Nat) : Int))), (w, put4 a))) else some (.inr (.inr false)) := by
  have hs := sum_all q hl hf
  have hget : w[k]? = some (w.getD k 0) := by rw [List.getD_eq_getElem?_getD, List.getElem?_eq_getElem (by omega)]; rfl
  have fin : ∀ (x : (Unit × U5 × Int) × List Int × List Int × List Int × List Int × List Int × Unit), ((calc_Sum q).bind fun r50 => bif !r50.2.1 then some (Sum.inr (Sum.inr false)) else chk (decide (0 ≤ (k : Int)) && decide ((k : Int) < 4)) (nthK w (k : Int) fun e51 => bif (r50.1 : Int) != e51 then some (Sum.inr (Sum.inr false)) else some (Sum.inl x))) =
      (bif coverK q (w.getD k 0) then some (Sum.inl x) else some (Sum.inr (Sum.inr false)) : Option (_ ⊕ (Unit ⊕ Bool))) := by
    intro x
    rw [hs, Option.bind_some, chk_true (by rw [dec_t (by omega : 0 ≤ (k : Int)), dec_t (by omega : (k : Int) < 4)]; rfl), nthK_get hget]
    unfold coverK
    cases (sumOf q).2.1 <;> cases ((sumOf q).1 != w.getD k 0) <;> rfl
  have hw1 := succ_i64 (show k < 9223372036854775807 by omega)
  rw [← hw1, ← fin]
  subst hq
  match k, hk with
  | 0, _ => rfl
  | 1, _ => rfl
  | 2, _ => rfl
  | 3, _ => rfl

theorem covered_l4 (a : P4) (w : List Int) (hw : w.length = 4) (hl : ∀ q ∈ [a.1, a.2.1, a.2.2.1, a.2.2.2], q.length < 1000000 ∧ ∀ n ∈ q, -9223372036854775808 ≤ n ∧ n < 9223372036854775808) :
    iterL prog_covered.l4 loopN (((), (u5, 0)), (w, put4 a)) = some (bif coverP a w then .inl () else .inr false) := by
  have h0 := hl a.1 (by simp)
  have h1 := hl a.2.1 (by simp)
  have h2 := hl a.2.2.1 (by simp)
  have h3 := hl a.2.2.2 (by simp)
  have s0 := covered_step a w hw 0 (by omega) a.1 rfl h0.1 h0.2
  have s1 := covered_step a w hw 1 (by omega) a.2.1 rfl h1.1 h1.2
  have s2 := covered_step a w hw 2 (by omega) a.2.2.1 rfl h2.1 h2.2
  have s3 := covered_step a w hw 3 (by omega) a.2.2.2 rfl h3.1 h3.2
  have s4 : prog_covered.l4 (((), (u5, ((4 : Nat) : Int))), (w, put4 a)) = some (.inr (.inl ())) := rfl
  refine iterL_mono (n := 5) ?_ (by rw [loopN_eq]; omega)
  unfold coverP
  rw [show (0 : Int) = ((0 : Nat) : Int) from rfl]
  cases c0 : coverK a.1 (w.getD 0 0) with
  | false => rw [c0] at s0; exact iterL_done s0
  | true =>
    rw [c0] at s0
    rw [iterL_next s0]
    cases c1 : coverK a.2.1 (w.getD 1 0) with
    | false => rw [c1] at s1; exact iterL_done s1
    | true =>
      rw [c1] at s1
      rw [iterL_next s1]
      cases c2 : coverK a.2.2.1 (w.getD 2 0) with
      | false => rw [c2] at s2; exact iterL_done s2
      | true =>
        rw [c2] at s2
        rw [iterL_next s2]
        cases c3 : coverK a.2.2.2 (w.getD 3 0) with
        | false => rw [c3] at s3; exact iterL_done s3
        | true =>
          rw [c3] at s3
          rw [iterL_next s3]
          exact iterL_done s4

/-- The parts of each article, what is wanted of it. -/
def partsOf (t : List Tk) (l : List Ln) : P4 := (namedOf 0 t l, namedOf 1 t l, namedOf 2 t l, namedOf 3 t l)
def coveredB (t : List Tk) (owes lines : List Ln) : Bool := coverP (partsOf t owes) (wantOf lines)

theorem wantOf_len : ∀ (l : List Ln) (a : List Int), a.length = 4 → (l.foldl (fun a x => a.set x.1.toNat x.2.1) a).length = 4
  | [], a, h => h
  | x :: l, a, h => by rw [List.foldl_cons]; exact wantOf_len l _ (by simpa using h)

theorem progCovered_val (p : Prg) (h1 : p.2.2.2.1.length < 100000) (h2 : p.2.2.2.2.1.length < 100000) (h3 : p.2.2.2.2.2.1.length < 100000) (w2 : ∀ x ∈ p.2.2.2.2.1, WfE kTake x) (w3 : ∀ x ∈ p.2.2.2.2.2.1, WfE kLine x)
    (g1 : ∀ x ∈ p.2.2.2.1, 0 ≤ x.1 ∧ x.1 < 4) (g2 : ∀ x ∈ p.2.2.2.2.1, 0 ≤ x.2.1 ∧ x.2.1 < 4) (g3 : ∀ x ∈ p.2.2.2.2.2.1, 0 ≤ x.1 ∧ x.1 < 4) : prog_covered p = some (coveredB p.2.2.2.2.1 p.2.2.2.2.2.1 p.2.2.2.1) := by
  have e0 := flat_len (ofTake_len 0) p.2.2.2.2.1
  have e1 := flat_len (ofTake_len 1) p.2.2.2.2.1
  have e2 := flat_len (ofTake_len 2) p.2.2.2.2.1
  have e3 := flat_len (ofTake_len 3) p.2.2.2.2.1
  have l1 := covered_l1 p p.2.2.2.2.1 h2 g2
  have l2 := covered_l2 p p.2.2.2.2.2.1 (p.2.2.2.2.1.flatMap (ofTake 0), p.2.2.2.2.1.flatMap (ofTake 1), p.2.2.2.2.1.flatMap (ofTake 2), p.2.2.2.2.1.flatMap (ofTake 3)) (by simp only []; omega) h3 g3
  have l3 := covered_l3 p.2.2.2.1 (partsOf p.2.2.2.2.1 p.2.2.2.2.2.1) h1 g1
  have fit : ∀ k : Int, (namedOf k p.2.2.2.2.1 p.2.2.2.2.2.1).length < 1000000 ∧ ∀ n ∈ namedOf k p.2.2.2.2.1 p.2.2.2.2.2.1, -9223372036854775808 ≤ n ∧ n < 9223372036854775808 := fun k => ⟨by have := named_len k p.2.2.2.2.1 p.2.2.2.2.2.1; omega, named_fit k _ _ w2 w3⟩
  have l4 := covered_l4 (partsOf p.2.2.2.2.1 p.2.2.2.2.2.1) (wantOf p.2.2.2.1) (wantOf_len _ _ (by simp)) (fun q hq => by
    unfold partsOf at hq
    simp only [List.mem_cons, List.not_mem_nil, or_false] at hq
    rcases hq with e | e | e | e <;> subst e <;> exact fit _)
  unfold prog_covered
  unfold put4 u5 at l1 l2 l3 l4
  rw [l1, Option.bind_some]
  simp only []
  rw [l2, Option.bind_some]
  simp only []
  unfold partsOf namedOf at l3 l4
  rw [l3, Option.bind_some]
  simp only []
  rw [l4, Option.bind_some]
  unfold coveredB partsOf namedOf
  cases coverP _ (wantOf p.2.2.2.1) <;> rfl

/-! ### The document's way -/
theorem allFrom_at {p : Nat → Bool} {k : Nat} (h : allFrom p 0 k = true) {j : Nat} (hj : j < k) : p j = true := (allFrom_iff.1 h) j (by omega) (by omega)

theorem linesB_lt {s : Int} {l : List Ln} (h : linesB s l = true) : ∀ x ∈ l, x.1 < s ∧ 1 ≤ x.2.1 := by
  unfold linesB at h
  simp only [Bool.and_eq_true, decide_eq_true_eq] at h
  intro x hx
  obtain ⟨i, hi, e⟩ := List.getElem_of_mem hx
  have := allFrom_at h.1 hi
  unfold lineR at this
  have ea : at0 l i = x := by unfold at0; rw [List.getD_eq_getElem?_getD, List.getElem?_eq_getElem hi, e]; rfl
  rw [ea] at this
  simp only [Bool.and_eq_true, Bool.not_eq_true', decide_eq_false_iff_not] at this
  omega

theorem linesB_shape {s : Int} {l : List Ln} (h : linesB s l = true) : l = [] ∨ (∃ a, l = [a]) ∨ (∃ a b, l = [a, b] ∧ a.1 < b.1) ∨ (∃ a b c, l = [a, b, c] ∧ a.1 < b.1 ∧ b.1 < c.1) := by
  have h0 := h
  unfold linesB at h
  simp only [Bool.and_eq_true, decide_eq_true_eq] at h
  obtain ⟨ha, hl⟩ := h
  match l, ha, hl with
  | [], _, _ => exact .inl rfl
  | [a], _, _ => exact .inr (.inl ⟨a, rfl⟩)
  | [a, b], ha, _ =>
    have h1 := allFrom_at ha (show 1 < 2 by omega)
    simp only [lineR, Bool.and_eq_true, Bool.or_eq_true, Bool.not_eq_true', decide_eq_false_iff_not] at h1
    have h2 : ¬ a.1 ≥ b.1 := by rcases h1.2.2 with q | q; cases q; exact q
    exact .inr (.inr (.inl ⟨a, b, rfl, by omega⟩))
  | [a, b, c], ha, _ =>
    have h1 := allFrom_at ha (show 1 < 3 by omega)
    have h3 := allFrom_at ha (show 2 < 3 by omega)
    simp only [lineR, Bool.and_eq_true, Bool.or_eq_true, Bool.not_eq_true', decide_eq_false_iff_not] at h1 h3
    have h2 : ¬ a.1 ≥ b.1 := by rcases h1.2.2 with q | q; cases q; exact q
    have h4 : ¬ b.1 ≥ c.1 := by rcases h3.2.2 with q | q; cases q; exact q
    exact .inr (.inr (.inr ⟨a, b, c, rfl, by omega, by omega⟩))
  | a :: b :: c :: d :: l, _, hl => simp only [List.length_cons] at hl; omega

theorem sumOf_nil : sumOf [] = (0, (true, ())) := rfl
theorem sumOf_one {q : Int} (h : -9223372036854775808 ≤ q ∧ q < 9223372036854775808) : sumOf [q] = (q, (true, ())) := by
  unfold sumOf fitsI total total
  rw [Int.add_zero, dec_t h.1, dec_t h.2]; rfl

theorem set_at (l : List Int) (n k : Nat) (q : Int) (hl : l.length = 4) (hn : n < 4) : (l.set n q).getD k 0 = if n = k then q else l.getD k 0 := by
  rw [List.getD_eq_getElem?_getD, List.getElem?_set]
  by_cases h : n = k
  · subst h; simp [hl, hn]
  · simp [h]

theorem want_line {s : Int} {l : List Ln} (h : linesB s l = true) (hs : s ≤ 4) (hw : ∀ x ∈ l, WfE kLine x) (k : Nat) (hk : k < 4) : sumOf (l.flatMap (ofLine k)) = ((wantOf l).getD k 0, (true, ())) := by
  have hlt := linesB_lt h
  have hz : (List.replicate 4 (0 : Int)).getD k 0 = 0 := by
    match k, hk with
    | 0, _ => rfl
    | 1, _ => rfl
    | 2, _ => rfl
    | 3, _ => rfl
  have hb : ∀ x ∈ l, (0 ≤ x.1 ∧ x.1 < 4) ∧ -9223372036854775808 ≤ x.2.1 ∧ x.2.1 < 9223372036854775808 := fun x hx => by
    have q1 := hlt x hx
    have q2 := wf_u8 (hw x hx).1
    exact ⟨⟨q2.1, by omega⟩, wf_i64 (hw x hx).2.1⟩
  have eqk : ∀ x : Ln, 0 ≤ x.1 → ((x.1 == (k : Int)) = decide (x.1.toNat = k)) := fun x h0 => by
    by_cases q : x.1 = (k : Int)
    · rw [dec_t (by omega), beq_iff_eq]; exact q
    · rw [dec_f (by omega), beq_eq_false_iff_ne]; exact q
  rcases linesB_shape h with e | ⟨a, e⟩ | ⟨a, b, e, h1⟩ | ⟨a, b, c, e, h1, h2⟩ <;> subst e
  · show sumOf [] = ((List.replicate 4 (0 : Int)).getD k 0, (true, ()))
    rw [hz]; rfl
  · have ha := hb a (by simp)
    simp only [wantOf, List.foldl_cons, List.foldl_nil, List.flatMap_cons, List.flatMap_nil, List.append_nil]
    rw [set_at _ _ _ _ (by simp) (by omega), hz]
    unfold ofLine
    rw [eqk a ha.1.1]
    by_cases q : a.1.toNat = k
    · rw [dec_t q, if_pos q]; exact sumOf_one ha.2
    · rw [dec_f q, if_neg q]; rfl
  · have ha := hb a (by simp)
    have hb' := hb b (by simp)
    simp only [wantOf, List.foldl_cons, List.foldl_nil, List.flatMap_cons, List.flatMap_nil, List.append_nil]
    rw [set_at _ _ _ _ (by simp) (by omega), set_at _ _ _ _ (by simp) (by omega), hz]
    unfold ofLine
    rw [eqk a ha.1.1, eqk b hb'.1.1]
    by_cases q : a.1.toNat = k
    · rw [dec_t q, if_pos q, dec_f (by omega : ¬ b.1.toNat = k), if_neg (by omega)]; exact sumOf_one ha.2
    · rw [dec_f q, if_neg q]
      by_cases r : b.1.toNat = k
      · rw [dec_t r, if_pos r]; exact sumOf_one hb'.2
      · rw [dec_f r, if_neg r]; rfl
  · have ha := hb a (by simp)
    have hb' := hb b (by simp)
    have hc := hb c (by simp)
    simp only [wantOf, List.foldl_cons, List.foldl_nil, List.flatMap_cons, List.flatMap_nil, List.append_nil]
    rw [set_at _ _ _ _ (by simp) (by omega), set_at _ _ _ _ (by simp) (by omega), set_at _ _ _ _ (by simp) (by omega), hz]
    unfold ofLine
    rw [eqk a ha.1.1, eqk b hb'.1.1, eqk c hc.1.1]
    by_cases q : a.1.toNat = k
    · rw [dec_t q, if_pos q, dec_f (by omega : ¬ b.1.toNat = k), if_neg (by omega), dec_f (by omega : ¬ c.1.toNat = k), if_neg (by omega)]; exact sumOf_one ha.2
    · rw [dec_f q, if_neg q]
      by_cases r : b.1.toNat = k
      · rw [dec_t r, if_pos r, dec_f (by omega : ¬ c.1.toNat = k), if_neg (by omega)]; exact sumOf_one hb'.2
      · rw [dec_f r, if_neg r]
        by_cases t : c.1.toNat = k
        · rw [dec_t t, if_pos t]; exact sumOf_one hc.2
        · rw [dec_f t, if_neg t]; rfl

theorem refCovered_val (p : Prg) {s : Int} (hs : s ≤ 4) (hL : linesB s p.2.2.2.1 = true) (h1 : p.2.2.2.1.length < 100000) (h2 : p.2.2.2.2.1.length < 100000) (h3 : p.2.2.2.2.2.1.length < 100000)
    (w1 : ∀ x ∈ p.2.2.2.1, WfE kLine x) (w2 : ∀ x ∈ p.2.2.2.2.1, WfE kTake x) (w3 : ∀ x ∈ p.2.2.2.2.2.1, WfE kLine x) : pledgeref13_covered p = some (coveredB p.2.2.2.2.1 p.2.2.2.2.2.1 p.2.2.2.1) := by
  have step : ∀ k : Nat, k < 4 → pledgeref13_covered.l1 (((), (k : Int)), (p, ())) = bif coverK (namedOf k p.2.2.2.2.1 p.2.2.2.2.2.1) ((wantOf p.2.2.2.1).getD k 0) then some (.inl (((), ((k + 1 : Nat) : Int)), (p, ()))) else some (.inr (.inr false)) := by
    intro k hk
    unfold pledgeref13_covered.l1
    have e : IntKind.u8.wrap (k : Int) = (k : Int) := wrap_u8 (by omega) (by omega)
    simp only [dec_t (by omega : (k : Int) < 4), cond_true, e]
    rw [refNamed_val _ _ _ (by omega) (by omega) w2 w3, Option.bind_some, refNamed_val _ _ _ (by simp) (by omega) (by simp) w1, Option.bind_some]
    have en : namedOf (k : Int) [] p.2.2.2.1 = p.2.2.2.1.flatMap (ofLine k) := rfl
    rw [en, want_line hL hs w1 k hk, succ_i64 (by omega)]
    unfold coverK
    cases (sumOf (namedOf (k : Int) p.2.2.2.2.1 p.2.2.2.2.2.1)).2.1 <;> cases ((sumOf (namedOf (k : Int) p.2.2.2.2.1 p.2.2.2.2.2.1)).1 != (wantOf p.2.2.2.1).getD k 0) <;> rfl
  have run := loop_all (step := pledgeref13_covered.l1) (fun k => (((), (k : Int)), (p, ()))) (fun k => coverK (namedOf k p.2.2.2.2.1 p.2.2.2.2.2.1) ((wantOf p.2.2.2.1).getD k 0)) (.inl ()) (.inr false) 4 (by omega) (fun k hk => step k hk) rfl
  rw [show (((0 : Nat) : Int)) = 0 from rfl] at run
  have ec : allFrom (fun k => coverK (namedOf k p.2.2.2.2.1 p.2.2.2.2.2.1) ((wantOf p.2.2.2.1).getD k 0)) 0 4 = coveredB p.2.2.2.2.1 p.2.2.2.2.2.1 p.2.2.2.1 := by
    unfold coveredB coverP partsOf
    simp only [allFrom, Bool.and_true]
    rfl
  rw [ec] at run
  unfold pledgeref13_covered
  rw [run, Option.bind_some]
  cases coveredB p.2.2.2.2.1 p.2.2.2.2.2.1 p.2.2.2.1 <;> rfl
end Go.Proofs.Pure

/- Which takes of a restock may be: the program's way and the document's. -/
namespace Go.Proofs.Pure
open Go.Proofs.D Go.Proofs.F

abbrev Seen := List (Int × Int)
abbrev gM (m : Seen) (o : Int) : Int := getM (.int .u32) (.int .i64) m o
abbrev pM (m : Seen) (o v : Int) : Seen := putM (.int .u32) (.int .i64) m o v

theorem gM_same (o v : Int) : ∀ m : Seen, gM (pM m o v) o = v
  | [] => by
    show (bif eqE (.int .u32) o o then v else _) = v
    rw [show eqE (.int .u32) o o = true by simp [eqE]]; rfl
  | e :: m => by
    show gM (bif eqE (.int .u32) o e.1 then (o, v) :: m else e :: pM m o v) o = v
    cases h : eqE (.int .u32) o e.1 with
    | true =>
      show (bif eqE (.int .u32) o o then v else _) = v
      rw [show eqE (.int .u32) o o = true by simp [eqE]]; rfl
    | false =>
      show (bif eqE (.int .u32) o e.1 then e.2 else gM (pM m o v) o) = v
      rw [h]; exact gM_same o v m
theorem gM_other {o q : Int} (v : Int) (hne : o ≠ q) : ∀ m : Seen, gM (pM m o v) q = gM m q
  | [] => by
    show (bif eqE (.int .u32) q o then v else _) = _
    rw [show eqE (.int .u32) q o = false by simp [eqE]; exact fun h => hne h.symm]; rfl
  | e :: m => by
    show gM (bif eqE (.int .u32) o e.1 then (o, v) :: m else e :: pM m o v) q = (bif eqE (.int .u32) q e.1 then e.2 else gM m q)
    cases h : eqE (.int .u32) o e.1 with
    | true =>
      have he : o = e.1 := by simpa [eqE] using h
      show (bif eqE (.int .u32) q o then v else gM m q) = _
      rw [← he, show eqE (.int .u32) q o = false by simp [eqE]; exact fun h => hne h.symm]; rfl
    | false =>
      show (bif eqE (.int .u32) q e.1 then e.2 else gM (pM m o v) q) = _
      rw [gM_other v hne m]

def seenAt (l : List Tk) : Nat → Seen
  | 0 => [] | i + 1 => pM (seenAt l i) (at1 l i).1 (IntKind.i64.wrap (gM (seenAt l i) (at1 l i).1 + 1))
def cnt (l : List Tk) (o : Int) : Nat → Nat
  | 0 => 0 | i + 1 => cnt l o i + bif (at1 l i).1 == o then 1 else 0
theorem cnt_le (l : List Tk) (o : Int) : ∀ i, cnt l o i ≤ i
  | 0 => Nat.le_refl _ | i + 1 => by have := cnt_le l o i; simp only [cnt]; cases ((at1 l i).1 == o) <;> simp <;> omega

theorem seen_cnt (l : List Tk) : ∀ (i : Nat), i < 1000 → ∀ o, gM (seenAt l i) o = (cnt l o i : Int)
  | 0, _, o => rfl
  | i + 1, h, o => by
    have ih := seen_cnt l i (by omega)
    simp only [seenAt, cnt]
    by_cases q : (at1 l i).1 = o
    · rw [q, gM_same, ih o, show (o == o) = true by simp, wrap_i64 (by have := cnt_le l o i; omega) (by have := cnt_le l o i; omega)]
      simp
    · rw [gM_other _ q, ih o, show ((at1 l i).1 == o) = false by rw [beq_eq_false_iff_ne]; exact q]
      simp

/-- None ahead is of the same order. -/
def alone (l : List Tk) (i : Nat) : Bool := allFrom (fun k => !((at1 l k).1 == (at1 l i).1)) 0 i
theorem cnt_zero (l : List Tk) (o : Int) : ∀ i, cnt l o i = 0 ↔ ∀ k, k < i → ((at1 l k).1 == o) = false
  | 0 => by simp [cnt]
  | i + 1 => by
    simp only [cnt]
    constructor
    · intro h k hk
      have h1 : cnt l o i = 0 := by omega
      by_cases e : k = i
      · subst e
        cases q : ((at1 l k).1 == o) with
        | false => rfl
        | true => rw [q] at h; simp at h
      · exact (cnt_zero l o i).1 h1 k (by omega)
    · intro h
      rw [(cnt_zero l o i).2 fun k hk => h k (by omega), h i (by omega)]
      rfl
theorem alone_cnt (l : List Tk) (i : Nat) : alone l i = decide (cnt l (at1 l i).1 i = 0) := boolEq (by
  unfold alone
  rw [allFrom_iff, decide_eq_true_eq, cnt_zero]
  constructor
  · intro h k hk; have := h k (by omega) (by omega); simpa using this
  · intro h k _ hk; have := h k (by omega); simpa using this)

def fillR (p : Prg) (l : List Tk) (i : Nat) : Bool := alone l i && (!((at1 l i).1 == 0) && (!((at1 l i).2.1 != p.2.2.2.2.2.2.1) && (!((at1 l i).2.2.1 != p.2.2.2.2.2.2.2.2.1) && !decide ((at1 l i).2.2.2.1 < 1))))
def qtyOf (t : Tk) : Int := t.2.2.2.1
def fillsB (p : Prg) : Bool := allFrom (fillR p p.2.2.2.2.1) 0 p.2.2.2.2.1.length && (decide ((p.2.2.2.2.1.length : Int) ≤ 12) && ((sumOf (p.2.2.2.2.1.map qtyOf)).2.1 && decide ((sumOf (p.2.2.2.2.1.map qtyOf)).1 ≤ p.2.2.2.2.2.2.2.2.2.1)))

theorem flat_single : ∀ t : List Tk, t.flatMap (fun y => [qtyOf y]) = t.map qtyOf
  | [] => rfl
  | a :: t => by rw [List.flatMap_cons, flat_single t]; rfl
theorem flat_same {k : Int} : ∀ {t : List Tk}, (∀ x ∈ t, x.2.1 = k) → t.flatMap (ofTake k) = t.map qtyOf
  | [], _ => rfl
  | a :: t, h => by
    rw [List.flatMap_cons, flat_same fun x hx => h x (List.mem_cons_of_mem _ hx)]
    have h1 : ofTake k a = [qtyOf a] := by
      unfold ofTake
      rw [h a List.mem_cons_self, show (k == k) = true by simp]; rfl
    rw [h1]; rfl

theorem together_val (t : List Tk) (ht : t.length < 1000) (hw : ∀ x ∈ t, WfE kTake x) : prog_together t = some (sumOf (t.map qtyOf)) := by
  unfold prog_together
  have := loop_walk (step := prog_together.l1) t (fun i (acc : List Int) => (((), (t, ((t.length : Int), (i : Int)))), (acc, ()))) (fun _ y acc => .inl (acc ++ [qtyOf y])) (fun acc => ((), (acc, ()))) (fun i acc => acc.length ≤ i) [] (by omega) (by simp) (fun i y acc hx hI => by
    have hi := get_lt hx
    refine ⟨?_, fun _ h => by cases h; simp only [List.length_append, List.length_singleton]; omega⟩
    unfold prog_together.l1
    simp only [dec_t (show (i : Int) < (t.length : Int) by omega), cond_true]
    rw [nthK_get hx, room_ok (by simp; omega), succ_i64 (by omega)]
    rfl) (fun acc _ => by
    unfold prog_together.l1
    simp only [dec_f (show ¬ (t.length : Int) < (t.length : Int) by omega), cond_false])
  rw [show (((0 : Nat) : Int)) = 0 from rfl] at this
  rw [this, walk_gather, List.nil_append, Option.bind_some]
  simp only [flat_single]
  rw [sum_all _ (by simp; omega) (fun n hn => by
    obtain ⟨x, hx, e⟩ := List.mem_map.1 hn
    subst e; exact wfTake (hw x hx))]
  rfl

theorem progFills_val (p : Prg) (hl : p.2.2.2.2.1.length < 1000) (hw : ∀ x ∈ p.2.2.2.2.1, WfE kTake x) : prog_fills p = some (fillsB p) := by
  unfold prog_fills fillsB
  generalize hL : p.2.2.2.2.1 = l at *
  have := loop_all (step := prog_fills.l1) (fun i => (((), ((), (l, ((l.length : Int), (i : Int))))), (p, (seenAt l i, ())))) (fillR p l) (.inl ((), (p, ()))) (.inr false) l.length (by omega) (fun i hi => by
    unfold prog_fills.l1 fillR
    simp only [dec_t (show (i : Int) < (l.length : Int) by omega), cond_true]
    rw [nthK_get (at1_get hi), succ_i64 (by omega)]
    have hc := seen_cnt l i (by omega) (at1 l i).1
    have hle := cnt_le l (at1 l i).1 i
    have e1 : getM (.int .u32) (.int .i64) (seenAt l (i + 1)) (at1 l i).1 = (cnt l (at1 l i).1 i : Int) + 1 := by
      show gM (pM (seenAt l i) (at1 l i).1 (IntKind.i64.wrap (gM (seenAt l i) (at1 l i).1 + 1))) (at1 l i).1 = _
      rw [gM_same, hc, wrap_i64 (by omega) (by omega)]
    show (bif decide (getM (.int .u32) (.int .i64) (seenAt l (i + 1)) (at1 l i).1 > 1) then _ else _) = _
    rw [e1, alone_cnt]
    by_cases q : cnt l (at1 l i).1 i = 0
    · rw [dec_t q, dec_f (by omega : ¬ (cnt l (at1 l i).1 i : Int) + 1 > 1)]
      cases ((at1 l i).1 == 0) <;> cases ((at1 l i).2.1 != p.2.2.2.2.2.2.1) <;> cases ((at1 l i).2.2.1 != p.2.2.2.2.2.2.2.2.1) <;> cases decide ((at1 l i).2.2.2.1 < 1) <;> rfl
    · rw [dec_f q, dec_t (by omega : (cnt l (at1 l i).1 i : Int) + 1 > 1)]; rfl) (by
    unfold prog_fills.l1
    simp only [dec_f (show ¬ (l.length : Int) < (l.length : Int) by omega), cond_false])
  rw [show (((0 : Nat) : Int)) = 0 from rfl] at this
  have this' : iterL prog_fills.l1 loopN (((), ((), (l, ((l.length : Int), 0)))), (p, ([], ()))) = _ := this
  rw [this', Option.bind_some]
  cases allFrom (fillR p l) 0 l.length with
  | false => rfl
  | true =>
    simp only [cond_true, hL, Bool.true_and]
    rw [together_val l hl hw, Option.bind_some]
    cases decide ((l.length : Int) ≤ 12) <;> cases (sumOf (l.map qtyOf)).2.1 <;> rfl

theorem refFills_val (p : Prg) (hl : p.2.2.2.2.1.length < 1000) (hw : ∀ x ∈ p.2.2.2.2.1, WfE kTake x) : pledgeref13_fills p = some (fillsB p) := by
  unfold pledgeref13_fills fillsB
  generalize hL : p.2.2.2.2.1 = l at *
  have := loop_all (step := pledgeref13_fills.l1) (fun i => (((), (l, (i : Int))), (p, ()))) (fillR p l) (.inl (((), l), (p, ()))) (.inr false) l.length (by omega) (fun i hi => by
    have hg := at1_get hi
    unfold pledgeref13_fills.l1 fillR
    simp only [dec_t (show (i : Int) < (l.length : Int) by omega), cond_true]
    rw [nthK_get hg, nthK_get hg, nthK_get hg, nthK_get hg]
    have inner := loop_all (step := pledgeref13_fills.l2) (fun k => (((), (l, ((i : Int), (k : Int)))), (p, ()))) (fun k => !((at1 l k).1 == (at1 l i).1)) (.inl (((), (l, (i : Int))), (p, ()))) (.inr false) i (by omega) (fun k hk => by
      unfold pledgeref13_fills.l2
      simp only [dec_t (show (k : Int) < (i : Int) by omega), cond_true]
      rw [nthK_get (at1_get (by omega : k < l.length)), nthK_get hg, succ_i64 (by omega)]
      cases ((at1 l k).1 == (at1 l i).1) <;> rfl) (by
      unfold pledgeref13_fills.l2
      simp only [dec_f (show ¬ (i : Int) < (i : Int) by omega), cond_false])
    rw [show (((0 : Nat) : Int)) = 0 from rfl] at inner
    rw [inner, Option.bind_some]
    have w3 := succ_i64 (show i < 9223372036854775807 by omega)
    unfold alone
    cases ((at1 l i).1 == 0) with
    | true => simp
    | false =>
      cases ((at1 l i).2.1 != p.2.2.2.2.2.2.1) with
      | true => simp
      | false =>
        cases ((at1 l i).2.2.1 != p.2.2.2.2.2.2.2.2.1) with
        | true => simp
        | false =>
          cases decide ((at1 l i).2.2.2.1 < 1) with
          | true => simp
          | false =>
            cases allFrom (fun k => !((at1 l k).1 == (at1 l i).1)) 0 i with
            | false => rfl
            | true => simp only [cond_true, cond_false, w3, Bool.not_false, Bool.and_true]) (by
    unfold pledgeref13_fills.l1
    simp only [dec_f (show ¬ (l.length : Int) < (l.length : Int) by omega), cond_false])
  rw [show (((0 : Nat) : Int)) = 0 from rfl] at this
  rw [this, Option.bind_some]
  cases ha : allFrom (fillR p l) 0 l.length with
  | false => rfl
  | true =>
    simp only [cond_true, Bool.true_and]
    have hsku : ∀ x ∈ l, x.2.1 = p.2.2.2.2.2.2.1 := by
      intro x hx
      obtain ⟨i, hi, e⟩ := List.getElem_of_mem hx
      have h1 := (allFrom_iff.1 ha) i (by omega) (by omega)
      have ea : at1 l i = x := by unfold at1; rw [List.getD_eq_getElem?_getD, List.getElem?_eq_getElem hi, e]; rfl
      unfold fillR at h1
      rw [ea] at h1
      simp only [Bool.and_eq_true, Bool.not_eq_true', bne_eq_false_iff_eq] at h1
      exact h1.2.2.1
    have en : namedOf p.2.2.2.2.2.2.1 l [] = l.map qtyOf := by
      unfold namedOf
      rw [List.flatMap_nil, List.append_nil]
      exact flat_same hsku
    rw [refNamed_val _ l [] (by omega) (by simp) hw (by simp), Option.bind_some, en]
    cases decide ((l.length : Int) ≤ 12) <;> cases (sumOf (l.map qtyOf)).2.1 <;> rfl
end Go.Proofs.Pure

/- Which programs may be. -/
namespace Go.Proofs.Pure
open Go.Proofs.D Go.Proofs.F

def stillB (p : Prg) : Bool := (p.2.2.2.2.2.2.1 == 0) && ((p.2.2.2.2.2.2.2.1 == 0) && ((p.2.2.2.2.2.2.2.2.1 == 0) && (p.2.2.2.2.2.2.2.2.2.1 == 0)))
def bareB (p : Prg) : Bool := (p.2.2.1 == 0) && ((p.2.2.2.1.length : Int) == 0)
theorem still_val (p : Prg) : prog_still p = some (stillB p) := by
  unfold prog_still stillB
  cases (p.2.2.2.2.2.2.1 == 0) <;> cases (p.2.2.2.2.2.2.2.1 == 0) <;> cases (p.2.2.2.2.2.2.2.2.1 == 0) <;> rfl
theorem bare_val (p : Prg) : prog_bare p = some (bareB p) := by
  unfold prog_bare bareB
  cases (p.2.2.1 == 0) <;> rfl

def orderedB (p : Prg) : Bool := (p.2.1 != 0) && stillB p
def movedB (s w : Int) (p : Prg) : Bool := (p.2.1 == 0) && (bareB p && (((p.2.2.2.2.2.1.length : Int) == 0) && (decide (p.2.2.2.2.2.2.1 < s) && (decide (p.2.2.2.2.2.2.2.2.1 < w) && decide (p.2.2.2.2.2.2.2.2.2.1 ≥ 1)))))

def goodKind (s w : Int) (p : Prg) : Bool :=
  bif p.1 == 1 then orderedB p && (decide (p.2.2.1 ≤ 1) && (decide ((p.2.2.2.1.length : Int) > 0) && (linesB s p.2.2.2.1 && (takesB s w p.2.1 p.2.2.2.2.1 && (linesB s p.2.2.2.2.2.1 && (coveredB p.2.2.2.2.1 p.2.2.2.2.2.1 p.2.2.2.1 && ((p.2.2.1 == 0) || ((p.2.2.2.2.2.1.length : Int) == 0))))))))
  else bif p.1 == 2 then orderedB p && (bareB p && (takesB s w p.2.1 p.2.2.2.2.1 && (linesB s p.2.2.2.2.2.1 && decide ((p.2.2.2.2.1.length : Int) + (p.2.2.2.2.2.1.length : Int) > 0))))
  else bif (p.1 == 3) || (p.1 == 4) then orderedB p && (bareB p && (takesB s w p.2.1 p.2.2.2.2.1 && (decide ((p.2.2.2.2.1.length : Int) > 0) && ((p.2.2.2.2.2.1.length : Int) == 0))))
  else bif p.1 == 5 then movedB s w p && ((p.2.2.2.2.2.2.2.1 == 0) && fillsB p)
  else bif p.1 == 6 then movedB s w p && (((p.2.2.2.2.1.length : Int) == 0) && (decide (p.2.2.2.2.2.2.2.1 < w) && (p.2.2.2.2.2.2.2.1 != p.2.2.2.2.2.2.2.2.1)))
  else false
def fineB (s w : Int) : Bool := !decide (s < 1) && (!decide (s > 4) && (!decide (w < 1) && !decide (w > 4)))
def goodP (s w : Int) (p : Prg) : Bool := fineB s w && goodKind s w p

structure Few (p : Prg) : Prop where
  wf : WfE kProgram p
  lines : p.2.2.2.1.length ≤ 100
  takes : p.2.2.2.2.1.length ≤ 100
  owes : p.2.2.2.2.2.1.length ≤ 100

theorem takesB_lt {s w id : Int} {l : List Tk} (h : takesB s w id l = true) : ∀ x ∈ l, x.1 = id ∧ x.2.1 < s ∧ x.2.2.1 < w ∧ 1 ≤ x.2.2.2.1 := by
  unfold takesB at h
  simp only [Bool.and_eq_true, decide_eq_true_eq] at h
  intro x hx
  obtain ⟨i, hi, e⟩ := List.getElem_of_mem hx
  have := allFrom_at h.1 hi
  have ea : at1 l i = x := by unfold at1; rw [List.getD_eq_getElem?_getD, List.getElem?_eq_getElem hi, e]; rfl
  unfold takeR takeQ tkBase at this
  rw [ea] at this
  simp only [Bool.and_eq_true, Bool.not_eq_true', decide_eq_false_iff_not, bne_eq_false_iff_eq] at this
  obtain ⟨⟨⟨h1, h2, h3, h4⟩, _⟩, _⟩ := this
  exact ⟨h1, by omega, by omega, by omega⟩

theorem Few.w1 {p : Prg} (h : Few p) : ∀ x ∈ p.2.2.2.1, WfE kLine x := h.wf.2.2.2.1.2
theorem Few.w2 {p : Prg} (h : Few p) : ∀ x ∈ p.2.2.2.2.1, WfE kTake x := h.wf.2.2.2.2.1.2
theorem Few.w3 {p : Prg} (h : Few p) : ∀ x ∈ p.2.2.2.2.2.1, WfE kLine x := h.wf.2.2.2.2.2.1.2
theorem Few.k {p : Prg} (h : Few p) : (0 ≤ p.2.2.2.2.2.2.1 ∧ p.2.2.2.2.2.2.1 < 256) ∧ (0 ≤ p.2.2.2.2.2.2.2.1 ∧ p.2.2.2.2.2.2.2.1 < 256) ∧ (0 ≤ p.2.2.2.2.2.2.2.2.1 ∧ p.2.2.2.2.2.2.2.2.1 < 256) :=
  ⟨wf_u8 h.wf.2.2.2.2.2.2.1, wf_u8 h.wf.2.2.2.2.2.2.2.1, wf_u8 h.wf.2.2.2.2.2.2.2.2.1⟩

theorem covered_of {s w : Int} {p : Prg} (h : Few p) (hs : s ≤ 4) (h1 : linesB s p.2.2.2.1 = true) (h2 : takesB s w p.2.1 p.2.2.2.2.1 = true) (h3 : linesB s p.2.2.2.2.2.1 = true) :
    prog_covered p = some (coveredB p.2.2.2.2.1 p.2.2.2.2.2.1 p.2.2.2.1) := by
  have l1 := h.lines; have l2 := h.takes; have l3 := h.owes
  exact progCovered_val p (by omega) (by omega) (by omega) h.w2 h.w3
    (fun x hx => ⟨(wf_u8 (h.w1 x hx).1).1, by have := (linesB_lt h1 x hx).1; omega⟩) (fun x hx => ⟨(wf_u8 (h.w2 x hx).2.1).1, by have := (takesB_lt h2 x hx).2.1; omega⟩) (fun x hx => ⟨(wf_u8 (h.w3 x hx).1).1, by have := (linesB_lt h3 x hx).1; omega⟩)

theorem progGood_val (s w : Int) (p : Prg) (h : Few p) : prog_Good s w p = some (goodP s w p) := by
  have l1 := h.lines; have l2 := h.takes; have l3 := h.owes
  obtain ⟨k1, k2, k3⟩ := h.k
  unfold prog_Good goodP fineB
  cases hs1 : decide (s < 1) with
  | true => rfl
  | false =>
  cases hs2 : decide (s > 4) with
  | true => rfl
  | false =>
  cases hw1 : decide (w < 1) with
  | true => rfl
  | false =>
  cases hw2 : decide (w > 4) with
  | true => rfl
  | false =>
  have hs : s ≤ 4 := by simpa using hs2
  simp only [cond_false, Bool.not_false, Bool.true_and, still_val, bare_val, progLines_val s _ (show p.2.2.2.1.length < 1000 by omega) h.w1, progLines_val s _ (show p.2.2.2.2.2.1.length < 1000 by omega) h.w3, progTakes_val s w p (by omega) h.w2, progFills_val p (by omega) h.w2,
    wrap_i64 (show -9223372036854775808 ≤ p.2.2.2.2.2.2.1 by omega) (by omega), wrap_i64 (show -9223372036854775808 ≤ p.2.2.2.2.2.2.2.1 by omega) (by omega), wrap_i64 (show -9223372036854775808 ≤ p.2.2.2.2.2.2.2.2.1 by omega) (by omega),
    Option.bind_some, cond_some, fst_cond, snd_cond, Bool.cond_self, cond_no]
  have e34 : (bif p.1 == 3 then p.1 == 3 else p.1 == 4) = ((p.1 == 3) || (p.1 == 4)) := by cases (p.1 == 3) <;> rfl
  have hwr : IntKind.i64.wrap ((p.2.2.2.2.1.length : Int) + (p.2.2.2.2.2.1.length : Int)) = (p.2.2.2.2.1.length : Int) + (p.2.2.2.2.2.1.length : Int) := wrap_i64 (by omega) (by omega)
  unfold goodKind orderedB movedB
  rw [e34, hwr]
  cases p.1 == 1 with
  | false => simp only [cond_false, cond_no]
  | true =>
    simp only [cond_true]
    cases ((p.2.1 != 0) && stillB p) with
    | false => rfl
    | true =>
    cases decide (p.2.2.1 ≤ 1) with
    | false => rfl
    | true =>
    cases decide ((p.2.2.2.1.length : Int) > 0) with
    | false => rfl
    | true =>
    cases c1 : linesB s p.2.2.2.1 with
    | false => rfl
    | true =>
    cases c2 : takesB s w p.2.1 p.2.2.2.2.1 with
    | false => rfl
    | true =>
    cases c3 : linesB s p.2.2.2.2.2.1 with
    | false => rfl
    | true =>
    simp only [cond_true, Bool.true_and]
    rw [covered_of h hs c1 c2 c3, Option.bind_some, cond_yes]
end Go.Proofs.Pure

/- Which programs may be, by the document: the same. -/
namespace Go.Proofs.Pure
open Go.Proofs.D Go.Proofs.F

def sameP (x y : Prg) : Bool := (x.1 == y.1) && ((x.2.1 == y.2.1) && ((x.2.2.1 == y.2.2.1) && (sameL x.2.2.2.1 y.2.2.2.1 && (sameT x.2.2.2.2.1 y.2.2.2.2.1 && (sameL x.2.2.2.2.2.1 y.2.2.2.2.2.1 && ((x.2.2.2.2.2.2.1 == y.2.2.2.2.2.2.1) && ((x.2.2.2.2.2.2.2.1 == y.2.2.2.2.2.2.2.1) && ((x.2.2.2.2.2.2.2.2.1 == y.2.2.2.2.2.2.2.2.1) && (x.2.2.2.2.2.2.2.2.2.1 == y.2.2.2.2.2.2.2.2.2.1)))))))))
theorem sameP_refl (x : Prg) : sameP x x = true := by unfold sameP; simp [sameL_refl, sameT_refl]

theorem refSameP_val (x y : Prg) (h1 : x.2.2.2.1.length < 1000) (h2 : x.2.2.2.2.1.length < 1000) (h3 : x.2.2.2.2.2.1.length < 1000) : pledgeref13_Same x y = some (sameP x y) := by
  unfold pledgeref13_Same sameP
  rw [ref_equal_val _ _ h1, ref_equalT_val _ _ h2, ref_equal_val _ _ h3]
  simp only [Option.bind_some, cond_some, cond_no]

theorem sameL_nil (x : List Ln) : sameL x [] = ((x.length : Int) == 0) := by
  unfold sameL
  cases x with
  | nil => rfl
  | cons a x => rw [show ((a :: x).length == ([] : List Ln).length) = false by simp, show (((a :: x).length : Int) == 0) = false by rw [beq_eq_false_iff_ne]; simp only [List.length_cons]; omega]; rfl
theorem sameT_nil (x : List Tk) : sameT x [] = ((x.length : Int) == 0) := by
  unfold sameT
  cases x with
  | nil => rfl
  | cons a x => rw [show ((a :: x).length == ([] : List Tk).length) = false by simp, show (((a :: x).length : Int) == 0) = false by rw [beq_eq_false_iff_ne]; simp only [List.length_cons]; omega]; rfl

theorem refCovered_of {s : Int} {p : Prg} (h : Few p) (hs : s ≤ 4) (h1 : linesB s p.2.2.2.1 = true) : pledgeref13_covered p = some (coveredB p.2.2.2.2.1 p.2.2.2.2.2.1 p.2.2.2.1) := by
  have l1 := h.lines; have l2 := h.takes; have l3 := h.owes
  exact refCovered_val p hs h1 (by omega) (by omega) (by omega) h.w1 h.w2 h.w3

theorem refGoodP_val (s w : Int) (p : Prg) (h : Few p) : pledgeref13_Good s w p = some (goodP s w p) := by
  have l1 := h.lines; have l2 := h.takes; have l3 := h.owes
  obtain ⟨k1, k2, k3⟩ := h.k
  unfold pledgeref13_Good goodP fineB
  cases hs1 : decide (s < 1) with
  | true => rfl
  | false =>
  cases hs2 : decide (s > 4) with
  | true => rfl
  | false =>
  cases hw1 : decide (w < 1) with
  | true => rfl
  | false =>
  cases hw2 : decide (w > 4) with
  | true => rfl
  | false =>
  have hs : s ≤ 4 := by simpa using hs2
  simp only [cond_false, Bool.not_false, Bool.true_and, refLines_val s _ (show p.2.2.2.1.length < 1000 by omega) h.w1, refLines_val s _ (show p.2.2.2.2.2.1.length < 1000 by omega) h.w3, refTakes_val s w p (by omega) h.w2, refFills_val p (by omega) h.w2,
    wrap_i64 (show -9223372036854775808 ≤ p.2.2.2.2.2.2.1 by omega) (by omega), wrap_i64 (show -9223372036854775808 ≤ p.2.2.2.2.2.2.2.1 by omega) (by omega), wrap_i64 (show -9223372036854775808 ≤ p.2.2.2.2.2.2.2.2.1 by omega) (by omega),
    Option.bind_some, cond_some, fst_cond, snd_cond, Bool.cond_self]
  have e34 : (bif p.1 == 3 then p.1 == 3 else p.1 == 4) = ((p.1 == 3) || (p.1 == 4)) := by cases (p.1 == 3) <;> rfl
  have hwr : IntKind.i64.wrap ((p.2.2.2.2.1.length : Int) + (p.2.2.2.2.2.1.length : Int)) = (p.2.2.2.2.1.length : Int) + (p.2.2.2.2.2.1.length : Int) := wrap_i64 (by omega) (by omega)
  have hsame : ∀ q : Prg, pledgeref13_Same p q = some (sameP p q) := fun q => refSameP_val p q (by omega) (by omega) (by omega)
  have fin : ∀ (x : (Unit × Unit × Bool) × Prg × Prg × Unit), x.2.1 = p → ((some x).bind fun y47 => bif y47.1.2.2 then (pledgeref13_Same y47.2.1 y47.2.2.1).bind fun r48 => some r48 else some false) = some (x.1.2.2 && sameP p x.2.2.1) := by
    intro x hx
    rw [Option.bind_some, hx, hsame, Option.bind_some]
    cases x.1.2.2 <;> rfl
  unfold goodKind orderedB movedB
  by_cases c1 : p.1 = 1
  · simp only [show (p.1 == 1) = true by rw [beq_iff_eq]; exact c1, cond_true]
    cases (p.2.1 != 0) with
    | false => rfl
    | true =>
    cases decide (p.2.2.1 ≤ 1) with
    | false => rw [Bool.and_comm]; rfl
    | true =>
    cases decide ((p.2.2.2.1.length : Int) > 0) with
    | false => rw [Bool.and_comm]; rfl
    | true =>
    cases c2 : linesB s p.2.2.2.1 with
    | false => rw [Bool.and_comm]; rfl
    | true =>
    cases takesB s w p.2.1 p.2.2.2.2.1 with
    | false => rw [Bool.and_comm]; rfl
    | true =>
    cases linesB s p.2.2.2.2.2.1 with
    | false => rw [Bool.and_comm]; rfl
    | true =>
    simp only [cond_true, Bool.true_and]
    rw [refCovered_of h hs c2, Option.bind_some]
    cases coveredB p.2.2.2.2.1 p.2.2.2.2.2.1 p.2.2.2.1 with
    | false => rw [Bool.and_comm]; rfl
    | true =>
    have hst : sameP p (p.1, p.2.1, p.2.2.1, p.2.2.2.1, p.2.2.2.2.1, p.2.2.2.2.2.1, 0, 0, 0, 0, ()) = stillB p := by
      unfold sameP stillB
      simp only [beq_self_eq_true, sameL_refl, sameT_refl, Bool.true_and]
    simp only [cond_true, Bool.true_and]
    cases (p.2.2.1 == 0) with
    | true => simp only [cond_true]; refine (fin _ rfl).trans ?_; simp only [hst, Bool.true_or, Bool.true_and, Bool.and_true]
    | false => simp only [cond_false]; refine (fin _ rfl).trans ?_; simp only [hst, Bool.false_or, Bool.and_comm]
  simp only [show (p.1 == 1) = false by rw [beq_eq_false_iff_ne]; exact c1, cond_false, e34, hwr]
  by_cases c2 : p.1 = 2
  · simp only [show (p.1 == 2) = true by rw [beq_iff_eq]; exact c2, cond_true]
    have hst : sameP p (p.1, p.2.1, 0, [], p.2.2.2.2.1, p.2.2.2.2.2.1, 0, 0, 0, 0, ()) = (bareB p && stillB p) := by
      unfold sameP stillB bareB
      simp only [beq_self_eq_true, sameL_refl, sameT_refl, sameL_nil, Bool.true_and, Bool.and_assoc]
    cases (p.2.1 != 0) with
    | false => rfl
    | true =>
    cases takesB s w p.2.1 p.2.2.2.2.1 with
    | false => simp
    | true =>
    cases linesB s p.2.2.2.2.2.1 with
    | false => simp
    | true =>
    simp only [cond_true]
    refine (fin _ rfl).trans ?_
    simp only [hst, Bool.true_and]
    cases decide ((p.2.2.2.2.1.length : Int) + (p.2.2.2.2.2.1.length : Int) > 0) <;> cases bareB p <;> cases stillB p <;> rfl
  simp only [show (p.1 == 2) = false by rw [beq_eq_false_iff_ne]; exact c2, cond_false]
  cases c34 : ((p.1 == 3) || (p.1 == 4)) with
  | true =>
    simp only [cond_true]
    have hst : sameP p (p.1, p.2.1, 0, [], p.2.2.2.2.1, [], 0, 0, 0, 0, ()) = (bareB p && (((p.2.2.2.2.2.1.length : Int) == 0) && stillB p)) := by
      unfold sameP stillB bareB
      simp only [beq_self_eq_true, sameT_refl, sameL_nil, Bool.true_and, Bool.and_assoc]
    cases (p.2.1 != 0) with
    | false => rfl
    | true =>
    cases takesB s w p.2.1 p.2.2.2.2.1 with
    | false => simp
    | true =>
    simp only [cond_true]
    refine (fin _ rfl).trans ?_
    simp only [hst, Bool.true_and]
    cases decide ((p.2.2.2.2.1.length : Int) > 0) <;> cases bareB p <;> cases stillB p <;> cases ((p.2.2.2.2.2.1.length : Int) == 0) <;> rfl
  | false =>
    simp only [cond_false]
    by_cases c5 : p.1 = 5
    · simp only [show (p.1 == 5) = true by rw [beq_iff_eq]; exact c5, cond_true]
      have hst : sameP p (p.1, 0, 0, [], p.2.2.2.2.1, [], p.2.2.2.2.2.2.1, 0, p.2.2.2.2.2.2.2.2.1, p.2.2.2.2.2.2.2.2.2.1, ()) = ((p.2.1 == 0) && (bareB p && (((p.2.2.2.2.2.1.length : Int) == 0) && (p.2.2.2.2.2.2.2.1 == 0)))) := by
        unfold sameP bareB
        simp only [beq_self_eq_true, sameT_refl, sameL_nil, Bool.true_and, Bool.and_assoc, Bool.and_true]
      cases decide (p.2.2.2.2.2.2.1 < s) with
      | false => simp
      | true =>
      cases decide (p.2.2.2.2.2.2.2.2.1 < w) with
      | false => simp
      | true =>
      cases decide (p.2.2.2.2.2.2.2.2.2.1 ≥ 1) with
      | false => simp
      | true =>
      simp only [cond_true]
      refine (fin _ rfl).trans ?_
      simp only [hst]
      cases fillsB p <;> cases (p.2.1 == 0) <;> cases bareB p <;> cases ((p.2.2.2.2.2.1.length : Int) == 0) <;> cases (p.2.2.2.2.2.2.2.1 == 0) <;> rfl
    simp only [show (p.1 == 5) = false by rw [beq_eq_false_iff_ne]; exact c5, cond_false]
    by_cases c6 : p.1 = 6
    · simp only [show (p.1 == 6) = true by rw [beq_iff_eq]; exact c6, cond_true]
      have hst : sameP p (6, 0, 0, [], [], [], p.2.2.2.2.2.2.1, p.2.2.2.2.2.2.2.1, p.2.2.2.2.2.2.2.2.1, p.2.2.2.2.2.2.2.2.2.1, ()) = ((p.2.1 == 0) && (bareB p && (((p.2.2.2.2.1.length : Int) == 0) && ((p.2.2.2.2.2.1.length : Int) == 0)))) := by
        unfold sameP bareB
        simp only [show (p.1 == 6) = true by rw [beq_iff_eq]; exact c6, beq_self_eq_true, sameT_nil, sameL_nil, Bool.true_and, Bool.and_assoc, Bool.and_true]
      cases decide (p.2.2.2.2.2.2.1 < s) with
      | false => simp
      | true =>
      cases decide (p.2.2.2.2.2.2.2.1 < w) with
      | false => simp
      | true =>
      cases decide (p.2.2.2.2.2.2.2.2.1 < w) with
      | false => simp
      | true =>
      cases (p.2.2.2.2.2.2.2.1 != p.2.2.2.2.2.2.2.2.1) with
      | false => simp
      | true =>
      simp only [cond_true]
      refine (fin _ rfl).trans ?_
      simp only [hst]
      cases decide (p.2.2.2.2.2.2.2.2.2.1 ≥ 1) <;> cases (p.2.1 == 0) <;> cases bareB p <;> cases ((p.2.2.2.2.2.1.length : Int) == 0) <;> cases ((p.2.2.2.2.1.length : Int) == 0) <;> rfl
    simp only [show (p.1 == 6) = false by rw [beq_eq_false_iff_ne]; exact c6, cond_false]
    rfl
end Go.Proofs.Pure

/- Records: which may be. -/
namespace Go.Proofs.Pure
open Go.Proofs.D Go.Proofs.F

abbrev Ky := Int × Int × Int × Unit
abbrev Rc := Int × Int × Int × Int × Bool × Ky × Int × Int × Prg × Unit
theorem sameP_val (x y : Prg) (h1 : x.2.2.2.1.length < 1000) (h2 : x.2.2.2.2.1.length < 1000) (h3 : x.2.2.2.2.2.1.length < 1000) : prog_Same x y = some (sameP x y) := by
  unfold prog_Same sameP
  rw [equal_val _ _ h1, equalT_val _ _ h2, equal_val _ _ h3]
  simp only [Option.bind_some]
  simp only [cond_some, cond_no]

def keyC (k : Ky) : Bool := decide (k.2.1 < 4) && (bif (k.1 == 1) || (k.1 == 2) then decide (k.2.2.1 < 4) else (((k.1 == 3) || (k.1 == 4)) && (k.2.2.1 == 0)))
def prgZ : Prg := (0, (0, (0, ([], ([], ([], (0, (0, (0, (0, ()))))))))))
def kyZ : Ky := (0, (0, (0, ())))
def sameR (x y : Rc) : Bool := (x.1 == y.1) && ((x.2.1 == y.2.1) && ((x.2.2.1 == y.2.2.1) && ((x.2.2.2.1 == y.2.2.2.1) && ((x.2.2.2.2.1 == y.2.2.2.2.1) && (eqE kKey x.2.2.2.2.2.1 y.2.2.2.2.2.1 && ((x.2.2.2.2.2.2.1 == y.2.2.2.2.2.2.1) && ((x.2.2.2.2.2.2.2.1 == y.2.2.2.2.2.2.2.1) && sameP x.2.2.2.2.2.2.2.2.1 y.2.2.2.2.2.2.2.2.1)))))))
theorem eqKey_refl (k : Ky) : eqE kKey k k = true := by
  show ((k.1 == k.1) && ((k.2.1 == k.2.1) && ((k.2.2.1 == k.2.2.1) && true))) = true
  simp
theorem sameR_refl (x : Rc) : sameR x x = true := by unfold sameR; simp [sameP_refl, eqKey_refl]
theorem sameR_val (x y : Rc) (hf : Few x.2.2.2.2.2.2.2.2.1) : rec_Same x y = some (sameR x y) := by
  have l1 := hf.lines; have l2 := hf.takes; have l3 := hf.owes
  unfold rec_Same sameR
  rw [sameP_val _ _ (by omega) (by omega) (by omega)]
  simp only [Option.bind_some, cond_some, cond_no]
structure FewR (r : Rc) : Prop where
  pr : Few r.2.2.2.2.2.2.2.2.1
  k1 : 0 ≤ r.2.2.2.2.2.1.2.1 ∧ r.2.2.2.2.2.1.2.1 < 256
  k2 : 0 ≤ r.2.2.2.2.2.1.2.2.1 ∧ r.2.2.2.2.2.1.2.2.1 < 256
  d : -9223372036854775808 ≤ r.2.2.2.2.2.2.1

end Go.Proofs.Pure

/- Steps: which are the same, which may be. -/
namespace Go.Proofs.Pure
open Go.Proofs.D Go.Proofs.F

/-! ### Which may be -/
def fineS (s w : Int) : Bool := decide (1 ≤ s) && decide (s ≤ 4) && decide (1 ≤ w) && decide (w ≤ 4)
def keyB (s w k a : Int) : Bool := fineS s w && decide (k < s) && decide (a < w)

theorem key_fine_val (s w : Int) : key_fine s w = some (fineS s w) := by
  unfold key_fine fineS
  by_cases h1 : 1 ≤ s <;> by_cases h2 : s ≤ 4 <;> by_cases h3 : 1 ≤ w <;> by_cases h4 : w ≤ 4 <;> simp [h1, h2, h3, h4]

theorem key_good_val (s w k a : Int) (hk : 0 ≤ k ∧ k < 256) (ha : 0 ≤ a ∧ a < 256) : key_Good s w (1, (k, (a, ()))) = some (keyB s w k a) := by
  unfold key_Good keyB
  rw [key_fine_val]
  have e1 : IntKind.i64.wrap k = k := wrap_i64 (by omega) (by omega)
  have e2 : IntKind.i64.wrap a = a := wrap_i64 (by omega) (by omega)
  have e3 : key_both 1 = some true := rfl
  simp only [Option.bind_some, e1, e2, e3, show decide ((1 : Int) < 1) = false by decide, show decide ((1 : Int) > 4) = false by decide, cond_false]
  cases fineS s w with
  | false => rfl
  | true =>
    by_cases h1 : k ≥ s
    · rw [dec_t h1, dec_f (by omega : ¬ k < s)]; rfl
    · rw [dec_f h1, dec_t (by omega : k < s)]
      by_cases h2 : a < w
      · rw [dec_t h2]; rfl
      · rw [dec_f h2]; rfl

theorem wf_line {l : List Ln} (h : ∀ x ∈ l, WfE kLine x) {i : Nat} (hi : i < l.length) : (0 ≤ (at0 l i).1 ∧ (at0 l i).1 < 256) ∧ -9223372036854775808 ≤ (at0 l i).2.1 ∧ (at0 l i).2.1 < 9223372036854775808 := by
  have := h (at0 l i) (by have := at_get hi; exact List.mem_of_getElem? this)
  exact ⟨wf_u8 this.1, wf_i64 this.2.1⟩

def risesB (l : List Ln) (i : Nat) : Bool := Nat.beq i 0 || decide ((at0 l (i - 1)).1 < (at0 l i).1)
def goodA (s w a : Int) (l : List Ln) (i : Nat) : Bool := decide (1 ≤ (at0 l i).2.1) && risesB l i && keyB s w (at0 l i).1 a
def goodR (s : Int) (l : List Ln) (i : Nat) : Bool := decide ((at0 l i).1 < s) && decide (1 ≤ (at0 l i).2.1) && risesB l i

theorem stepGood_loop (s w : Int) (x : Stp) (hl : x.2.2.1.length < 1000) (hw : ∀ y ∈ x.2.2.1, WfE kLine y) (ha : 0 ≤ x.2.1 ∧ x.2.1 < 256) :
    iterL step_Good.l1 loopN ((s, (w, ((), (x.2.2.1, ((x.2.2.1.length : Int), 0))))), (x, ())) = some (bif allFrom (goodA s w x.2.1 x.2.2.1) 0 x.2.2.1.length then .inl () else .inr false) := by
  have := loop_all (step := step_Good.l1) (fun i => ((s, (w, ((), (x.2.2.1, ((x.2.2.1.length : Int), (i : Int)))))), (x, ()))) (goodA s w x.2.1 x.2.2.1) (.inl ()) (.inr false) x.2.2.1.length (by omega) (fun i hi => by
    have hw1 := wf_line hw hi
    unfold step_Good.l1 goodA
    simp only [dec_t (show (i : Int) < (x.2.2.1.length : Int) by omega), cond_true]
    rw [nthK_get (at_get hi)]
    by_cases q : (at0 x.2.2.1 i).2.1 < 1
    · rw [dec_t q, dec_f (by omega : ¬ 1 ≤ (at0 x.2.2.1 i).2.1)]; rfl
    · rw [dec_f q, dec_t (by omega : 1 ≤ (at0 x.2.2.1 i).2.1)]
      simp only [cond_false, Bool.true_and, key_good_val s w _ _ hw1.1 ha, Option.bind_some, succ_i64 (show i < 9223372036854775807 by omega)]
      unfold risesB
      cases i with
      | zero =>
        rw [dec_f (by omega : ¬ ((0 : Nat) : Int) > 0)]
        simp only [cond_false, Nat.beq_refl, Bool.true_or, Bool.true_and]
        cases keyB s w (at0 x.2.2.1 0).1 x.2.1 <;> rfl
      | succ i =>
        have e : IntKind.i64.wrap (((i + 1 : Nat) : Int) - 1) = (i : Int) := by rw [wrap_i64 (by omega) (by omega)]; omega
        rw [dec_t (by omega : ((i + 1 : Nat) : Int) > 0)]
        simp only [cond_true, e]
        rw [nthK_get (at_get (by omega : i < x.2.2.1.length))]
        rw [show Nat.beq (i + 1) 0 = false from rfl, Bool.false_or, Nat.add_sub_cancel]
        by_cases r : (at0 x.2.2.1 i).1 ≥ (at0 x.2.2.1 (i + 1)).1
        · rw [dec_t r, dec_f (by omega : ¬ (at0 x.2.2.1 i).1 < (at0 x.2.2.1 (i + 1)).1)]; rfl
        · rw [dec_f r, dec_t (by omega : (at0 x.2.2.1 i).1 < (at0 x.2.2.1 (i + 1)).1)]
          simp only [cond_false, Bool.true_and]
          cases keyB s w (at0 x.2.2.1 (i + 1)).1 x.2.1 <;> rfl) (by
    unfold step_Good.l1
    simp only [dec_f (show ¬ (x.2.2.1.length : Int) < (x.2.2.1.length : Int) by omega), cond_false])
  rw [show (((0 : Nat) : Int)) = 0 from rfl] at this
  exact this

/-- Which steps may be. -/
def goodS (s w : Int) (x : Stp) : Bool := fineS s w && decide (1 ≤ x.1) && decide (x.1 ≤ 8) && decide (1 ≤ x.2.2.1.length) && decide (x.2.2.1.length ≤ 3) && allFrom (goodR s x.2.2.1) 0 x.2.2.1.length && (bif decide (7 ≤ x.1) then x.2.1 == 0 else decide (x.2.1 < w))

theorem stepGood_val (s w : Int) (x : Stp) (hx : WfE kStep x) (hl : x.2.2.1.length < 1000) : step_Good s w x = some (goodS s w x) := by
  obtain ⟨h1, h2, ⟨_, h3⟩, _⟩ := hx
  have w2 := wf_u8 h2
  -- the loop's result, where there is something
  have key : 1 ≤ x.2.2.1.length → (allFrom (goodA s w x.2.1 x.2.2.1) 0 x.2.2.1.length = (fineS s w && allFrom (goodR s x.2.2.1) 0 x.2.2.1.length && decide (x.2.1 < w))) := fun hpos => boolEq (by
    simp only [Bool.and_eq_true, allFrom_iff, decide_eq_true_eq]
    unfold goodA goodR keyB
    simp only [Bool.and_eq_true, decide_eq_true_eq]
    constructor
    · intro h
      have h0 := h 0 (by omega) (by omega)
      exact ⟨⟨h0.2.1.1, fun j a b => by have := h j a b; exact ⟨⟨this.2.1.2, this.1.1⟩, this.1.2⟩⟩, h0.2.2⟩
    · rintro ⟨⟨h4, h5⟩, h6⟩ j a b
      have := h5 j a b
      exact ⟨⟨this.1.2, this.2⟩, ⟨h4, this.1.1⟩, h6⟩)
  unfold step_Good goodS
  by_cases c5 : x.1 < 1
  · rw [dec_t c5, dec_f (by omega : ¬ 1 ≤ x.1)]; simp
  by_cases c6 : x.1 > 8
  · rw [dec_f c5, dec_t c6, dec_f (by omega : ¬ x.1 ≤ 8)]; simp
  by_cases c7 : (x.2.2.1.length : Int) < 1
  · rw [dec_f c5, dec_f c6, dec_t c7, dec_f (by omega : ¬ 1 ≤ x.2.2.1.length)]; simp
  by_cases c8 : (x.2.2.1.length : Int) > 3
  · rw [dec_f c5, dec_f c6, dec_f c7, dec_t c8, dec_f (by omega : ¬ x.2.2.1.length ≤ 3)]; simp
  rw [dec_f c5, dec_f c6, dec_f c7, dec_f c8, dec_t (by omega : 1 ≤ x.1), dec_t (by omega : x.1 ≤ 8), dec_t (by omega : 1 ≤ x.2.2.1.length), dec_t (by omega : x.2.2.1.length ≤ 3)]
  simp only [cond_false, Bool.and_true]
  have hware : step_atWare x.1 = some (decide (x.1 < 7)) := by
    unfold step_atWare
    by_cases a : x.1 = 7
    · rw [show ((x.1 : Int) != 7) = false by simp [a], dec_f (by omega : ¬ x.1 < 7)]; rfl
    · rw [show ((x.1 : Int) != 7) = true by simp [a]]
      by_cases b : x.1 = 8
      · rw [show ((x.1 : Int) != 8) = false by simp [b], dec_f (by omega : ¬ x.1 < 7)]; rfl
      · rw [show ((x.1 : Int) != 8) = true by simp [b], dec_t (by omega : x.1 < 7)]; rfl
  rw [hware, Option.bind_some]
  have fin : ((some (Sum.inl ((s, (w, ())), (x, ()))) : Option (((Int × Int × Unit) × Stp × Unit) ⊕ Bool)).bind fun y12 => (match y12 with | .inl y13 => (iterL step_Good.l1 loopN ((y13.1.1, (y13.1.2.1, ((), (y13.2.1.2.2.1, ((y13.2.1.2.2.1.length : Int), 0))))), (y13.2.1, ()))).bind fun y19 => (match y19 with | .inl y20 => some true | .inr y21 => some y21) | .inr y14 => some y14)) =
      some (allFrom (goodA s w x.2.1 x.2.2.1) 0 x.2.2.1.length) := by
    simp only [Option.bind_some]
    rw [stepGood_loop s w x hl h3 w2, Option.bind_some]
    cases allFrom (goodA s w x.2.1 x.2.2.1) 0 x.2.2.1.length <;> rfl
  by_cases c9 : x.1 < 7
  · rw [dec_t c9, dec_f (by omega : ¬ 7 ≤ x.1)]
    simp only [Bool.not_true, cond_false]
    refine Eq.trans fin ?_
    rw [key (by omega)]
  · rw [dec_f c9, dec_t (by omega : 7 ≤ x.1)]
    simp only [Bool.not_false, cond_true]
    by_cases c10 : x.2.1 = 0
    · rw [show ((x.2.1 : Int) != 0) = false by simp [c10], show (x.2.1 == 0) = true by simp [c10]]
      simp only [cond_false]
      refine Eq.trans fin ?_
      rw [key (by omega), c10]
      congr 1
      refine boolEq ?_
      unfold fineS
      simp only [Bool.and_eq_true, decide_eq_true_eq]
      constructor
      · rintro ⟨a, b⟩; exact ⟨a, trivial⟩
      · rintro ⟨a, b⟩; exact ⟨a, by omega⟩
    · rw [show ((x.2.1 : Int) != 0) = true by simp [c10], show (x.2.1 == 0) = false by simp [c10]]
      simp
end Go.Proofs.Pure

/- Takes in order, warehouse by warehouse. -/
namespace Go.Proofs.Pure
open Go.Proofs.D Go.Proofs.F

def lineOf (x : Tk) : Ln := (x.2.1, (x.2.2.2.1, ()))
def itemG (w : Int) (x : Tk) : List Ln := bif x.2.2.1 == w then [lineOf x] else []
def itemsAt (w : Int) (l : List Tk) : List Ln := l.flatMap (itemG w)
def grp1 (tg w : Int) : List Ln → List Stp | [] => [] | a :: l => [(tg, (w, (a :: l, ())))]
def grps (tg : Int) (l : List Tk) : List Stp := grp1 tg 0 (itemsAt 0 l) ++ (grp1 tg 1 (itemsAt 1 l) ++ (grp1 tg 2 (itemsAt 2 l) ++ grp1 tg 3 (itemsAt 3 l)))

theorem itemsAt_snoc (w : Int) (l : List Tk) (x : Tk) : itemsAt w (l ++ [x]) = itemsAt w l ++ itemG w x := by
  unfold itemsAt; rw [List.flatMap_append]; simp
theorem itemG_yes {w : Int} {x : Tk} (h : x.2.2.1 = w) : itemG w x = [lineOf x] := by unfold itemG; rw [show (x.2.2.1 == w) = true by simp [h]]; rfl
theorem itemG_no {w : Int} {x : Tk} (h : x.2.2.1 ≠ w) : itemG w x = [] := by unfold itemG; rw [show (x.2.2.1 == w) = false by simp [h]]; rfl
theorem itemsAt_nil {w : Int} : ∀ {l : List Tk}, (∀ y ∈ l, y.2.2.1 ≠ w) → itemsAt w l = []
  | [], _ => rfl
  | y :: l, h => by
    show itemG w y ++ itemsAt w l = []
    rw [itemG_no (h y List.mem_cons_self), itemsAt_nil fun z hz => h z (List.mem_cons_of_mem _ hz)]; rfl
theorem itemsAt_ne {w : Int} : ∀ {l : List Tk} {y : Tk}, y ∈ l → y.2.2.1 = w → itemsAt w l ≠ []
  | z :: l, y, h, e => by
    show itemG w z ++ itemsAt w l ≠ []
    rcases List.mem_cons.1 h with q | q
    · subst q; rw [itemG_yes e]; simp
    · have := itemsAt_ne q e; simp [this]
theorem grp1_ne {tg w : Int} {a : List Ln} (h : a ≠ []) : grp1 tg w a = [(tg, (w, (a, ())))] := by cases a with | nil => exact absurd rfl h | cons _ _ => rfl

theorem grps_new {tg : Int} {l : List Tk} {x : Tk} (hk : 0 ≤ x.2.2.1 ∧ x.2.2.1 < 4) (hs : ∀ y ∈ l, y.2.2.1 ≤ x.2.2.1) (hn : itemsAt x.2.2.1 l = []) : grps tg (l ++ [x]) = grps tg l ++ [(tg, (x.2.2.1, ([lineOf x], ())))] := by
  unfold grps
  simp only [itemsAt_snoc]
  rcases four hk with e | e | e | e
  · rw [itemsAt_nil (w := 1) fun y hy q => by have := hs y hy; omega, itemsAt_nil (w := 2) fun y hy q => by have := hs y hy; omega, itemsAt_nil (w := 3) fun y hy q => by have := hs y hy; omega]
    rw [e] at hn ⊢
    rw [hn, itemG_yes e, itemG_no (w := 1) (by omega), itemG_no (w := 2) (by omega), itemG_no (w := 3) (by omega)]; rfl
  · rw [itemsAt_nil (w := 2) fun y hy q => by have := hs y hy; omega, itemsAt_nil (w := 3) fun y hy q => by have := hs y hy; omega]
    rw [e] at hn ⊢
    rw [hn, itemG_yes e, itemG_no (w := 0) (by omega), itemG_no (w := 2) (by omega), itemG_no (w := 3) (by omega)]; simp [grp1]
  · rw [itemsAt_nil (w := 3) fun y hy q => by have := hs y hy; omega]
    rw [e] at hn ⊢
    rw [hn, itemG_yes e, itemG_no (w := 0) (by omega), itemG_no (w := 1) (by omega), itemG_no (w := 3) (by omega)]; simp [grp1]
  · rw [e] at hn ⊢
    rw [hn, itemG_yes e, itemG_no (w := 0) (by omega), itemG_no (w := 1) (by omega), itemG_no (w := 2) (by omega)]; simp [grp1]

theorem grps_old {tg : Int} {l : List Tk} {x : Tk} (hk : 0 ≤ x.2.2.1 ∧ x.2.2.1 < 4) (hs : ∀ y ∈ l, y.2.2.1 ≤ x.2.2.1) (hn : itemsAt x.2.2.1 l ≠ []) :
    ∃ pre a, grps tg l = pre ++ [(tg, (x.2.2.1, (a, ())))] ∧ grps tg (l ++ [x]) = pre ++ [(tg, (x.2.2.1, (a ++ [lineOf x], ())))] := by
  have hne : itemsAt x.2.2.1 l ++ [lineOf x] ≠ [] := by simp
  unfold grps
  simp only [itemsAt_snoc]
  rcases four hk with e | e | e | e
  · rw [itemsAt_nil (w := 1) fun y hy q => by have := hs y hy; omega, itemsAt_nil (w := 2) fun y hy q => by have := hs y hy; omega, itemsAt_nil (w := 3) fun y hy q => by have := hs y hy; omega]
    rw [e] at hn hne ⊢
    rw [itemG_yes e, itemG_no (w := 1) (by omega), itemG_no (w := 2) (by omega), itemG_no (w := 3) (by omega), grp1_ne hn, grp1_ne hne]
    exact ⟨[], itemsAt 0 l, by simp [grp1], by simp [grp1]⟩
  · rw [itemsAt_nil (w := 2) fun y hy q => by have := hs y hy; omega, itemsAt_nil (w := 3) fun y hy q => by have := hs y hy; omega]
    rw [e] at hn hne ⊢
    rw [itemG_yes e, itemG_no (w := 0) (by omega), itemG_no (w := 2) (by omega), itemG_no (w := 3) (by omega), grp1_ne hn, grp1_ne hne]
    exact ⟨grp1 tg 0 (itemsAt 0 l), itemsAt 1 l, by simp [grp1], by simp [grp1]⟩
  · rw [itemsAt_nil (w := 3) fun y hy q => by have := hs y hy; omega]
    rw [e] at hn hne ⊢
    rw [itemG_yes e, itemG_no (w := 0) (by omega), itemG_no (w := 1) (by omega), itemG_no (w := 3) (by omega), grp1_ne hn, grp1_ne hne]
    exact ⟨grp1 tg 0 (itemsAt 0 l) ++ grp1 tg 1 (itemsAt 1 l), itemsAt 2 l, by simp [grp1], by simp [grp1]⟩
  · rw [e] at hn hne ⊢
    rw [itemG_yes e, itemG_no (w := 0) (by omega), itemG_no (w := 1) (by omega), itemG_no (w := 2) (by omega), grp1_ne hn, grp1_ne hne]
    exact ⟨grp1 tg 0 (itemsAt 0 l) ++ (grp1 tg 1 (itemsAt 1 l) ++ grp1 tg 2 (itemsAt 2 l)), itemsAt 3 l, by simp [grp1], by simp [grp1]⟩

/-- Takes in order: by warehouse, and article. -/
structure Sorted (id : Int) (t : List Tk) : Prop where
  base : ∀ i, i < t.length → (at1 t i).1 = id ∧ (0 ≤ (at1 t i).2.1 ∧ (at1 t i).2.1 < 4) ∧ (0 ≤ (at1 t i).2.2.1 ∧ (at1 t i).2.2.1 < 4) ∧ 1 ≤ (at1 t i).2.2.2.1
  rise : ∀ i j, i < j → j < t.length → (at1 t i).2.2.1 < (at1 t j).2.2.1 ∨ (at1 t i).2.2.1 = (at1 t j).2.2.1 ∧ (at1 t i).2.1 < (at1 t j).2.1
  apart : ∀ i, i + 3 < t.length → (at1 t i).2.2.1 ≠ (at1 t (i + 3)).2.2.1

theorem sorted_of {id : Int} {t : List Tk} (hw : ∀ x ∈ t, WfE kTake x) (h : takesB 4 4 id t = true) : Sorted id t := by
  unfold takesB at h
  simp only [Bool.and_eq_true, decide_eq_true_eq] at h
  have hq := fun i (hi : i < t.length) => allFrom_at h.1 hi
  have hb : ∀ i, i < t.length → (at1 t i).1 = id ∧ (0 ≤ (at1 t i).2.1 ∧ (at1 t i).2.1 < 4) ∧ (0 ≤ (at1 t i).2.2.1 ∧ (at1 t i).2.2.1 < 4) ∧ 1 ≤ (at1 t i).2.2.2.1 := fun i hi => by
    have h1 := hq i hi
    have h2 := wfT hw hi
    unfold takeR takeQ tkBase at h1
    simp only [Bool.and_eq_true, Bool.not_eq_true', decide_eq_false_iff_not, bne_eq_false_iff_eq] at h1
    obtain ⟨⟨⟨a, b, c, d⟩, _⟩, _⟩ := h1
    exact ⟨a, by omega, by omega, by omega⟩
  have adj : ∀ i, i + 1 < t.length → (at1 t i).2.2.1 < (at1 t (i + 1)).2.2.1 ∨ (at1 t i).2.2.1 = (at1 t (i + 1)).2.2.1 ∧ (at1 t i).2.1 < (at1 t (i + 1)).2.1 := fun i hi => by
    have h1 := hq (i + 1) hi
    unfold takeR takeQ tkPrev at h1
    simp only [Bool.and_eq_true, Bool.or_eq_true, Bool.not_eq_true', decide_eq_false_iff_not, Bool.and_eq_false_iff, beq_eq_false_iff_ne, ne_eq, Nat.add_sub_cancel] at h1
    obtain ⟨⟨_, hp⟩, _⟩ := h1
    rcases hp with q | ⟨q1, q2⟩
    · cases q
    · by_cases e : (at1 t i).2.2.1 = (at1 t (i + 1)).2.2.1
      · exact .inr ⟨e, by rcases q2 with q | q; exact absurd e q; omega⟩
      · exact .inl (by omega)
  refine ⟨hb, fun i j hij => ?_, fun i hi q => ?_⟩
  · induction j with
    | zero => omega
    | succ j ih =>
      intro hj
      have h1 := adj j hj
      by_cases e : i = j
      · subst e; exact h1
      · have h2 := ih (by omega) (by omega)
        omega
  · have h1 := hq (i + 3) hi
    unfold takeR at h1
    simp only [Bool.and_eq_true, Bool.or_eq_true, Bool.not_eq_true', beq_eq_false_iff_ne, ne_eq, Nat.add_sub_cancel] at h1
    rcases h1.2 with q1 | q1
    · have := Nat.le_of_ble_eq_true q1; omega
    · exact q1 q

theorem take_snoc {t : List Tk} {j : Nat} (h : j < t.length) : t.take (j + 1) = t.take j ++ [at1 t j] := by
  rw [List.take_add_one, at1_get h]; rfl
theorem drop_cons {t : List Tk} {j : Nat} (h : j < t.length) : t.drop j = at1 t j :: t.drop (j + 1) := by
  rw [List.drop_eq_getElem_cons h]
  have := at1_get h
  rw [List.getElem?_eq_getElem h] at this
  rw [Option.some.inj this]
theorem mem_take {t : List Tk} {j : Nat} {y : Tk} (h : y ∈ t.take j) : ∃ i, i < j ∧ i < t.length ∧ y = at1 t i := by
  obtain ⟨i, hi, e⟩ := List.getElem_of_mem h
  have hi2 : i < j ∧ i < t.length := by simp at hi; omega
  refine ⟨i, hi2.1, hi2.2, ?_⟩
  have := at1_get hi2.2
  rw [List.getElem?_eq_getElem hi2.2] at this
  rw [← e, ← Option.some.inj this]; simp

section
variable {id : Int} {t : List Tk}
theorem Sorted.le (h : Sorted id t) {j : Nat} (hj : j < t.length) : ∀ y ∈ t.take j, y.2.2.1 ≤ (at1 t j).2.2.1 := fun y hy => by
  obtain ⟨i, h1, h2, e⟩ := mem_take hy
  subst e
  have := h.rise i j h1 hj; omega
theorem Sorted.new (h : Sorted id t) {j : Nat} (hj : j + 1 < t.length) (hn : (at1 t j).2.2.1 ≠ (at1 t (j + 1)).2.2.1) : itemsAt (at1 t (j + 1)).2.2.1 (t.take (j + 1)) = [] := by
  refine itemsAt_nil fun y hy q => ?_
  obtain ⟨i, h1, h2, e⟩ := mem_take hy
  subst e
  have h3 := h.rise j (j + 1) (by omega) hj
  by_cases e : i = j
  · subst e; exact hn q
  · have h4 := h.rise i j (by omega) (by omega); omega

theorem stepsGo_val (h : Sorted id t) (tg : Int) : ∀ (k j : Nat), j + k = t.length → prog_Steps.stepsGo tg t j (t.drop j) (grps tg (t.take j)) = some (grps tg t)
  | 0, j, hj => by
    have : j = t.length := by omega
    subst this
    rw [List.drop_length, List.take_length]; rfl
  | k + 1, j, hj => by
    have hlt : j < t.length := by omega
    have ih := stepsGo_val h tg k (j + 1) (by omega)
    rw [take_snoc hlt] at ih
    have hb := (h.base j hlt).2.2.1
    rw [drop_cons hlt]
    have new : itemsAt (at1 t j).2.2.1 (t.take j) = [] → prog_Steps.stepsGo tg t (j + 1) (t.drop (j + 1)) (grps tg (t.take j) ++ [(tg, ((at1 t j).2.2.1, ([((at1 t j).2.1, ((at1 t j).2.2.2.1, ()))], ())))]) = some (grps tg t) := fun hn => by
      rw [grps_new hb (h.le hlt) hn] at ih; exact ih
    cases j with
    | zero =>
      show ((some true).bind _) = _
      exact new (by simp [itemsAt])
    | succ j =>
      show (((t[j]?).map _).bind _) = _
      rw [at1_get (by omega : j < t.length)]
      simp only [Option.map_some, Option.bind_some]
      by_cases e : (at1 t j).2.2.1 = (at1 t (j + 1)).2.2.1
      · rw [show ((at1 t j).2.2.1 != (at1 t (j + 1)).2.2.1) = false by simp [e]]
        have hm : at1 t j ∈ t.take (j + 1) := by rw [take_snoc (by omega)]; simp
        obtain ⟨pre, a, g1, g2⟩ := grps_old (tg := tg) hb (h.le hlt) (itemsAt_ne hm e)
        rw [g1]
        simp only [List.getLast?_append, List.getLast?_singleton, Option.some_or, List.dropLast_concat]
        rw [g2] at ih; exact ih
      · rw [show ((at1 t j).2.2.1 != (at1 t (j + 1)).2.2.1) = true by simp [e]]
        exact new (h.new hlt e)

theorem tag_val {k : Int} (hk : k = 1 ∨ k = 2 ∨ k = 3 ∨ k = 4) : prog_tag k = some k := by
  rcases hk with e | e | e | e <;> subst e <;> rfl

theorem stepsG_val (p : Prg) (h : Sorted id p.2.2.2.2.1) (hk : p.1 = 1 ∨ p.1 = 2 ∨ p.1 = 3 ∨ p.1 = 4) (hl : p.2.2.2.2.1.length ≤ 100000) :
    prog_Steps.stepsG (((), ((), (p.2.2.2.2.1, ((p.2.2.2.2.1.length : Int), 0)))), (p, ())) = some (((), ()), (p, (grps p.1 p.2.2.2.2.1, ()))) := by
  unfold prog_Steps.stepsG
  simp only [decide_true, Bool.true_and, Nat.ble_eq_true_of_le hl, cond_true, tag_val hk, Option.bind_some]
  have := stepsGo_val h p.1 p.2.2.2.2.1.length 0 (by omega)
  simp only [List.drop_zero, List.take_zero] at this
  rw [show grps p.1 [] = [] from rfl] at this
  rw [this]; rfl

/-! ### The reference's way -/
theorem grp1_len (tg w : Int) (a : List Ln) : (grp1 tg w a).length ≤ 1 := by cases a <;> simp [grp1]
end
end Go.Proofs.Pure

/- What steps a program has; each may be. -/
namespace Go.Proofs.Pure
open Go.Proofs.D Go.Proofs.F

def oneS (tg w s q : Int) : Stp := (tg, (w, ([(s, (q, ()))], ())))
def owS (p : Prg) : List Stp := match p.2.2.2.2.2.1 with | [] => [] | a :: l => [((bif p.1 == 2 then 8 else 7), (0, (a :: l, ())))]
def sumQ (t : List Tk) : Int := (sumOf (t.map qtyOf)).1
def fillS (p : Prg) : List Stp := match p.2.2.2.2.1 with | [] => [] | _ :: _ => [oneS 1 p.2.2.2.2.2.2.2.2.1 p.2.2.2.2.2.2.1 (sumQ p.2.2.2.2.1), oneS 8 0 p.2.2.2.2.2.2.1 (sumQ p.2.2.2.2.1)]
def stepsP (p : Prg) : List Stp :=
  bif p.1 == 6 then [oneS 6 p.2.2.2.2.2.2.2.1 p.2.2.2.2.2.2.1 p.2.2.2.2.2.2.2.2.2.1, oneS 5 p.2.2.2.2.2.2.2.2.1 p.2.2.2.2.2.2.1 p.2.2.2.2.2.2.2.2.2.1]
  else bif p.1 == 5 then oneS 5 p.2.2.2.2.2.2.2.2.1 p.2.2.2.2.2.2.1 p.2.2.2.2.2.2.2.2.2.1 :: fillS p
  else grps p.1 p.2.2.2.2.1 ++ owS p
def stepsV (p : Prg) : List Stp := bif goodP 4 4 p then stepsP p else []

/-! ### What is known of a program that may be -/
structure Good4 (p : Prg) : Prop where
  kind : p.1 = 1 ∨ p.1 = 2 ∨ p.1 = 3 ∨ p.1 = 4
  sorted : Sorted p.2.1 p.2.2.2.2.1
  owes : linesB 4 p.2.2.2.2.2.1 = true
  some : p.2.2.2.2.1 ≠ [] ∨ p.2.2.2.2.2.1 ≠ []
  few : p.1 = 3 ∨ p.1 = 4 → p.2.2.2.2.2.1 = []
structure Good5 (p : Prg) : Prop where
  kind : p.1 = 5
  sku : 0 ≤ p.2.2.2.2.2.2.1 ∧ p.2.2.2.2.2.2.1 < 4
  ware : 0 ≤ p.2.2.2.2.2.2.2.2.1 ∧ p.2.2.2.2.2.2.2.2.1 < 4
  qty : 1 ≤ p.2.2.2.2.2.2.2.2.2.1
  fills : fillsB p = true
structure Good6 (p : Prg) : Prop where
  kind : p.1 = 6
  sku : 0 ≤ p.2.2.2.2.2.2.1 ∧ p.2.2.2.2.2.2.1 < 4
  ware : 0 ≤ p.2.2.2.2.2.2.2.2.1 ∧ p.2.2.2.2.2.2.2.2.1 < 4
  src : 0 ≤ p.2.2.2.2.2.2.2.1 ∧ p.2.2.2.2.2.2.2.1 < 4
  qty : 1 ≤ p.2.2.2.2.2.2.2.2.2.1

theorem want_first {l : List Ln} (h : linesB 4 l = true) (hw : ∀ x ∈ l, WfE kLine x) (hne : l ≠ []) : ∃ k : Nat, k < 4 ∧ 1 ≤ (wantOf l).getD k 0 := by
  have hlt := linesB_lt h
  have pos : ∀ x ∈ l, 0 ≤ x.1 ∧ x.1 < 4 := fun x hx => ⟨(wf_u8 (hw x hx).1).1, (hlt x hx).1⟩
  rcases linesB_shape h with e | ⟨a, e⟩ | ⟨a, b, e, h1⟩ | ⟨a, b, c, e, h1, h2⟩
  · exact absurd e hne
  · subst e
    have pa := pos a (by simp); have qa := hlt a (by simp)
    refine ⟨a.1.toNat, by omega, ?_⟩
    show 1 ≤ ((List.replicate 4 0).set a.1.toNat a.2.1).getD a.1.toNat 0
    rw [set_at _ _ _ _ (by simp) (by omega), if_pos rfl]; exact qa.2
  · subst e
    have pa := pos a (by simp); have pb := pos b (by simp); have qa := hlt a (by simp)
    refine ⟨a.1.toNat, by omega, ?_⟩
    show 1 ≤ (((List.replicate 4 0).set a.1.toNat a.2.1).set b.1.toNat b.2.1).getD a.1.toNat 0
    rw [set_at _ _ _ _ (by simp) (by omega), if_neg (by omega), set_at _ _ _ _ (by simp) (by omega), if_pos rfl]; exact qa.2
  · subst e
    have pa := pos a (by simp); have pb := pos b (by simp); have pc := pos c (by simp); have qa := hlt a (by simp)
    refine ⟨a.1.toNat, by omega, ?_⟩
    show 1 ≤ ((((List.replicate 4 0).set a.1.toNat a.2.1).set b.1.toNat b.2.1).set c.1.toNat c.2.1).getD a.1.toNat 0
    rw [set_at _ _ _ _ (by simp) (by omega), if_neg (by omega), set_at _ _ _ _ (by simp) (by omega), if_neg (by omega), set_at _ _ _ _ (by simp) (by omega), if_pos rfl]; exact qa.2

theorem len0 {α : Type} {l : List α} (h : ((l.length : Int) == 0) = true) : l = [] := by
  have : (l.length : Int) = 0 := by simpa using h
  exact List.eq_nil_of_length_eq_zero (by omega)
theorem lenpos {α : Type} {l : List α} (h : decide ((l.length : Int) > 0) = true) : l ≠ [] := by
  intro e; subst e; simp at h

theorem good_cases {p : Prg} (hf : Few p) (h : goodP 4 4 p = true) : Good4 p ∨ Good5 p ∨ Good6 p := by
  obtain ⟨k1, k2, k3⟩ := hf.k
  have hg : goodKind 4 4 p = true := by
    unfold goodP at h; simp only [Bool.and_eq_true] at h; exact h.2
  unfold goodKind at hg
  cases e1 : p.1 == 1 with
  | true =>
    rw [e1] at hg
    simp only [cond_true, Bool.and_eq_true] at hg
    obtain ⟨_, _, g3, g4, g5, g6, g7, g8⟩ := hg
    refine .inl ⟨.inl (by simpa using e1), sorted_of hf.w2 g5, g6, ?_, fun q => ?_⟩
    · by_cases ht : p.2.2.2.2.1 = []
      · refine .inr fun ho => ?_
        obtain ⟨k, hk, hq⟩ := want_first g4 hf.w1 (lenpos g3)
        rw [ht, ho] at g7
        unfold coveredB coverP coverK partsOf namedOf at g7
        simp only [List.flatMap_nil, List.append_nil, sumOf_nil, Bool.true_and, Bool.and_eq_true, Bool.not_eq_true', bne_eq_false_iff_eq] at g7
        obtain ⟨z0, z1, z2, z3⟩ := g7
        have : k = 0 ∨ k = 1 ∨ k = 2 ∨ k = 3 := by omega
        rcases this with e | e | e | e <;> subst e <;> omega
      · exact .inl ht
    · have : p.1 = 1 := by simpa using e1
      omega
  | false =>
  rw [e1] at hg
  cases e2 : p.1 == 2 with
  | true =>
    rw [e2] at hg
    simp only [cond_true, cond_false, Bool.and_eq_true] at hg
    obtain ⟨_, _, g3, g4, g5⟩ := hg
    refine .inl ⟨.inr (.inl (by simpa using e2)), sorted_of hf.w2 g3, g4, ?_, fun q => ?_⟩
    · by_cases ht : p.2.2.2.2.1 = []
      · refine .inr fun ho => ?_
        rw [ht, ho] at g5; simp at g5
      · exact .inl ht
    · have : p.1 = 2 := by simpa using e2
      omega
  | false =>
  rw [e2] at hg
  cases e3 : (p.1 == 3) || (p.1 == 4) with
  | true =>
    rw [e3] at hg
    simp only [cond_true, cond_false, Bool.and_eq_true] at hg
    obtain ⟨_, _, g3, g4, g5⟩ := hg
    have ho := len0 g5
    refine .inl ⟨?_, sorted_of hf.w2 g3, by rw [ho]; rfl, .inl (lenpos g4), fun _ => ho⟩
    simp only [Bool.or_eq_true, beq_iff_eq] at e3
    omega
  | false =>
  rw [e3] at hg
  cases e5 : p.1 == 5 with
  | true =>
    rw [e5] at hg
    unfold movedB at hg
    simp only [cond_true, cond_false, Bool.and_eq_true, decide_eq_true_eq] at hg
    obtain ⟨⟨_, _, _, g1, g2, g3⟩, _, g4⟩ := hg
    exact .inr (.inl ⟨by simpa using e5, ⟨k1.1, g1⟩, ⟨k3.1, g2⟩, by omega, g4⟩)
  | false =>
  rw [e5] at hg
  cases e6 : p.1 == 6 with
  | true =>
    rw [e6] at hg
    unfold movedB at hg
    simp only [cond_true, cond_false, Bool.and_eq_true, decide_eq_true_eq] at hg
    obtain ⟨⟨_, _, _, g1, g2, g3⟩, _, g4, _⟩ := hg
    exact .inr (.inr ⟨by simpa using e6, ⟨k1.1, g1⟩, ⟨k3.1, g2⟩, ⟨k2.1, g4⟩, by omega⟩)
  | false => rw [e6] at hg; simp at hg

/-! ### Each step may be -/
def FineS (s : Stp) : Prop := WfE kStep s ∧ goodS 4 4 s = true

theorem wf_mk8 {n : Int} (h1 : 0 ≤ n) (h2 : n < 256) : WfE (.int .u8) n := by
  show (Lit.int .u8 n).wf = true
  simp only [Lit.wf, Bool.and_eq_true, decide_eq_true_eq, show IntKind.u8.min = 0 by decide, show IntKind.u8.max = 255 by decide]; omega
theorem wf_mk64 {n : Int} (h1 : -9223372036854775808 ≤ n) (h2 : n < 9223372036854775808) : WfE (.int .i64) n := by
  show (Lit.int .i64 n).wf = true
  simp only [Lit.wf, Bool.and_eq_true, decide_eq_true_eq, show IntKind.i64.min = -9223372036854775808 by decide, show IntKind.i64.max = 9223372036854775807 by decide]; omega
theorem maxLen_ge {n : Nat} (h : n < 1000000) : n ≤ maxLen := by unfold maxLen; omega

theorem fineS44 : fineS 4 4 = true := by decide
theorem fine_mk {tg w : Int} {a : List Ln} (ht : 1 ≤ tg ∧ tg ≤ 8) (hw : 0 ≤ w ∧ w < 4) (h7 : 7 ≤ tg → w = 0) (hl : 1 ≤ a.length ∧ a.length ≤ 3) (ha : ∀ y ∈ a, WfE kLine y ∧ y.1 < 4 ∧ 1 ≤ y.2.1)
    (hr : ∀ i, i + 1 < a.length → (at0 a i).1 < (at0 a (i + 1)).1) : FineS (tg, (w, (a, ()))) := by
  refine ⟨⟨wf_mk8 (n := tg) (by omega) (by omega), wf_mk8 (n := w) (by omega) (by omega), ⟨maxLen_ge (n := a.length) (by omega), fun y hy => (ha y hy).1⟩, trivial⟩, ?_⟩
  unfold goodS
  simp only [fineS44, dec_t ht.1, dec_t ht.2, dec_t hl.1, dec_t hl.2, Bool.true_and, Bool.and_eq_true]
  refine ⟨allFrom_iff.2 fun j _ hj => ?_, ?_⟩
  · have hj : j < a.length := by omega
    have hm := ha (at0 a j) (List.mem_of_getElem? (at_get hj))
    unfold goodR risesB
    rw [dec_t hm.2.1, dec_t hm.2.2]
    cases j with
    | zero => rfl
    | succ j => rw [Nat.add_sub_cancel, dec_t (hr j hj)]; simp
  · by_cases q : 7 ≤ tg
    · rw [dec_t q]; simp [h7 q]
    · rw [dec_f q]; simp; omega
theorem fine_one {tg w s q : Int} (ht : 1 ≤ tg ∧ tg ≤ 8) (hw : 0 ≤ w ∧ w < 4) (h7 : 7 ≤ tg → w = 0) (hs : 0 ≤ s ∧ s < 4) (hq : 1 ≤ q ∧ q < 9223372036854775808) : FineS (oneS tg w s q) :=
  fine_mk ht hw h7 (by simp) (fun y hy => by
    rw [List.mem_singleton.1 hy]
    exact ⟨⟨wf_mk8 (n := s) (by omega) (by omega), wf_mk64 (n := q) (by omega) (by omega), trivial⟩, hs.2, hq.1⟩) (fun i hi => by simp at hi)

theorem itemsAt_range (w : Int) (t : List Tk) : ∀ j, j ≤ t.length → itemsAt w (t.take j) = ((List.range j).filter fun i => (at1 t i).2.2.1 == w).map fun i => lineOf (at1 t i)
  | 0, _ => by simp [itemsAt]
  | j + 1, h => by
    rw [take_snoc (by omega), itemsAt_snoc, itemsAt_range w t j (by omega), List.range_succ, List.filter_append, List.map_append]
    congr 1
    unfold itemG
    by_cases e : (at1 t j).2.2.1 = w
    · simp [e]
    · rw [show ((at1 t j).2.2.1 == w) = false by simp [e]]; simp [e]

theorem group_fine {id tg w : Int} {t : List Tk} (h : Sorted id t) (hwf : ∀ x ∈ t, WfE kTake x) (ht : 1 ≤ tg ∧ tg ≤ 4) (hw : 0 ≤ w ∧ w < 4) (hne : itemsAt w t ≠ []) : FineS (tg, (w, (itemsAt w t, ()))) := by
  have hr := itemsAt_range w t t.length (Nat.le_refl _)
  rw [List.take_length] at hr
  generalize hI : (List.range t.length).filter (fun i => (at1 t i).2.2.1 == w) = I at hr
  have hmem : ∀ i ∈ I, i < t.length ∧ (at1 t i).2.2.1 = w := fun i hi => by
    rw [← hI] at hi
    simpa using hi
  have hpw : I.Pairwise (· < ·) := by rw [← hI]; exact List.Pairwise.filter _ List.pairwise_lt_range
  have hget := List.pairwise_iff_getElem.1 hpw
  have hlen : I.length ≤ 3 := by
    refine Nat.le_of_not_lt fun hc => ?_
    have a1 := hget 0 1 (by omega) (by omega) (by omega)
    have a2 := hget 1 2 (by omega) (by omega) (by omega)
    have a3 := hget 2 3 (by omega) (by omega) (by omega)
    have m0 := hmem I[0] (List.getElem_mem _)
    have m3 := hmem I[3] (List.getElem_mem _)
    have h0 := h.apart (I[3] - 3) (by omega)
    rw [show I[3] - 3 + 3 = I[3] by omega] at h0
    apply h0
    by_cases e : I[0] = I[3] - 3
    · rw [← e, m0.2, m3.2]
    · have r1 := h.rise I[0] (I[3] - 3) (by omega) (by omega)
      have r2 := h.rise (I[3] - 3) I[3] (by omega) m3.1
      rw [m0.2] at r1; rw [m3.2] at r2 ⊢
      omega
  rw [hr] at hne ⊢
  have hpos : 1 ≤ I.length := by
    cases I with
    | nil => exact absurd rfl hne
    | cons _ _ => simp
  refine fine_mk (by omega) hw (by omega) (by simp; omega) (fun y hy => ?_) (fun i hi => ?_)
  · obtain ⟨i, hi, e⟩ := List.mem_map.1 hy
    subst e
    have m := hmem i hi
    have hb := h.base i m.1
    have hw2 := wfT hwf m.1
    refine ⟨⟨wf_mk8 hb.2.1.1 (by show (at1 t i).2.1 < 256; omega), wf_mk64 (by show -9223372036854775808 ≤ (at1 t i).2.2.2.1; omega) (by show (at1 t i).2.2.2.1 < _; omega), trivial⟩, hb.2.1.2, hb.2.2.2⟩
  · have hi' : i + 1 < I.length := by simpa using hi
    have e0 : at0 (I.map fun i => lineOf (at1 t i)) i = lineOf (at1 t I[i]) := by
      unfold at0; rw [List.getD_eq_getElem?_getD, List.getElem?_map, List.getElem?_eq_getElem (by omega)]; rfl
    have e1 : at0 (I.map fun i => lineOf (at1 t i)) (i + 1) = lineOf (at1 t I[i + 1]) := by
      unfold at0; rw [List.getD_eq_getElem?_getD, List.getElem?_map, List.getElem?_eq_getElem hi']; rfl
    rw [e0, e1]
    have m0 := hmem I[i] (List.getElem_mem _)
    have m1 := hmem I[i + 1] (List.getElem_mem _)
    have r := h.rise I[i] I[i + 1] (hget i (i + 1) (by omega) hi' (by omega)) m1.1
    show (at1 t I[i]).2.1 < (at1 t I[i + 1]).2.1
    rw [m0.2, m1.2] at r
    omega

theorem sumOf_true {l : List Int} (h : (sumOf l).2.1 = true) : (sumOf l).1 = total l ∧ total l < 9223372036854775808 := by
  unfold sumOf at h ⊢
  by_cases q : fitsI (total l) = true
  · rw [if_pos q]
    unfold fitsI at q
    simp only [Bool.and_eq_true, decide_eq_true_eq] at q
    exact ⟨rfl, q.2⟩
  · rw [if_neg q] at h; cases h
theorem total_pos : ∀ {l : List Int}, (∀ x ∈ l, 1 ≤ x) → (l.length : Int) ≤ total l
  | [], _ => by simp [total]
  | x :: l, h => by
    have := h x List.mem_cons_self
    have := total_pos fun y hy => h y (List.mem_cons_of_mem _ hy)
    simp only [total, List.length_cons]; omega

theorem fills_at {p : Prg} (h : fillsB p = true) : (∀ x ∈ p.2.2.2.2.1, x.2.1 = p.2.2.2.2.2.2.1 ∧ 1 ≤ x.2.2.2.1) ∧ sumQ p.2.2.2.2.1 = total (p.2.2.2.2.1.map qtyOf) ∧ total (p.2.2.2.2.1.map qtyOf) < 9223372036854775808 ∧ (p.2.2.2.2.1.length : Int) ≤ sumQ p.2.2.2.2.1 := by
  unfold fillsB at h
  simp only [Bool.and_eq_true, decide_eq_true_eq] at h
  obtain ⟨h1, _, h2, _⟩ := h
  have hq : ∀ x ∈ p.2.2.2.2.1, x.2.1 = p.2.2.2.2.2.2.1 ∧ 1 ≤ x.2.2.2.1 := fun x hx => by
    obtain ⟨i, hi, e⟩ := List.getElem_of_mem hx
    have := allFrom_at h1 hi
    have ea : at1 p.2.2.2.2.1 i = x := by unfold at1; rw [List.getD_eq_getElem?_getD, List.getElem?_eq_getElem hi, e]; rfl
    unfold fillR at this
    rw [ea] at this
    simp only [Bool.and_eq_true, Bool.not_eq_true', decide_eq_false_iff_not, bne_eq_false_iff_eq] at this
    exact ⟨this.2.2.1, by omega⟩
  obtain ⟨a, b⟩ := sumOf_true h2
  refine ⟨hq, a, b, ?_⟩
  have := total_pos (l := p.2.2.2.2.1.map qtyOf) fun x hx => by
    obtain ⟨y, hy, e⟩ := List.mem_map.1 hx
    subst e; exact (hq y hy).2
  rw [List.length_map] at this
  unfold sumQ; rw [a]; exact this

theorem grp1_mem {tg w : Int} {a : List Ln} {s : Stp} (h : s ∈ grp1 tg w a) : a ≠ [] ∧ s = (tg, (w, (a, ()))) := by
  cases a with
  | nil => cases h
  | cons x l => exact ⟨by simp, List.mem_singleton.1 h⟩

theorem owes_fine {p : Prg} (hf : Few p) (h : linesB 4 p.2.2.2.2.2.1 = true) : ∀ s ∈ owS p, FineS s := by
  intro s hs
  unfold owS at hs
  have hl := linesB_lt h
  have hw := hf.w3
  unfold linesB at h
  simp only [Bool.and_eq_true, decide_eq_true_eq] at h
  obtain ⟨h1, h2⟩ := h
  generalize p.2.2.2.2.2.1 = o at *
  cases o with
  | nil => cases hs
  | cons a l =>
    rw [List.mem_singleton.1 hs]
    refine fine_mk (by cases p.1 == 2 <;> simp) (by omega) (fun _ => rfl) ⟨by simp, by omega⟩ (fun y hy => ⟨hw y hy, (hl y hy).1, (hl y hy).2⟩) fun i hi => ?_
    have := allFrom_at h1 hi
    unfold lineR at this
    simp only [Bool.and_eq_true, Bool.or_eq_true, Bool.not_eq_true', decide_eq_false_iff_not, Nat.add_sub_cancel] at this
    rcases this.2.2 with q | q
    · cases q
    · omega

theorem stepsP_fine {p : Prg} (hf : Few p) (h : goodP 4 4 p = true) : ∀ s ∈ stepsP p, FineS s := by
  have hq := wf_i64 hf.wf.2.2.2.2.2.2.2.2.2.1
  intro s hs
  unfold stepsP at hs
  rcases good_cases hf h with g | g | g
  · rw [show (p.1 == 6) = false by have := g.kind; simp; omega, show (p.1 == 5) = false by have := g.kind; simp; omega] at hs
    simp only [cond_false] at hs
    rcases List.mem_append.1 hs with q | q
    · unfold grps at q
      simp only [List.mem_append] at q
      have ht : 1 ≤ p.1 ∧ p.1 ≤ 4 := by have := g.kind; omega
      rcases q with q | q | q | q <;> obtain ⟨hne, e⟩ := grp1_mem q <;> rw [e] <;> exact group_fine g.sorted hf.w2 ht (by omega) hne
    · exact owes_fine hf g.owes s q
  · rw [show (p.1 == 6) = false by have := g.kind; simp; omega, show (p.1 == 5) = true by have := g.kind; simp [this]] at hs
    simp only [cond_false, cond_true] at hs
    obtain ⟨f1, f2, f3, f4⟩ := fills_at g.fills
    rcases List.mem_cons.1 hs with e | e
    · rw [e]; exact fine_one (by omega) g.ware (by omega) g.sku ⟨g.qty, hq.2⟩
    · unfold fillS at e
      cases ht : p.2.2.2.2.1 with
      | nil => rw [ht] at e; cases e
      | cons a l =>
        rw [ht] at e
        rw [ht] at f4
        rw [ht] at f2 f3
        have f4 : 1 ≤ sumQ (a :: l) := by simp at f4; omega
        rcases List.mem_cons.1 e with e | e
        · rw [e]; exact fine_one (by omega) g.ware (by omega) g.sku ⟨f4, by omega⟩
        · rw [List.mem_singleton.1 e]; exact fine_one (by omega) (by omega) (fun _ => rfl) g.sku ⟨f4, by omega⟩
  · rw [show (p.1 == 6) = true by have := g.kind; simp [this]] at hs
    simp only [cond_true] at hs
    rcases List.mem_cons.1 hs with e | e
    · rw [e]; exact fine_one (by omega) g.src (by omega) g.sku ⟨g.qty, hq.2⟩
    · rw [List.mem_singleton.1 e]; exact fine_one (by omega) g.ware (by omega) g.sku ⟨g.qty, hq.2⟩

theorem owS_len (p : Prg) : (owS p).length ≤ 1 := by unfold owS; split <;> simp
theorem grps_len (tg : Int) (t : List Tk) : (grps tg t).length ≤ 4 := by
  unfold grps
  have a := grp1_len tg 0 (itemsAt 0 t); have b := grp1_len tg 1 (itemsAt 1 t); have c := grp1_len tg 2 (itemsAt 2 t); have d := grp1_len tg 3 (itemsAt 3 t)
  simp only [List.length_append]; omega
theorem stepsP_len {p : Prg} (hf : Few p) (h : goodP 4 4 p = true) : 1 ≤ (stepsP p).length ∧ (stepsP p).length ≤ 5 := by
  unfold stepsP
  rcases good_cases hf h with g | g | g
  · rw [show (p.1 == 6) = false by have := g.kind; simp; omega, show (p.1 == 5) = false by have := g.kind; simp; omega]
    simp only [cond_false]
    have a := owS_len p; have b := grps_len p.1 p.2.2.2.2.1
    rw [List.length_append]
    refine ⟨?_, by omega⟩
    rcases g.some with q | q
    · cases ht : p.2.2.2.2.1 with
      | nil => exact absurd ht q
      | cons x l =>
        have hx : x ∈ p.2.2.2.2.1 := by rw [ht]; simp
        have hb : 0 ≤ x.2.2.1 ∧ x.2.2.1 < 4 := by
          have := (g.sorted.base 0 (by rw [ht]; simp)).2.2.1
          have e : at1 p.2.2.2.2.1 0 = x := by rw [ht]; rfl
          rw [e] at this; exact this
        have hne := fun w (e : x.2.2.1 = w) => itemsAt_ne hx e
        rw [← ht]
        unfold grps
        simp only [List.length_append]
        rcases four hb with e | e | e | e
        · rw [grp1_ne (hne 0 e)]; simp; omega
        · rw [grp1_ne (hne 1 e)]; simp; omega
        · rw [grp1_ne (hne 2 e)]; simp; omega
        · rw [grp1_ne (hne 3 e)]; simp; omega
    · have : (owS p).length = 1 := by
        unfold owS
        split
        · rename_i e; exact absurd e q
        · rfl
      omega
  · rw [show (p.1 == 6) = false by have := g.kind; simp; omega, show (p.1 == 5) = true by have := g.kind; simp [this]]
    simp only [cond_false, cond_true, List.length_cons]
    unfold fillS
    split <;> simp
  · rw [show (p.1 == 6) = true by have := g.kind; simp [this]]
    simp
end Go.Proofs.Pure

/- What the program and the reference say of a program's steps. -/
namespace Go.Proofs.Pure
open Go.Proofs.D Go.Proofs.F

theorem walk_through {α X : Type} (d : X) : ∀ (l : List α) (i : Nat), walkL (X := X) (fun _ (_ : α) (_ : Unit) => .inl ()) (fun _ => d) i l () = d
  | [], _ => rfl
  | _ :: l, i => walk_through d l (i + 1)

theorem steps_loop (out : List Stp) (hl : out.length < 1000) (h : ∀ s ∈ out, FineS s) : iterL prog_Steps.l1 loopN (((), ((out.length : Int), 0)), (out, ())) = some (.inl ((), (out, ()))) := by
  have := loop_walk (step := prog_Steps.l1) out (fun i (_ : Unit) => (((), ((out.length : Int), (i : Int))), (out, ()))) (fun _ _ _ => .inl ()) (fun _ => .inl ((), (out, ()))) (fun _ _ => True) () (by omega) trivial (fun i y acc hx _ => by
    have hi := get_lt hx
    obtain ⟨h1, h2⟩ := h y (get_mem hx)
    refine ⟨?_, fun _ _ => trivial⟩
    unfold prog_Steps.l1
    have hk : 3 ≥ y.2.2.1.length := by
      unfold goodS at h2
      simp only [Bool.and_eq_true, decide_eq_true_eq] at h2
      exact h2.1.1.2
    simp only [dec_t (show (i : Int) < (out.length : Int) by omega), dec_t (show (0 : Int) ≤ (i : Int) by omega), Bool.and_true, cond_true]
    rw [chk_true rfl, nthK_get hx, stepGood_val 4 4 y h1 (by omega), h2]
    simp only [Option.bind_some, Bool.not_true, cond_false]
    rw [succ_i64 (by omega)]) (fun acc _ => by
    unfold prog_Steps.l1
    simp only [dec_f (show ¬ (out.length : Int) < (out.length : Int) by omega), cond_false])
  rw [show (((0 : Nat) : Int)) = 0 from rfl] at this
  rw [this, walk_through]

theorem clone_lines (l : List Ln) (h : l.length < 1000) : slices_Clone_api_Line_api_Line l = some ((), (l, ())) := by
  unfold slices_Clone_api_Line_api_Line
  rw [room_ok (by omega)]

theorem steps_val (p : Prg) (hf : Few p) : prog_Steps p = some (stepsV p) := by
  have l1 := hf.lines; have l2 := hf.takes; have l3 := hf.owes
  unfold prog_Steps
  rw [progGood_val 4 4 p hf, Option.bind_some]
  unfold stepsV
  cases hg : goodP 4 4 p with
  | false => rfl
  | true =>
    simp only [Bool.not_true, cond_false, cond_true]
    have hfine := stepsP_fine hf hg
    have hlen := stepsP_len hf hg
    unfold stepsP at hfine hlen ⊢
    rcases good_cases hf hg with g | g | g
    · rw [show (p.1 == 6) = false by have := g.kind; simp; omega, show (p.1 == 5) = false by have := g.kind; simp; omega] at hfine hlen ⊢
      simp only [cond_false] at hfine hlen ⊢
      rw [stepsG_val p g.sorted g.kind (by omega), Option.bind_some]
      simp only []
      have hown : (bif decide ((p.2.2.2.2.2.1.length : Int) > 0) then (slices_Clone_api_Line_api_Line p.2.2.2.2.2.1).bind fun r11 => bif (p.1 : Int) == 2 then room ((grps p.1 p.2.2.2.2.1).length + [((8, (0, (r11.2.1, ()))) : Stp)].length) (some (((), (grps p.1 p.2.2.2.2.1 ++ [((8, (0, (r11.2.1, ()))) : Stp)], ())))) else room ((grps p.1 p.2.2.2.2.1).length + [((7, (0, (r11.2.1, ()))) : Stp)].length) (some (((), (grps p.1 p.2.2.2.2.1 ++ [((7, (0, (r11.2.1, ()))) : Stp)], ())))) else some (((), (grps p.1 p.2.2.2.2.1, ()))) : Option (Unit × List Stp × Unit)) =
          some ((), (grps p.1 p.2.2.2.2.1 ++ owS p, ())) := by
        have hgl := grps_len p.1 p.2.2.2.2.1
        unfold owS
        cases ho : p.2.2.2.2.2.1 with
        | nil => rw [dec_f (by simp)]; simp
        | cons a l =>
          have hl3 : (a :: l).length < 1000 := by rw [← ho]; omega
          rw [dec_t (by simp), cond_true, clone_lines _ hl3, Option.bind_some]
          cases p.1 == 2 with
          | true => simp only [cond_true]; rw [room_ok (by simp; omega)]
          | false => simp only [cond_false]; rw [room_ok (by simp; omega)]
      refine (congrArg (fun o => Option.bind o _) hown).trans ?_
      simp only [Option.bind_some]
      rw [steps_loop _ (by omega) hfine, Option.bind_some]
    · rw [show (p.1 == 6) = false by have := g.kind; simp; omega, show (p.1 == 5) = true by have := g.kind; simp [this]]
      simp only [cond_false, cond_true]
      have h5 : prog_one 5 p.2.2.2.2.2.2.2.2.1 p.2.2.2.2.2.2.1 p.2.2.2.2.2.2.2.2.2.1 = some (oneS 5 p.2.2.2.2.2.2.2.2.1 p.2.2.2.2.2.2.1 p.2.2.2.2.2.2.2.2.2.1) := rfl
      obtain ⟨f1, f2, f3, f4⟩ := fills_at g.fills
      rw [h5, Option.bind_some, together_val _ (by omega) hf.w2, Option.bind_some]
      show (bif decide (sumQ p.2.2.2.2.1 > 0) then _ else _) = _
      unfold fillS
      cases ht : p.2.2.2.2.1 with
      | nil => rfl
      | cons a l =>
        rw [ht] at f4
        have f4 : 1 ≤ sumQ (a :: l) := by simp at f4; omega
        rw [dec_t (by omega)]
        rfl
    · rw [show (p.1 == 6) = true by have := g.kind; simp [this]]
      rfl

end Go.Proofs.Pure

/- Courses: which may be. -/
namespace Go.Proofs.Pure
open Go.Proofs.D Go.Proofs.F

abbrev Crs := Int × Prg × Bool × Int × Int × Int × Unit
theorem stepsV_le {p : Prg} (hf : Few p) : (stepsV p).length ≤ 5 := by
  unfold stepsV
  cases hg : goodP 4 4 p with
  | false => simp
  | true =>
    have := stepsP_len hf hg
    simp only [cond_true]
    exact this.2
def goodC (c : Crs) : Bool := (c.1 != 0) && (goodP 4 4 c.2.1 && (decide (c.2.2.2.1 ≥ 0) && (decide (c.2.2.2.1 ≤ ((stepsV c.2.1).length : Int)) && decide (c.2.2.2.2.1 ≥ 0))))
theorem csteps_val (c : Crs) (hf : Few c.2.1) : course_steps c = some ((stepsV c.2.1).length : Int) := by
  unfold course_steps
  rw [steps_val _ hf]; rfl
theorem goodC_val (c : Crs) (hf : Few c.2.1) : course_Good c = some (goodC c) := by
  unfold course_Good goodC
  rw [progGood_val 4 4 _ hf, csteps_val c hf]
  simp only [Option.bind_some, cond_some, cond_no]
theorem clone_val {α : Type} (l : List α) (hl : l.length < 1000) : (room (0 + l.length) (some ((), (l, ()))) : Option (Unit × List α × Unit)) = some ((), (l, ())) := room_ok (by omega)
theorem copyP_val (p : Prg) (hf : Few p) : prog_Copy p = some p := by
  have l1 := hf.lines; have l2 := hf.takes; have l3 := hf.owes
  unfold prog_Copy slices_Clone_api_Line_api_Line slices_Clone_api_Take_api_Take
  rw [clone_val _ (by omega), clone_val _ (by omega), clone_val _ (by omega)]
  rfl

end Go.Proofs.Pure

/- What a step does: additions. -/
namespace Go.Proofs.Pure
open Go.Proofs.D Go.Proofs.F

abbrev OpE := (Int × Int × Int × Unit) × Int × Unit
def addO (k s w d : Int) : OpE := ((k, (s, (w, ()))), (d, ()))
def negI (n : Int) : Int := IntKind.i64.wrap (0 - n)
def opsOne (tg w : Int) (x : Ln) : List OpE :=
  bif tg == 1 then [addO 1 x.1 w (negI x.2.1), addO 2 x.1 w x.2.1] else bif tg == 2 then [addO 2 x.1 w (negI x.2.1), addO 1 x.1 w x.2.1]
  else bif tg == 3 then [addO 2 x.1 w (negI x.2.1), addO 3 x.1 0 x.2.1] else bif tg == 4 then [addO 3 x.1 0 (negI x.2.1), addO 1 x.1 w x.2.1]
  else bif tg == 5 then [addO 1 x.1 w x.2.1] else bif tg == 6 then [addO 1 x.1 w (negI x.2.1)] else bif tg == 7 then [addO 4 x.1 0 x.2.1]
  else bif tg == 8 then [addO 4 x.1 0 (negI x.2.1)] else []
def opsItem (s : Stp) (x : Ln) : List OpE := bif decide (x.2.1 ≥ 1) then opsOne s.1 s.2.1 x else []
def opsOf (s : Stp) : List OpE := s.2.2.1.flatMap (opsItem s)

theorem opsOne_len (tg w : Int) (x : Ln) : (opsOne tg w x).length ≤ 2 := by
  unfold opsOne
  cases tg == 1 <;> cases tg == 2 <;> cases tg == 3 <;> cases tg == 4 <;> cases tg == 5 <;> cases tg == 6 <;> cases tg == 7 <;> cases tg == 8 <;> simp
theorem opsItem_len (s : Stp) (x : Ln) : (opsItem s x).length ≤ 2 := by
  unfold opsItem
  cases decide (x.2.1 ≥ 1) with
  | true => exact opsOne_len _ _ _
  | false => simp

theorem add_val (k d : Int) (x : Ln) (s : Stp) (acc : List OpE) (h : acc.length < 1000000) :
    step_Ops_1 k d () () () x s () acc = some ((), (x, (s, ((), ((), (acc ++ [addO k x.1 (bif (k == 1) || (k == 2) then s.2.1 else 0) d], ())))))) := by
  unfold step_Ops_1
  cases k == 1 with
  | true => simp only [cond_true, Option.bind_some, Bool.true_or]; rw [room_ok (by simp; omega)]; rfl
  | false =>
    cases k == 2 with
    | true => simp only [cond_true, cond_false, Option.bind_some, Bool.or_true]; rw [room_ok (by simp; omega)]; rfl
    | false => simp only [cond_false, Option.bind_some, Bool.or_false]; rw [room_ok (by simp; omega)]; rfl

theorem ops_val (s : Stp) (hl : s.2.2.1.length < 1000) : step_Ops s = some (opsOf s) := by
  unfold step_Ops opsOf
  generalize hL : s.2.2.1 = l at *
  have := loop_walk (step := step_Ops.l1) l (fun i (acc : List OpE) => (((), ((), (l, ((l.length : Int), (i : Int))))), (s, ((), (acc, ()))))) (fun _ y acc => .inl (acc ++ opsItem s y)) (fun acc => ((), ((), (acc, ())))) (fun i acc => acc.length ≤ 2 * i) [] (by omega) (Nat.le_refl _) (fun i y acc hx hi => by
    have hi2 := get_lt hx
    have ho := opsItem_len s y
    refine ⟨?_, fun _ h => by cases h; simp only [List.length_append]; omega⟩
    unfold step_Ops.l1
    simp only [dec_t (show (i : Int) < (l.length : Int) by omega), cond_true]
    rw [nthK_get hx]
    have a1 : ∀ d, step_Ops_1 1 d () () () y s () acc = some ((), (y, (s, ((), ((), (acc ++ [addO 1 y.1 s.2.1 d], ())))))) := fun d => add_val 1 d y s acc (by omega)
    have b1 : ∀ z d, step_Ops_1 1 d () () () y s () (acc ++ [z]) = some ((), (y, (s, ((), ((), (acc ++ [z] ++ [addO 1 y.1 s.2.1 d], ())))))) := fun z d => add_val 1 d y s (acc ++ [z]) (by simp; omega)
    have a2 : ∀ d, step_Ops_1 2 d () () () y s () acc = some ((), (y, (s, ((), ((), (acc ++ [addO 2 y.1 s.2.1 d], ())))))) := fun d => add_val 2 d y s acc (by omega)
    have b2 : ∀ z d, step_Ops_1 2 d () () () y s () (acc ++ [z]) = some ((), (y, (s, ((), ((), (acc ++ [z] ++ [addO 2 y.1 s.2.1 d], ())))))) := fun z d => add_val 2 d y s (acc ++ [z]) (by simp; omega)
    have a3 : ∀ d, step_Ops_1 3 d () () () y s () acc = some ((), (y, (s, ((), ((), (acc ++ [addO 3 y.1 0 d], ())))))) := fun d => add_val 3 d y s acc (by omega)
    have b3 : ∀ z d, step_Ops_1 3 d () () () y s () (acc ++ [z]) = some ((), (y, (s, ((), ((), (acc ++ [z] ++ [addO 3 y.1 0 d], ())))))) := fun z d => add_val 3 d y s (acc ++ [z]) (by simp; omega)
    have a4 : ∀ d, step_Ops_1 4 d () () () y s () acc = some ((), (y, (s, ((), ((), (acc ++ [addO 4 y.1 0 d], ())))))) := fun d => add_val 4 d y s acc (by omega)
    have s1 := succ_i64 (n := i) (by omega)
    unfold opsItem
    by_cases c : y.2.1 < 1
    · rw [dec_t c, dec_f (show ¬ y.2.1 ≥ 1 by omega)]
      simp only [cond_true, cond_false, List.append_nil, s1]
    · rw [dec_f c, dec_t (show y.2.1 ≥ 1 by omega)]
      simp only [cond_true, cond_false, a1, a2, a3, a4, b1, b2, b3, Option.bind_some, s1]
      unfold opsOne negI
      by_cases e1 : s.1 = 1
      · simp only [e1, show ((1 : Int) == 1) = true from rfl, cond_true]; simp
      by_cases e3 : s.1 = 3
      · simp only [e3, show ((3 : Int) == 1) = false from rfl, show ((3 : Int) == 2) = false from rfl, show ((3 : Int) == 3) = true from rfl, cond_true, cond_false]; simp
      by_cases e2 : s.1 = 2
      · simp only [e2, show ((2 : Int) == 1) = false from rfl, show ((2 : Int) == 2) = true from rfl, show ((2 : Int) == 3) = false from rfl, cond_true, cond_false]; simp
      rw [show (s.1 == 1) = false by simp [e1], show (s.1 == 2) = false by simp [e2], show (s.1 == 3) = false by simp [e3]]
      simp only [cond_false]
      by_cases e5 : s.1 = 5
      · simp only [e5, show ((5 : Int) == 4) = false from rfl, show ((5 : Int) == 5) = true from rfl, cond_true, cond_false]
      by_cases e4 : s.1 = 4
      · simp only [e4, show ((4 : Int) == 4) = true from rfl, show ((4 : Int) == 5) = false from rfl, cond_true, cond_false]; simp
      rw [show (s.1 == 4) = false by simp [e4], show (s.1 == 5) = false by simp [e5]]
      simp only [cond_false]
      by_cases e6 : s.1 = 6
      · simp only [e6, show ((6 : Int) == 6) = true from rfl, cond_true]
      by_cases e7 : s.1 = 7
      · simp only [e7, show ((7 : Int) == 6) = false from rfl, show ((7 : Int) == 7) = true from rfl, cond_true, cond_false]
      by_cases e8 : s.1 = 8
      · simp only [e8, show ((8 : Int) == 6) = false from rfl, show ((8 : Int) == 7) = false from rfl, show ((8 : Int) == 8) = true from rfl, cond_true, cond_false]
      rw [show (s.1 == 6) = false by simp [e6], show (s.1 == 7) = false by simp [e7], show (s.1 == 8) = false by simp [e8]]
      simp) (fun acc _ => by
    unfold step_Ops.l1
    simp only [dec_f (show ¬ (l.length : Int) < (l.length : Int) by omega), cond_false])
  rw [show (((0 : Nat) : Int)) = 0 from rfl] at this
  rw [this, walk_gather, List.nil_append]; rfl
theorem opsOf_len (s : Stp) : (opsOf s).length ≤ 2 * s.2.2.1.length := by
  unfold opsOf
  generalize s.2.2.1 = l
  induction l with
  | nil => simp
  | cons x l ih =>
    have := opsItem_len s x
    simp only [List.flatMap_cons, List.length_append, List.length_cons]; omega
end Go.Proofs.Pure

/- What undoes a step. -/
namespace Go.Proofs.Pure
open Go.Proofs.D Go.Proofs.F

def negE (x : OpE) : OpE := (x.1, (negI x.2.1, ()))
theorem negGo_val : ∀ (l acc : List OpE), (∀ x ∈ l, x.2.1 ≠ -9223372036854775808) → acc.length + l.length ≤ 1000000 → negGo (kk := kKey) calc_Neg l acc = some (acc ++ l.map negE, true)
  | [], acc, _, _ => by show some (acc, true) = _; simp
  | x :: l, acc, h, hl => by
    have hx : (x.2.1 == (-9223372036854775808 : Int)) = false := by simpa using h x (by simp)
    have e : calc_Neg x.2.1 = some (negI x.2.1, (true, ())) := by unfold calc_Neg negI; rw [hx]; rfl
    show ((calc_Neg x.2.1).bind fun r => match r.2.1 with
      | false => some ([], false)
      | true => room (acc.length + 1) (negGo (kk := kKey) calc_Neg l (acc ++ [(x.1, (r.1, ()))]))) = _
    rw [e]
    simp only [List.length_cons] at hl
    show room (acc.length + 1) (negGo (kk := kKey) calc_Neg l (acc ++ [negE x])) = _
    rw [room_ok (by omega), negGo_val l (acc ++ [negE x]) (fun y hy => h y (by simp [hy])) (by simp only [List.length_append, List.length_cons, List.length_nil]; omega)]
    rw [List.append_assoc]; rfl

theorem neg_val (l : List OpE) (h : ∀ x ∈ l, x.2.1 ≠ -9223372036854775808) (hl : l.length ≤ 1000000) : op_Neg l = some (((), (true, ())), (l.reverse.map negE, ())) := by
  show chk (decide ((0 : Int) ≤ 0) && decide ((0 : Int) ≤ (l.length : Int)) && decide ((l.length : Int) ≤ 4294967296)) ((negGo (kk := kKey) calc_Neg l.reverse []).map fun r => (((), (r.2, ())), (r.1, ()))) = _
  rw [chk_true (by simp; omega)]
  exact congrArg (Option.map fun r => (((), (r.2, ())), (r.1, ()))) (negGo_val l.reverse [] (fun x hx => h x (by simpa using hx)) (by simpa using hl))

theorem ops_fine (s : Stp) (hw : ∀ x ∈ s.2.2.1, WfE kLine x) : ∀ x ∈ opsOf s, x.2.1 ≠ -9223372036854775808 := by
  intro x hx
  unfold opsOf at hx
  obtain ⟨y, hy, hx⟩ := List.mem_flatMap.1 hx
  have hq := wf_i64 (hw y hy).2.1
  unfold opsItem at hx
  by_cases c : y.2.1 ≥ 1
  · rw [dec_t c, cond_true] at hx
    have hn : negI y.2.1 = -y.2.1 := by unfold negI; rw [wrap_i64 (by omega) (by omega)]; omega
    have key : ∀ z ∈ opsOne s.1 s.2.1 y, z.2.1 = negI y.2.1 ∨ z.2.1 = y.2.1 := by
      intro z hz
      unfold opsOne addO at hz
      revert hz
      cases s.1 == 1 <;> cases s.1 == 2 <;> cases s.1 == 3 <;> cases s.1 == 4 <;> cases s.1 == 5 <;> cases s.1 == 6 <;> cases s.1 == 7 <;> cases s.1 == 8 <;> simp only [cond_true, cond_false, List.mem_cons, List.not_mem_nil, or_false] <;> intro hz <;>
        first | exact hz.elim | (rcases hz with rfl | rfl <;> simp) | (subst hz; simp)
    rcases key x hx with e | e <;> rw [e] <;> omega
  · rw [dec_f c, cond_false] at hx; cases hx

theorem undo_val (s : Stp) (hw : ∀ x ∈ s.2.2.1, WfE kLine x) (hl : s.2.2.1.length < 1000) : step_Undo s = some ((opsOf s).reverse.map negE) := by
  have ho := opsOf_len s
  unfold step_Undo
  rw [ops_val s hl, Option.bind_some, neg_val _ (ops_fine s hw) (by omega)]; rfl
end Go.Proofs.Pure

/- What steps, programs and courses may take, but for the record of the start. -/
namespace Go.Proofs.Pure
open Go.Proofs.D Go.Proofs.F

theorem ncost2 : rec_Cost 2 = some 17 := by kernel_rfl
theorem ncost3 : rec_Cost 3 = some 22 := by kernel_rfl
theorem ncost4 : rec_Cost 4 = some 11 := by kernel_rfl
theorem ncost5 : rec_Cost 5 = some 11 := by kernel_rfl
theorem ncost6 : rec_Cost 6 = some 22 := by kernel_rfl
theorem ncost7 : rec_Cost 7 = some 11 := by kernel_rfl
def passV (s : Stp) : Int := 17 + (opsOf s).length * 22 + 11
def failV (s : Stp) : Int := 17 + (opsOf s).length * 22 + 11 + (opsOf s).length * 22 + 11
def passesV : List Stp → Int | [] => 0 | s :: l => passV s + passesV l
def attV : List Stp → Int → Int | [], m => m | s :: l, m => attV l (if failV s > m then failV s else m)
theorem passesV_le : ∀ {l : List Stp}, (∀ s ∈ l, 0 ≤ passV s ∧ passV s < 100000) → 0 ≤ passesV l ∧ passesV l ≤ 100000 * (l.length : Int)
  | [], _ => by simp [passesV]
  | s :: l, h => by
    have h1 := h s (by simp)
    have h2 := passesV_le (l := l) fun s hs => h s (by simp [hs])
    simp only [passesV, List.length_cons]; omega
theorem attV_le : ∀ {l : List Stp} {m : Int}, 0 ≤ m → m < 200000 → (∀ s ∈ l, 0 ≤ failV s ∧ failV s < 200000) → 0 ≤ attV l m ∧ attV l m < 200000
  | [], m, h1, h2, _ => ⟨h1, h2⟩
  | s :: l, m, h1, h2, h => by
    have h3 := h s (by simp)
    refine attV_le (l := l) ?_ ?_ fun s hs => h s (by simp [hs])
    · split <;> omega
    · split <;> omega

/-- What is known of steps that may be. -/
structure Mild (l : List Stp) : Prop where
  len : l.length ≤ 5
  items : ∀ s ∈ l, s.2.2.1.length ≤ 3
theorem walk_pass (l : List Stp) : ∀ (k : List Stp) (i : Nat) (a : Int), walkL (X := Int) (fun _ s a => .inl (a + passV s)) (fun a => a) i k a = a + passesV k
  | [], _, a => by simp [walkL, passesV]
  | s :: k, i, a => by simp only [walkL, walk_pass l k (i + 1), passesV]; omega
theorem walk_att : ∀ (k : List Stp) (i : Nat) (a : Int), walkL (X := Int) (fun _ s a => .inl (if failV s > a then failV s else a)) (fun a => a) i k a = attV k a
  | [], _, a => rfl
  | s :: k, i, a => by simp only [walkL, walk_att k (i + 1), attV]

end Go.Proofs.Pure

/- What is left of a course, and what is held for it. -/
namespace Go.Proofs.Pure
open Go.Proofs.D Go.Proofs.F

theorem Mild.take {l : List Stp} (h : Mild l) (a b : Nat) : Mild ((l.take b).drop a) :=
  ⟨by have := h.len; rw [List.length_drop, List.length_take]; omega, fun s hs => h.items s (List.mem_of_mem_take (List.mem_of_mem_drop hs))⟩

end Go.Proofs.Pure

/- What the writer writes: how much. -/
namespace Go.Proofs.Pure
open Go.Proofs.D Go.Proofs.F

abbrev Wr := (Int × Unit) × Unit × Int × Unit
def wr0 : Wr := ((0, ()), ((), (512, ())))
abbrev WrOut := Unit × Wr × Unit × List Int × Unit
def wOut (b : List Int) : WrOut := ((), (wr0, ((), (b, ()))))

theorem raw_val (x b : List Int) (h : b.length + x.length ≤ 512) : wire_Writer_Raw () x wr0 b = some (wOut (b ++ x)) := by
  have e1 : IntKind.i64.wrap (512 - (b.length : Int)) = 512 - (b.length : Int) := wrap_i64 (by omega) (by omega)
  show (bif !((0 : Int) == 0) then some ((), (((0, ()), ((), (512, ()))), ((), (b, ())))) else bif decide ((x.length : Int) > (IntKind.i64.wrap (512 - (b.length : Int)))) then _ else room (b.length + x.length) (some ((), (((0, ()), ((), (512, ()))), ((), (b ++ x, ())))))) = _
  rw [e1, dec_f (show ¬ (x.length : Int) > 512 - (b.length : Int) by omega), room_ok (by omega)]
  rfl

theorem num_val (x : Int) (n : Nat) (b : List Int) (h1 : 1 ≤ n) (h8 : n ≤ 8) (hx : n < 8 → Int.fdiv x (2 ^ (min (IntKind.i64.wrap (8 * (n : Int)) : Int).toNat 64)) = 0) (hb : b.length + n ≤ 512) : ∃ y : List Int, y.length = n ∧ wire_Writer_Num () x (n : Int) wr0 b = some (wOut (b ++ y)) := by
  unfold wire_Writer_Num
  have hchk : decide (0 ≤ (IntKind.i64.wrap (8 * (n : Int)))) = true := by rw [wrap_i64 (by omega) (by omega)]; simp; omega
  have hpre : (bif decide ((n : Int) < 1) then some ((((), (x, ((n : Int), true))), ((wr0.1, ((), wr0.2.2)), (b, ())))) else bif decide ((n : Int) > 8) then some ((((), (x, ((n : Int), true))), ((wr0.1, ((), wr0.2.2)), (b, ())))) else bif decide ((n : Int) < 8) then chk (decide (0 ≤ (IntKind.i64.wrap (8 * (n : Int))))) (some ((((), (x, ((n : Int), (Int.fdiv x (2 ^ (min (IntKind.i64.wrap (8 * (n : Int)) : Int).toNat 64)) : Int) != 0))), ((wr0.1, ((), wr0.2.2)), (b, ()))))) else some ((((), (x, ((n : Int), false))), ((wr0.1, ((), wr0.2.2)), (b, ())))) : Option ((Unit × Int × Int × Bool) × Wr × List Int × Unit)) = some ((((), (x, ((n : Int), false))), (wr0, (b, ())))) := by
    rw [dec_f (show ¬ (n : Int) < 1 by omega), dec_f (show ¬ (n : Int) > 8 by omega)]
    by_cases h : n < 8
    · rw [dec_t (show (n : Int) < 8 by omega), chk_true hchk, hx h]; rfl
    · rw [dec_f (show ¬ (n : Int) < 8 by omega)]; rfl
  have hpre' := congrArg (fun z => Option.bind z fun (y22 : (Unit × Int × Int × Bool) × Wr × List Int × Unit) => bif y22.1.2.2.2 then (wire_fault_wrong () 1 y22.2.1.1).bind fun r23 => some ((), ((r23.2.1, ((), y22.2.1.2.2)), ((), (y22.2.2.1, ())))) else (iterL wire_Writer_Num.l1 loopN (((), (y22.1.2.1, (y22.1.2.2.1, ((), (y22.1.2.2.1, 0))))), ((y22.2.1.1, ((), y22.2.1.2.2)), (y22.2.2.1, (List.replicate 8 0, ()))))).bind fun y26 => chk (decide (0 ≤ y26.1.2.1) && decide (y26.1.2.1 ≤ 8)) ((wire_Writer_Raw () ((y26.2.2.2.1.take (y26.1.2.1 : Int).toNat).drop 0) (y26.2.1.1, ((), y26.2.1.2.2)) y26.2.2.1).bind fun r27 => some ((), ((r27.2.1.1, ((), r27.2.1.2.2)), ((), (r27.2.2.2.1, ())))))) hpre
  have hl := loop_walk (step := wire_Writer_Num.l1) (List.range n) (fun i (arr : List Int) => (((), (x, ((n : Int), ((), ((n : Int), (i : Int)))))), (wr0, (b, (arr, ()))))) (fun i _ arr => .inl (arr.set i (IntKind.u8.wrap (Int.fdiv x (2 ^ (min (IntKind.i64.wrap (8 * (i : Int)) : Int).toNat 64)))))) (fun arr => (((), ((n : Int), ())), (wr0, (b, (arr, ()))))) (fun _ arr => arr.length = 8) (List.replicate 8 0) (by simp; omega) (by simp) (fun i y arr hy hi => by
    have hi2 := get_lt hy
    rw [List.length_range] at hi2
    refine ⟨?_, fun _ h => by cases h; rw [List.length_set]; exact hi⟩
    obtain ⟨z, hz⟩ : ∃ z, arr[i]? = some z := ⟨_, List.getElem?_eq_getElem (by omega)⟩
    unfold wire_Writer_Num.l1
    simp only [dec_t (show (i : Int) < (n : Int) by omega), cond_true]
    rw [chk_true (by rw [wrap_i64 (by omega) (by omega)]; simp; omega), chk_true (by simp; omega)]
    show natK (i : Int) (fun n24 => nthN arr n24 fun e25 => _) = _
    show nthN arr i (fun e25 => _) = _
    rw [nthN_get hz, succ_i64 (by omega)]) (fun arr _ => by
    unfold wire_Writer_Num.l1
    rw [List.length_range]
    simp only [dec_f (show ¬ (n : Int) < (n : Int) by omega), cond_false])
  have hend : ∀ (l : List Nat) (i : Nat) (arr : List Int), arr.length = 8 → ∃ arr' : List Int, arr'.length = 8 ∧ walkL (X := (Unit × Int × Unit) × Wr × List Int × List Int × Unit) (fun i (_ : Nat) (arr : List Int) => .inl (arr.set i (IntKind.u8.wrap (Int.fdiv x (2 ^ (min (IntKind.i64.wrap (8 * (i : Int)) : Int).toNat 64)))))) (fun arr => (((), ((n : Int), ())), (wr0, (b, (arr, ()))))) i l arr = (((), ((n : Int), ())), (wr0, (b, (arr', ())))) := by
    intro l
    induction l with
    | nil => intro i arr h; exact ⟨arr, h, rfl⟩
    | cons a l ih => intro i arr h; exact ih (i + 1) _ (by rw [List.length_set]; exact h)
  obtain ⟨arr', ha1, ha2⟩ := hend (List.range n) 0 (List.replicate 8 0) (by simp)
  rw [show (((0 : Nat) : Int)) = 0 from rfl, ha2] at hl
  refine ⟨(arr'.take n).drop 0, by simp; omega, ?_⟩
  refine hpre'.trans ?_
  show ((iterL wire_Writer_Num.l1 loopN (((), (x, ((n : Int), ((), ((n : Int), 0))))), (wr0, (b, (List.replicate 8 0, ()))))).bind _) = _
  rw [hl]
  show chk (decide (0 ≤ (n : Int)) && decide ((n : Int) ≤ 8)) ((wire_Writer_Raw () ((arr'.take (n : Int).toNat).drop 0) wr0 b).bind fun r27 => some ((), ((r27.2.1.1, ((), r27.2.1.2.2)), ((), (r27.2.2.2.1, ()))))) = _
  rw [chk_true (by simp; omega), Int.toNat_natCast, raw_val _ _ (by simp; omega)]
  rfl

theorem shift_zero (x : Int) (k : Nat) (h0 : 0 ≤ x) (h : x < 2 ^ k) : Int.fdiv x (2 ^ k) = 0 := by
  rw [Int.fdiv_eq_ediv_of_nonneg _ (Int.pow_nonneg (by omega))]
  exact Int.ediv_eq_zero_of_lt h0 h
theorem num1_val (x : Int) (b : List Int) (h0 : 0 ≤ x) (h : x < 256) (hb : b.length + 1 ≤ 512) : ∃ y : List Int, y.length = 1 ∧ wire_Writer_Num () x 1 wr0 b = some (wOut (b ++ y)) :=
  num_val x 1 b (by omega) (by omega) (fun _ => shift_zero x 8 h0 (by omega)) hb
theorem num4_val (x : Int) (b : List Int) (h0 : 0 ≤ x) (h : x < 4294967296) (hb : b.length + 4 ≤ 512) : ∃ y : List Int, y.length = 4 ∧ wire_Writer_Num () x 4 wr0 b = some (wOut (b ++ y)) :=
  num_val x 4 b (by omega) (by omega) (fun _ => shift_zero x 32 h0 (by omega)) hb
theorem int_val (x : Int) (b : List Int) (hb : b.length + 8 ≤ 512) : ∃ y : List Int, y.length = 8 ∧ wire_Writer_Int () x wr0 b = some (wOut (b ++ y)) := by
  obtain ⟨y, h1, h2⟩ := num_val (IntKind.u64.wrap x) 8 b (by omega) (by omega) (fun h => by omega) hb
  refine ⟨y, h1, ?_⟩
  unfold wire_Writer_Int
  have h2 : wire_Writer_Num () (IntKind.u64.wrap x) 8 (wr0.1, ((), wr0.2.2)) b = some (wOut (b ++ y)) := h2
  rw [h2]; rfl

theorem u64_of {x : Int} (h0 : 0 ≤ x) (h : x < 18446744073709551616) : IntKind.u64.wrap x = x := by
  show x % 18446744073709551616 = x
  omega

theorem putLines_val (l : List Ln) (b : List Int) (hw : ∀ x ∈ l, WfE kLine x) (hl : l.length < 256) (hb : b.length + 1 + 9 * l.length ≤ 512) : ∃ y : List Int, y.length = 1 + 9 * l.length ∧ prog_putLines () l wr0 b = some (wOut (b ++ y)) := by
  unfold prog_putLines
  obtain ⟨y0, a1, a2⟩ := num1_val (l.length : Int) b (by omega) (by omega) (by omega)
  have a2 : wire_Writer_Num () (IntKind.u64.wrap (l.length : Int)) 1 (wr0.1, ((), wr0.2.2)) b = some (wOut (b ++ y0)) := by rw [u64_of (by omega) (by omega)]; exact a2
  rw [a2]
  obtain ⟨z, hz1, hz2⟩ : ∃ z : List Int, z.length = b.length + 1 + 9 * l.length ∧ (∃ y, z = b ++ y) ∧ iterL prog_putLines.l1 loopN (((), (l, ((l.length : Int), 0))), (wr0, ((), (b ++ y0, ())))) = some ((), (wr0, ((), (z, ())))) := by
    have key : ∀ (k i : Nat) (acc : List Int) (n : Nat), i + k = l.length → k < n → (∃ y, acc = b ++ y) → acc.length = b.length + 1 + 9 * i → ∃ z : List Int, z.length = b.length + 1 + 9 * l.length ∧ (∃ y, z = b ++ y) ∧ iterL prog_putLines.l1 n (((), (l, ((l.length : Int), (i : Int)))), (wr0, ((), (acc, ())))) = some ((), (wr0, ((), (z, ())))) := by
      intro k
      induction k with
      | zero =>
        intro i acc n hi hn hy ha
        obtain ⟨m, rfl⟩ : ∃ m, n = m + 1 := ⟨n - 1, by omega⟩
        refine ⟨acc, by rw [ha]; omega, hy, iterL_done ?_⟩
        unfold prog_putLines.l1
        simp only [dec_f (show ¬ (i : Int) < (l.length : Int) by omega), cond_false]
      | succ k ih =>
        intro i acc n hi hn hy ha
        obtain ⟨m, rfl⟩ : ∃ m, n = m + 1 := ⟨n - 1, by omega⟩
        obtain ⟨e, he⟩ : ∃ e, l[i]? = some e := ⟨_, List.getElem?_eq_getElem (by omega)⟩
        have hwe := wf_u8 (hw e (get_mem he)).1
        obtain ⟨y1, b1, b2⟩ := num1_val e.1 acc (by omega) (by omega) (by omega)
        obtain ⟨y2, c1, c2⟩ := int_val e.2.1 (acc ++ y1) (by rw [List.length_append]; omega)
        have b2 : wire_Writer_Num () (IntKind.u64.wrap e.1) 1 (wr0.1, ((), wr0.2.2)) acc = some (wOut (acc ++ y1)) := by rw [u64_of (by omega) (by omega)]; exact b2
        have hs : prog_putLines.l1 (((), (l, ((l.length : Int), (i : Int)))), (wr0, ((), (acc, ())))) = some (.inl (((), (l, ((l.length : Int), ((i + 1 : Nat) : Int)))), (wr0, ((), (acc ++ y1 ++ y2, ()))))) := by
          unfold prog_putLines.l1
          simp only [dec_t (show (i : Int) < (l.length : Int) by omega), cond_true]
          rw [nthK_get he, b2]
          show ((wire_Writer_Int () e.2.1 wr0 (acc ++ y1)).bind _) = _
          rw [c2, succ_i64 (by omega)]
          rfl
        rw [iterL_next hs]
        obtain ⟨y, rfl⟩ := hy
        exact ih (i + 1) _ m (by omega) (by omega) ⟨y ++ y1 ++ y2, by simp⟩ (by simp only [List.length_append] at ha ⊢; omega)
    exact key l.length 0 (b ++ y0) loopN (by omega) (by rw [loopN_eq]; omega) ⟨y0, rfl⟩ (by rw [List.length_append]; omega)
  obtain ⟨⟨y, rfl⟩, hz3⟩ := hz2
  refine ⟨y, by rw [List.length_append] at hz1; omega, ?_⟩
  show ((iterL prog_putLines.l1 loopN (((), (l, ((l.length : Int), 0))), (wr0, ((), (b ++ y0, ()))))).bind _) = _
  rw [hz3]; rfl

theorem takes_val (p : Prg) (l : List Tk) (b0 : List Int) (hw : ∀ x ∈ l, WfE kTake x) (hb : b0.length + 14 * l.length ≤ 512) : ∃ y : List Int, y.length = 14 * l.length ∧ iterL prog_Encode.l1 loopN (((), ((), (l, ((l.length : Int), 0)))), (p, (wr0, (b0, ())))) = some (((), ()), (p, (wr0, (b0 ++ y, ())))) := by
  have key : ∀ (k i : Nat) (y : List Int) (n : Nat), i + k = l.length → k < n → y.length = 14 * i → ∃ z : List Int, z.length = 14 * l.length ∧ iterL prog_Encode.l1 n (((), ((), (l, ((l.length : Int), (i : Int))))), (p, (wr0, (b0 ++ y, ())))) = some (((), ()), (p, (wr0, (b0 ++ z, ())))) := by
    intro k
    induction k with
    | zero =>
      intro i y n hi hn hy
      obtain ⟨m, rfl⟩ : ∃ m, n = m + 1 := ⟨n - 1, by omega⟩
      refine ⟨y, by rw [hy]; omega, iterL_done ?_⟩
      unfold prog_Encode.l1
      simp only [dec_f (show ¬ (i : Int) < (l.length : Int) by omega), cond_false]
    | succ k ih =>
      intro i y n hi hn hy
      obtain ⟨m, rfl⟩ : ∃ m, n = m + 1 := ⟨n - 1, by omega⟩
      obtain ⟨e, he⟩ : ∃ e, l[i]? = some e := ⟨_, List.getElem?_eq_getElem (by omega)⟩
      have hwe := wf_u32 (hw e (get_mem he)).1
      obtain ⟨y1, b1, b2⟩ := num4_val e.1 (b0 ++ y) (by omega) (by omega) (by rw [List.length_append]; omega)
      have b2 : wire_Writer_Num () (IntKind.u64.wrap e.1) 4 (wr0.1, ((), wr0.2.2)) (b0 ++ y) = some (wOut (b0 ++ y ++ y1)) := by rw [u64_of (by omega) (by omega)]; exact b2
      have c2 := raw_val [e.2.1, e.2.2.1] (b0 ++ y ++ y1) (by simp only [List.length_append, List.length_cons, List.length_nil]; omega)
      obtain ⟨y3, d1, d2⟩ := int_val e.2.2.2.1 (b0 ++ y ++ y1 ++ [e.2.1, e.2.2.1]) (by simp only [List.length_append, List.length_cons, List.length_nil]; omega)
      have hs : prog_Encode.l1 (((), ((), (l, ((l.length : Int), (i : Int))))), (p, (wr0, (b0 ++ y, ())))) = some (.inl (((), ((), (l, ((l.length : Int), ((i + 1 : Nat) : Int))))), (p, (wr0, (b0 ++ (y ++ y1 ++ [e.2.1, e.2.2.1] ++ y3), ()))))) := by
        unfold prog_Encode.l1
        simp only [dec_t (show (i : Int) < (l.length : Int) by omega), cond_true]
        rw [nthK_get he, b2]
        show ((wire_Writer_Raw () [e.2.1, e.2.2.1] wr0 (b0 ++ y ++ y1)).bind _) = _
        rw [c2]
        show ((wire_Writer_Int () e.2.2.2.1 wr0 (b0 ++ y ++ y1 ++ [e.2.1, e.2.2.1])).bind _) = _
        rw [d2, succ_i64 (by omega)]
        simp only [List.append_assoc]
        rfl
      rw [iterL_next hs]
      exact ih (i + 1) _ m (by omega) (by omega) (by simp only [List.length_append, List.length_cons, List.length_nil]; omega)
  obtain ⟨z, h1, h2⟩ := key l.length 0 [] loopN (by omega) (by rw [loopN_eq]; omega) rfl
  rw [List.append_nil] at h2
  exact ⟨z, h1, h2⟩

theorem done_val (b : List Int) (hb : b.length ≤ 512) : wire_Writer_Done () wr0 b = some ((b, (0, ())), (wr0, (b, ()))) := by
  show room (0 + b.length) (some (([] ++ b, (0, ())), (wr0, (b, ())))) = _
  rw [room_ok (by omega)]; rfl

theorem encode_val (p : Prg) (hf : Few p) (hg : goodP 4 4 p = true) (hn : 20 + 9 * p.2.2.2.1.length + 14 * p.2.2.2.2.1.length + 9 * p.2.2.2.2.2.1.length ≤ 500) : ∃ y : List Int, y.length = 20 + 9 * p.2.2.2.1.length + 14 * p.2.2.2.2.1.length + 9 * p.2.2.2.2.2.1.length ∧ prog_Encode p = some (y, (0, ())) := by
  have l1 := hf.lines; have l2 := hf.takes; have l3 := hf.owes
  have w0 := wf_u8 hf.wf.1
  have w1 := wf_u32 hf.wf.2.1
  have w2 := wf_u8 hf.wf.2.2.1
  have u0 : IntKind.u64.wrap p.1 = p.1 := u64_of (by omega) (by omega)
  have u1 : IntKind.u64.wrap p.2.1 = p.2.1 := u64_of (by omega) (by omega)
  have u2 : IntKind.u64.wrap p.2.2.1 = p.2.2.1 := u64_of (by omega) (by omega)
  have u3 : IntKind.u64.wrap (p.2.2.2.2.1.length : Int) = (p.2.2.2.2.1.length : Int) := u64_of (by omega) (by omega)
  obtain ⟨y1, a1, e1⟩ := num1_val p.1 [] (by omega) (by omega) (by simp)
  obtain ⟨y2, a2, e2⟩ := num4_val p.2.1 ([] ++ y1) (by omega) (by omega) (by simp; omega)
  obtain ⟨y3, a3, e3⟩ := num1_val p.2.2.1 ([] ++ y1 ++ y2) (by omega) (by omega) (by simp; omega)
  obtain ⟨y4, a4, e4⟩ := putLines_val p.2.2.2.1 ([] ++ y1 ++ y2 ++ y3) hf.wf.2.2.2.1.2 (by omega) (by simp; omega)
  obtain ⟨y5, a5, e5⟩ := num1_val (p.2.2.2.2.1.length : Int) ([] ++ y1 ++ y2 ++ y3 ++ y4) (by omega) (by omega) (by simp; omega)
  obtain ⟨y6, a6, e6⟩ := takes_val p p.2.2.2.2.1 ([] ++ y1 ++ y2 ++ y3 ++ y4 ++ y5) hf.wf.2.2.2.2.1.2 (by simp; omega)
  obtain ⟨y7, a7, e7⟩ := putLines_val p.2.2.2.2.2.1 ([] ++ y1 ++ y2 ++ y3 ++ y4 ++ y5 ++ y6) hf.wf.2.2.2.2.2.1.2 (by omega) (by simp; omega)
  have e8 := raw_val [p.2.2.2.2.2.2.1, p.2.2.2.2.2.2.2.1, p.2.2.2.2.2.2.2.2.1] ([] ++ y1 ++ y2 ++ y3 ++ y4 ++ y5 ++ y6 ++ y7) (by simp; omega)
  obtain ⟨y9, a9, e9⟩ := int_val p.2.2.2.2.2.2.2.2.2.1 ([] ++ y1 ++ y2 ++ y3 ++ y4 ++ y5 ++ y6 ++ y7 ++ [p.2.2.2.2.2.2.1, p.2.2.2.2.2.2.2.1, p.2.2.2.2.2.2.2.2.1]) (by simp; omega)
  have e10 := done_val ([] ++ y1 ++ y2 ++ y3 ++ y4 ++ y5 ++ y6 ++ y7 ++ [p.2.2.2.2.2.2.1, p.2.2.2.2.2.2.2.1, p.2.2.2.2.2.2.2.2.1] ++ y9) (by simp; omega)
  refine ⟨[] ++ y1 ++ y2 ++ y3 ++ y4 ++ y5 ++ y6 ++ y7 ++ [p.2.2.2.2.2.2.1, p.2.2.2.2.2.2.2.1, p.2.2.2.2.2.2.2.2.1] ++ y9, by simp only [List.length_append, List.length_cons, List.length_nil]; omega, ?_⟩
  · unfold prog_Encode
    rw [progGood_val 4 4 p hf, hg, u0, u1, u2, u3]
    show ((wire_Writer_Num () p.1 1 wr0 []).bind _) = _
    rw [e1]
    show ((wire_Writer_Num () p.2.1 4 wr0 ([] ++ y1)).bind _) = _
    rw [e2]
    show ((wire_Writer_Num () p.2.2.1 1 wr0 ([] ++ y1 ++ y2)).bind _) = _
    rw [e3]
    show ((prog_putLines () p.2.2.2.1 wr0 ([] ++ y1 ++ y2 ++ y3)).bind _) = _
    rw [e4]
    show ((wire_Writer_Num () (p.2.2.2.2.1.length : Int) 1 wr0 ([] ++ y1 ++ y2 ++ y3 ++ y4)).bind _) = _
    rw [e5]
    show ((iterL prog_Encode.l1 loopN (((), ((), (p.2.2.2.2.1, ((p.2.2.2.2.1.length : Int), 0)))), (p, (wr0, ([] ++ y1 ++ y2 ++ y3 ++ y4 ++ y5, ()))))).bind _) = _
    rw [e6]
    show ((prog_putLines () p.2.2.2.2.2.1 wr0 ([] ++ y1 ++ y2 ++ y3 ++ y4 ++ y5 ++ y6)).bind _) = _
    rw [e7]
    show ((wire_Writer_Raw () [p.2.2.2.2.2.2.1, p.2.2.2.2.2.2.2.1, p.2.2.2.2.2.2.2.2.1] wr0 ([] ++ y1 ++ y2 ++ y3 ++ y4 ++ y5 ++ y6 ++ y7)).bind _) = _
    rw [e8]
    show ((wire_Writer_Int () p.2.2.2.2.2.2.2.2.2.1 wr0 ([] ++ y1 ++ y2 ++ y3 ++ y4 ++ y5 ++ y6 ++ y7 ++ [p.2.2.2.2.2.2.1, p.2.2.2.2.2.2.2.1, p.2.2.2.2.2.2.2.2.1])).bind _) = _
    rw [e9]
    show ((wire_Writer_Done () wr0 ([] ++ y1 ++ y2 ++ y3 ++ y4 ++ y5 ++ y6 ++ y7 ++ [p.2.2.2.2.2.2.1, p.2.2.2.2.2.2.2.1, p.2.2.2.2.2.2.2.2.1] ++ y9)).bind _) = _
    rw [e10]
    rfl

abbrev RcS := Int × Int × Int × Int × Bool × (Int × Int × Int × Unit) × Int × Int × Prg × Unit
def startR (p : Prg) : RcS := (1, (1, (0, (0, (false, ((0, (0, (0, ()))), (0, (0, (p, ())))))))))
theorem recEncode_eq (p : Prg) : rec_Encode (startR p) = ((rec_Good (startR p)).bind fun r18 => bif !r18 then some ([], (1, ())) else (prog_Encode p).bind fun r27 => (wire_Writer_Bytes () r27.1 wr0 [1, 1, 0, 0, 0]).bind fun r28 => (wire_Writer_Done () (r28.2.1.1, ((), r28.2.1.2.2)) r28.2.2.2.1).bind fun r29 => some (r29.1.1, (r29.1.2.1, ()))) := by kernel_rfl
theorem recEncode_val (p : Prg) (hf : Few p) (hg : goodP 4 4 p = true) (hr : rec_Good (startR p) = some true) (hn : 20 + 9 * p.2.2.2.1.length + 14 * p.2.2.2.2.1.length + 9 * p.2.2.2.2.2.1.length ≤ 500) :
    rec_Size (startR p) = some (6 + (7 + (20 + 9 * (p.2.2.2.1.length : Int) + 14 * (p.2.2.2.2.1.length : Int) + 9 * (p.2.2.2.2.2.1.length : Int)))) := by
  obtain ⟨y, h1, h2⟩ := encode_val p hf hg hn
  have e3 := raw_val ([IntKind.u8.wrap (y.length : Int), IntKind.u8.wrap (Int.fdiv (y.length : Int) (2 ^ 8))] ++ y) [1, 1, 0, 0, 0] (by simp only [List.length_append, List.length_cons, List.length_nil]; omega)
  have e4 := done_val ([1, 1, 0, 0, 0] ++ ([IntKind.u8.wrap (y.length : Int), IntKind.u8.wrap (Int.fdiv (y.length : Int) (2 ^ 8))] ++ y)) (by simp only [List.length_append, List.length_cons, List.length_nil]; omega)
  have hb : wire_Writer_Bytes () y wr0 [1, 1, 0, 0, 0] = some (wOut ([1, 1, 0, 0, 0] ++ ([IntKind.u8.wrap (y.length : Int), IntKind.u8.wrap (Int.fdiv (y.length : Int) (2 ^ 8))] ++ y))) := by
    unfold wire_Writer_Bytes
    rw [dec_f (show ¬ (y.length : Int) > 65535 by omega)]
    simp only [cond_false]
    rw [room_ok (by simp only [List.length_cons, List.length_nil]; omega)]
    exact (congrArg (fun z => Option.bind z fun (r29 : WrOut) => (some ((), ((r29.2.1.1, ((), r29.2.1.2.2)), ((), (r29.2.2.2.1, ())))) : Option WrOut)) e3)
  have hE : rec_Encode (startR p) = some ([1, 1, 0, 0, 0] ++ ([IntKind.u8.wrap (y.length : Int), IntKind.u8.wrap (Int.fdiv (y.length : Int) (2 ^ 8))] ++ y), (0, ())) := by
    rw [recEncode_eq, hr, Option.bind_some]
    simp only [Bool.not_true, cond_false]
    rw [h2, Option.bind_some]
    simp only
    rw [hb, Option.bind_some]
    exact (congrArg (fun z => Option.bind z fun (r29 : (List Int × Int × Unit) × Wr × List Int × Unit) => (some (r29.1.1, (r29.1.2.1, ())) : Option (List Int × Int × Unit))) e4)
  unfold rec_Size
  rw [hE, Option.bind_some]
  have hl : (([1, 1, 0, 0, 0] ++ ([IntKind.u8.wrap (y.length : Int), IntKind.u8.wrap (Int.fdiv (y.length : Int) (2 ^ 8))] ++ y)).length : Int) = 7 + (20 + 9 * (p.2.2.2.1.length : Int) + 14 * (p.2.2.2.2.1.length : Int) + 9 * (p.2.2.2.2.2.1.length : Int)) := by
    simp only [List.length_append, List.length_cons, List.length_nil]; omega
  simp only
  rw [hl]
  unfold frame_Size
  rw [dec_f (by omega), dec_f (by omega), wrap_i64 (by omega) (by omega)]
  rfl
end Go.Proofs.Pure

/- Records of a course: which may be, and how long they are. -/
namespace Go.Proofs.Pure
open Go.Proofs.D Go.Proofs.F

abbrev TxE := Int × Int × Int × Bool × Bool × List OpE × Int × Int × Unit
abbrev JnE := List (Int × TxE)
theorem bind_of {α β : Type} {o : Option α} {x : α} {f : α → Option β} (h : o = some x) : o.bind f = f x := by rw [h]; rfl
def recO (c n : Int) (k : Ky) (d : Int) : Rc := (c, (0, (n, (0, (false, (k, (d, (0, (prgZ, ())))))))))
def recBg (n step : Int) (comp : Bool) : Rc := (2, (1, (n, (step, (comp, (kyZ, (0, (0, (prgZ, ())))))))))
def recBk : Rc := (8, (1, (0, (0, (false, (kyZ, (0, (0, (prgZ, ())))))))))
def recDn (out : Int) : Rc := (9, (1, (0, (0, (false, (kyZ, (0, (out, (prgZ, ())))))))))

theorem keyG_val (k : Ky) (h1 : 0 ≤ k.2.1 ∧ k.2.1 < 256) (h2 : 0 ≤ k.2.2.1 ∧ k.2.2.1 < 256) : key_Good 4 4 k = some (keyC k) := by
  obtain ⟨a, b, c, u⟩ := k
  simp only at h1 h2
  have e1 : IntKind.i64.wrap b = b := wrap_i64 (by omega) (by omega)
  have e2 : IntKind.i64.wrap c = c := wrap_i64 (by omega) (by omega)
  unfold key_Good key_fine key_both keyC
  simp only [e1, e2]
  have ne : ∀ n : Int, a ≠ n → (a == n) = false := fun n h => by simpa using h
  by_cases hb : b < 4
  · rw [dec_f (show ¬ b ≥ 4 by omega), dec_t hb]
    by_cases a1 : a = 1
    · subst a1; by_cases hc : c < 4 <;> simp [hc]
    by_cases a2 : a = 2
    · subst a2; by_cases hc : c < 4 <;> simp [hc]
    by_cases a3 : a = 3
    · subst a3; simp
    by_cases a4 : a = 4
    · subst a4; simp
    rw [ne 1 a1, ne 2 a2, ne 3 a3, ne 4 a4]
    by_cases l1 : a < 1
    · simp [l1]
    · have l4 : a > 4 := by omega
      simp [l4]
  · rw [dec_t (show b ≥ 4 by omega), dec_f hb]
    by_cases l1 : a < 1
    · simp [l1]
    · by_cases l4 : a > 4
      · simp [l4]
      · simp [l1, l4]

theorem eqOp_refl (o : OpE) : eqE kOp o o = true := by
  have : eqE kOp o o = (eqE kKey o.1 o.1 && ((o.2.1 == o.2.1) && true)) := rfl
  rw [this, eqKey_refl]; simp
theorem same_refl3 (n : Int) (k : Ky) (d : Int) : rec_Same (recO 3 n k d) (recO 3 n k d) = some true := by
  have : rec_Same (recO 3 n k d) (recO 3 n k d) = bif n == n then (bif eqE kKey k k then (bif d == d then some true else some false) else some false) else some false := by kernel_rfl
  rw [this, eqKey_refl]; simp
theorem same_refl6 (n : Int) (k : Ky) (d : Int) : rec_Same (recO 6 n k d) (recO 6 n k d) = some true := by
  have : rec_Same (recO 6 n k d) (recO 6 n k d) = bif n == n then (bif eqE kKey k k then (bif d == d then some true else some false) else some false) else some false := by kernel_rfl
  rw [this, eqKey_refl]; simp
theorem own3 (n : Int) (k : Ky) (d : Int) : rec_own (recO 3 n k d) = bif n != 0 then ((key_Good 4 4 k).bind fun r => bif r then bif d != 0 then some (recO 3 n k d, ((d != (-9223372036854775808)), ())) else some (recO 3 n k d, (false, ())) else some (recO 3 n k d, (false, ()))) else some (recO 3 n k d, (false, ())) := by kernel_rfl
theorem own6 (n : Int) (k : Ky) (d : Int) : rec_own (recO 6 n k d) = bif n != 0 then ((key_Good 4 4 k).bind fun r => bif r then bif d != 0 then some (recO 6 n k d, ((d != (-9223372036854775808)), ())) else some (recO 6 n k d, (false, ())) else some (recO 6 n k d, (false, ()))) else some (recO 6 n k d, (false, ())) := by kernel_rfl

/-- An addition that may be written, and undone. -/
structure OkO (k : Ky) (d : Int) : Prop where
  key : key_Good 4 4 k = some true
  d0 : d ≠ 0
  d1 : d ≠ -9223372036854775808
  lo : -9223372036854775808 ≤ d
  hi : d < 9223372036854775808
theorem OkO.neg {k : Ky} {d : Int} (h : OkO k d) : IntKind.i64.wrap (0 - d) = - d ∧ OkO k (- d) := by
  obtain ⟨a, b, c, e, f⟩ := h
  exact ⟨by rw [wrap_i64 (by omega) (by omega)]; omega, ⟨a, by omega, by omega, by omega, by omega⟩⟩
theorem good3 {n : Int} {k : Ky} {d : Int} (hn : n ≠ 0) (h : OkO k d) : rec_Good (recO 3 n k d) = some true := by
  unfold rec_Good
  rw [own3, h.key, show (n != 0) = true by simpa using hn, show (d != 0) = true by simpa using h.d0, show (d != -9223372036854775808) = true by simpa using h.d1]
  show ((rec_Same (recO 3 n k d) (recO 3 n k d)).bind fun r3 => some r3) = some true
  rw [same_refl3]; rfl
theorem good6 {n : Int} {k : Ky} {d : Int} (hn : n ≠ 0) (h : OkO k d) : rec_Good (recO 6 n k d) = some true := by
  unfold rec_Good
  rw [own6, h.key, show (n != 0) = true by simpa using hn, show (d != 0) = true by simpa using h.d0, show (d != -9223372036854775808) = true by simpa using h.d1]
  show ((rec_Same (recO 6 n k d) (recO 6 n k d)).bind fun r3 => some r3) = some true
  rw [same_refl6]; rfl
theorem goodBare {c n : Int} (hc : c = 4 ∨ c = 5 ∨ c = 7) (hn : n ≠ 0) : rec_Good (recO c n kyZ 0) = some true := by
  have h0 : (n != 0) = true := by simpa using hn
  have hs : rec_Same (recO c n kyZ 0) (recO c n kyZ 0) = bif c == c then (bif n == n then some true else some false) else some false := by kernel_rfl
  have ho : rec_own (recO c n kyZ 0) = some (recO c n kyZ 0, ((n != 0), ())) := by rcases hc with rfl | rfl | rfl <;> kernel_rfl
  unfold rec_Good
  rw [ho, h0]
  show ((rec_Same (recO c n kyZ 0) (recO c n kyZ 0)).bind fun r3 => some r3) = some true
  rw [hs]; simp
theorem goodBg {n step : Int} {comp : Bool} (hn : n ≠ 0) (hs : step < 5) : rec_Good (recBg n step comp) = some true := by
  have h0 : (n != 0) = true := by simpa using hn
  have ho : rec_own (recBg n step comp) = bif n != 0 then some (recBg n step comp, (decide (step < 5), ())) else some (recBg n step comp, (false, ())) := by kernel_rfl
  have h1 : rec_Same (recBg n step comp) (recBg n step comp) = bif n == n then (bif step == step then (bif comp == comp then some true else some false) else some false) else some false := by kernel_rfl
  unfold rec_Good
  rw [ho, h0, dec_t hs]
  show ((rec_Same (recBg n step comp) (recBg n step comp)).bind fun r3 => some r3) = some true
  rw [h1]; simp
theorem goodBk : rec_Good recBk = some true := by kernel_rfl
theorem goodDn1 : rec_Good (recDn 1) = some true := by kernel_rfl
theorem goodDn2 : rec_Good (recDn 2) = some true := by kernel_rfl

theorem num4 {n : Int} (b : Int) (h0 : 0 ≤ n) (h : n < 4294967296) : ∃ x y z t : Int, wire_Writer_Num () (IntKind.u64.wrap n) 4 wr0 [b] = some (wOut [b, x, y, z, t]) := by
  rw [u64_of h0 (by omega)]
  obtain ⟨y, hy, h⟩ := num4_val n [b] h0 h (by simp)
  match y, hy with
  | [p, q, r, s], _ => exact ⟨p, q, r, s, h⟩
theorem size3 {n : Int} {k : Ky} {d : Int} (h0 : 0 ≤ n) (h : n < 4294967296) (hg : rec_Good (recO 3 n k d) = some true) : rec_Size (recO 3 n k d) = some 22 := by
  obtain ⟨x, y, z, t, hN⟩ := num4 3 h0 h
  unfold rec_Size rec_Encode
  rw [hg]
  show (Option.bind (Option.bind (Option.bind (wire_Writer_Num () (IntKind.u64.wrap n) 4 wr0 [3]) _) _) _) = _
  rw [hN]
  (show _ = _; kernel_rfl)
theorem size6 {n : Int} {k : Ky} {d : Int} (h0 : 0 ≤ n) (h : n < 4294967296) (hg : rec_Good (recO 6 n k d) = some true) : rec_Size (recO 6 n k d) = some 22 := by
  obtain ⟨x, y, z, t, hN⟩ := num4 6 h0 h
  unfold rec_Size rec_Encode
  rw [hg]
  show (Option.bind (Option.bind (Option.bind (wire_Writer_Num () (IntKind.u64.wrap n) 4 wr0 [6]) _) _) _) = _
  rw [hN]
  (show _ = _; kernel_rfl)
theorem sizeBare {c n : Int} (hc : c = 4 ∨ c = 5 ∨ c = 7) (h0 : 0 ≤ n) (h : n < 4294967296) (hn : n ≠ 0) : rec_Size (recO c n kyZ 0) = some 11 := by
  have hg := goodBare hc hn
  obtain ⟨x, y, z, t, hN⟩ := num4 c h0 h
  unfold rec_Size rec_Encode
  rw [hg]
  rcases hc with rfl | rfl | rfl
  · show (Option.bind (Option.bind (Option.bind (wire_Writer_Num () (IntKind.u64.wrap n) 4 wr0 [4]) _) _) _) = _
    rw [hN]
    (show _ = _; kernel_rfl)
  · show (Option.bind (Option.bind (Option.bind (wire_Writer_Num () (IntKind.u64.wrap n) 4 wr0 [5]) _) _) _) = _
    rw [hN]
    (show _ = _; kernel_rfl)
  · show (Option.bind (Option.bind (Option.bind (wire_Writer_Num () (IntKind.u64.wrap n) 4 wr0 [7]) _) _) _) = _
    rw [hN]
    (show _ = _; kernel_rfl)
theorem num4b {n : Int} (h0 : 0 ≤ n) (h : n < 4294967296) : ∃ x y z t : Int, wire_Writer_Num () (IntKind.u64.wrap n) 4 wr0 [2, 1, 0, 0, 0] = some (wOut [2, 1, 0, 0, 0, x, y, z, t]) := by
  rw [u64_of h0 (by omega)]
  obtain ⟨y, hy, h⟩ := num4_val n [2, 1, 0, 0, 0] h0 h (by simp)
  match y, hy with
  | [p, q, r, s], _ => exact ⟨p, q, r, s, h⟩
theorem sizeBg {n step : Int} {comp : Bool} (h0 : 0 ≤ n) (h : n < 4294967296) (hn : n ≠ 0) (hs : step < 5) : rec_Size (recBg n step comp) = some 17 := by
  have hg := goodBg (comp := comp) hn hs
  obtain ⟨x, y, z, t, hN⟩ := num4b h0 h
  unfold rec_Size rec_Encode
  rw [hg]
  have hS : wire_Writer_Num () (IntKind.u64.wrap 1) 4 ((0, ()), ((), (512, ()))) [2] = some ((), (((0, ()), ((), (512, ()))), ((), ([2, 1, 0, 0, 0], ())))) := by kernel_rfl
  have hN : wire_Writer_Num () (IntKind.u64.wrap n) 4 ((0, ()), ((), (512, ()))) [2, 1, 0, 0, 0] = some ((), (((0, ()), ((), (512, ()))), ((), ([2, 1, 0, 0, 0, x, y, z, t], ())))) := hN
  have a1 : wire_New 512 = some ((), (((0, ()), ((), (512, ()))), ())) := by kernel_rfl
  have a2 : wire_Writer_Raw () [2] ((0, ()), ((), (512, ()))) [] = some ((), (((0, ()), ((), (512, ()))), ((), ([2], ())))) := by kernel_rfl
  have a3 : rec_ofSaga 2 = some true := by kernel_rfl
  have a4 : rec_ofTxn 2 = some true := by kernel_rfl
  simp only [recBg, Option.bind_some, Bool.not_true, cond_false, cond_true, a1, a2, a3, a4, hS, hN]
  cases comp <;> (show _ = _; kernel_rfl)
theorem sizeBk : rec_Size recBk = some 11 := by kernel_rfl
theorem sizeDn1 : rec_Size (recDn 1) = some 12 := by kernel_rfl
theorem sizeDn2 : rec_Size (recDn 2) = some 12 := by kernel_rfl
end Go.Proofs.Pure

/- A journal with one open transaction: what each record makes of it, and what it tells. -/
namespace Go.Proofs.Pure
open Go.Proofs.D Go.Proofs.F

def tx (n saga step : Int) (comp dead : Bool) (done : List OpE) (first size : Int) : TxE := (n, (saga, (step, (comp, (dead, (done, (first, (size, ()))))))))
/-- The parts of a transaction but for its additions. -/
def txU (n saga step : Int) (comp dead : Bool) (first size : Int) : Int × Int × Int × Bool × Bool × Unit × Int × Int × Unit := (n, (saga, (step, (comp, (dead, ((), (first, (size, ()))))))))
def jOf (l : JnE) : (Unit × Unit) × JnE × Unit := (((), ()), (l, ()))

section
variable {n saga step first size : Int} {comp dead : Bool} {done : List OpE}
theorem eqU (n : Int) : eqE (.int .u32) n n = true := by
  have : eqE (.int .u32) n n = (n == n) := rfl
  rw [this]; simp
theorem has_one (T : TxE) : hasM (.int .u32) kTxn ([(n, T)] : JnE) n = true := by
  have : hasM (.int .u32) kTxn ([(n, T)] : JnE) n = (eqE (.int .u32) n n || false) := rfl
  rw [this, eqU]; rfl
theorem get_one (T : TxE) : getM (.int .u32) kTxn ([(n, T)] : JnE) n = T := by
  have : getM (.int .u32) kTxn ([(n, T)] : JnE) n = bif eqE (.int .u32) n n then T else zeroE kTxn := rfl
  rw [this, eqU]; rfl
theorem put_one (T U : TxE) : (putM (.int .u32) kTxn ([(n, T)] : JnE) n U : JnE) = [(n, U)] := by
  have : (putM (.int .u32) kTxn ([(n, T)] : JnE) n U : JnE) = bif eqE (.int .u32) n n then [(n, U)] else [(n, T), (n, U)] := rfl
  rw [this, eqU]; rfl
theorem del_one (T : TxE) : (delM (.int .u32) kTxn ([(n, T)] : JnE) n : JnE) = [] := by
  have : (delM (.int .u32) kTxn ([(n, T)] : JnE) n : JnE) = bif eqE (.int .u32) n n then [] else [(n, T)] := rfl
  rw [this, eqU]; rfl
theorem getJ (h : done.length ≤ 4294967296) : journal_Journal_Get () n ((), ()) [(n, tx n saga step comp dead done first size)] = some ((txU n saga step comp dead first size, (true, ())), (((), ()), ([(n, tx n saga step comp dead done first size)], (done, ())))) := by
  unfold journal_Journal_Get
  rw [has_one, get_one]
  show (Option.bind (bif Nat.ble done.length 4294967296 then some _ else none) _) = _
  rw [Nat.ble_eq_true_of_le h]; rfl

theorem apply_add {at_ : Int} {k : Ky} {d s : Int} (h : done.length < 6) (hg : rec_Good (recO 3 n k d) = some true) (hs : rec_Size (recO 3 n k d) = some s) :
    journal_Journal_Apply () at_ (recO 3 n k d) ((), ()) [(n, tx n saga step comp false done first size)] = some (0, jOf [(n, tx n saga step comp false (done ++ [(k, (d, ()))]) first (IntKind.i64.wrap (size + s)))]) := by
  unfold journal_Journal_Apply
  rw [hg]
  refine (bind_of (getJ (by omega))).trans ?_
  refine (bind_of hs).trans ?_
  show (Option.bind (bif decide ((done.length : Int) ≥ 6) then _ else room (done.length + [(k, (d, ()))].length) (some _)) _) = _
  rw [dec_f (by omega), room_ok (by simp; omega)]
  show some (0, (((), ()), (putM (.int .u32) kTxn ([(n, tx n saga step comp false done first size)] : JnE) n (tx n saga step comp false (done ++ [(k, (d, ()))]) first (IntKind.i64.wrap (size + s))), ()))) = _
  rw [put_one]; rfl
theorem apply_abort {at_ : Int} {k : Ky} {d s : Int} (h : done.length ≤ 4294967296) (hg : rec_Good (recO 5 n k d) = some true) (hs : rec_Size (recO 5 n k d) = some s) :
    journal_Journal_Apply () at_ (recO 5 n k d) ((), ()) [(n, tx n saga step comp false done first size)] = some (0, jOf [(n, tx n saga step comp true done first (IntKind.i64.wrap (size + s)))]) := by
  unfold journal_Journal_Apply
  rw [hg]
  refine (bind_of (getJ h)).trans ?_
  refine (bind_of hs).trans ?_
  show some (0, (((), ()), (putM (.int .u32) kTxn ([(n, tx n saga step comp false done first size)] : JnE) n (tx n saga step comp true done first (IntKind.i64.wrap (size + s))), ()))) = _
  rw [put_one]; rfl
theorem last_val {l : List OpE} {k : Ky} {d : Int} (hl : l.length < 1000) (hd : d ≠ -9223372036854775808) : journal_Last (tx n saga step comp dead (l ++ [(k, (d, ()))]) first size) = some ((k, (IntKind.i64.wrap (0 - d), ())), (true, ())) := by
  have hlen : (l ++ [(k, (d, ()))]).length = l.length + 1 := by simp
  have hget : (l ++ [(k, (d, ()))])[l.length]? = some (k, (d, ())) := by simp
  unfold journal_Last
  show (bif (((l ++ [(k, (d, ()))]).length : Int) == 0) then _ else nthK (l ++ [(k, (d, ()))]) (IntKind.i64.wrap (((l ++ [(k, (d, ()))]).length : Int) - 1)) _) = _
  rw [hlen, pred_i64 (by omega), show (((l.length + 1 : Nat) : Int) == 0) = false by simp; omega, cond_false, nthK_get hget]
  show (bif (d == -9223372036854775808) then _ else nthK (l ++ [(k, (d, ()))]) (IntKind.i64.wrap (((l ++ [(k, (d, ()))]).length : Int) - 1)) _) = _
  rw [hlen, pred_i64 (by omega), show (d == -9223372036854775808) = false by simpa using hd, cond_false, nthK_get hget]
theorem apply_undo {at_ : Int} {l : List OpE} {k : Ky} {d s : Int} (hl : l.length < 1000) (hd : d ≠ -9223372036854775808) (hg : rec_Good (recO 6 n k (IntKind.i64.wrap (0 - d))) = some true) (hs : rec_Size (recO 6 n k (IntKind.i64.wrap (0 - d))) = some s) :
    journal_Journal_Apply () at_ (recO 6 n k (IntKind.i64.wrap (0 - d))) ((), ()) [(n, tx n saga step comp dead (l ++ [(k, (d, ()))]) first size)] = some (0, jOf [(n, tx n saga step comp true l first (IntKind.i64.wrap (size + s)))]) := by
  have hlen : (l ++ [(k, (d, ()))]).length = l.length + 1 := by simp
  unfold journal_Journal_Apply
  rw [hg]
  refine (bind_of (getJ (by omega))).trans ?_
  refine (bind_of hs).trans ?_
  show (Option.bind ((journal_Last (tx n saga step comp dead (l ++ [(k, (d, ()))]) first (IntKind.i64.wrap (size + s)))).bind _) _) = _
  rw [last_val hl hd]
  show (Option.bind (bif !(eqE kOp ((k, (IntKind.i64.wrap (0 - d), ())) : OpE) ((k, (IntKind.i64.wrap (0 - d), ())) : OpE)) then _ else chk (decide (0 ≤ (IntKind.i64.wrap (((l ++ [(k, (d, ()))]).length : Int) - 1))) && decide ((IntKind.i64.wrap (((l ++ [(k, (d, ()))]).length : Int) - 1)) ≤ ((l ++ [(k, (d, ()))]).length : Int))) (some (Sum.inl (((), ()), (((), ()), (([(n, tx n saga step comp dead (l ++ [(k, (d, ()))]) first size)] : JnE), (tx n saga step comp true (((l ++ [(k, (d, ()))]).take (IntKind.i64.wrap (((l ++ [(k, (d, ()))]).length : Int) - 1) : Int).toNat).drop 0) first (IntKind.i64.wrap (size + s)), ()))))))) _) = _
  rw [eqOp_refl, hlen, pred_i64 (by omega), chk_true (by simp; omega), Int.toNat_natCast, List.take_left' rfl]
  show some (0, (((), ()), (putM (.int .u32) kTxn ([(n, tx n saga step comp dead (l ++ [(k, (d, ()))]) first size)] : JnE) n (tx n saga step comp true l first (IntKind.i64.wrap (size + s))), ()))) = _
  rw [put_one]; rfl
theorem apply_gone {at_ : Int} {k : Ky} {d s : Int} (hg : rec_Good (recO 7 n k d) = some true) (hs : rec_Size (recO 7 n k d) = some s) :
    journal_Journal_Apply () at_ (recO 7 n k d) ((), ()) [(n, tx n saga step comp dead [] first size)] = some (0, jOf []) := by
  unfold journal_Journal_Apply
  rw [hg]
  refine (bind_of (getJ (by simp))).trans ?_
  refine (bind_of hs).trans ?_
  show some (0, (((), ()), (delM (.int .u32) kTxn ([(n, tx n saga step comp dead [] first size)] : JnE) n, ()))) = _
  rw [del_one]; rfl
theorem apply_commit {at_ : Int} {k : Ky} {d s : Int} (h : done.length ≤ 4294967296) (hg : rec_Good (recO 4 n k d) = some true) (hs : rec_Size (recO 4 n k d) = some s) :
    journal_Journal_Apply () at_ (recO 4 n k d) ((), ()) [(n, tx n saga step comp false done first size)] = some (0, jOf []) := by
  unfold journal_Journal_Apply
  rw [hg]
  refine (bind_of (getJ h)).trans ?_
  refine (bind_of hs).trans ?_
  show some (0, (((), ()), (delM (.int .u32) kTxn ([(n, tx n saga step comp false done first size)] : JnE) n, ()))) = _
  rw [del_one]; rfl

/-! ### What it tells -/
theorem of_nil : journal_Journal_Of () 1 ((), ()) [] = some (((0, (0, (0, (false, (false, ([], (0, (0, ())))))))), (false, ())), jOf []) := by kernel_rfl
theorem all_one (h : done.length ≤ 4294967296) : journal_Journal_All () ((), ()) [(n, tx n saga step comp dead done first size)] = some ([tx n saga step comp dead done first size], jOf [(n, tx n saga step comp dead done first size)]) := by
  have h1 : jaG (.int .u32) kTxn (leOf cmp1) 1 (((), ()), (((), ()), ([(n, tx n saga step comp dead done first size)], ()))) = some (((), ((), ([n], (1, 0)))), (((), ()), ([(n, tx n saga step comp dead done first size)], ()))) := by kernel_rfl
  have ha : journal_apart (tx n saga step comp dead done first size) = some (tx n saga step comp dead done first size) := by
    show (bif Nat.ble done.length 4294967296 then some _ else none) = _
    rw [Nat.ble_eq_true_of_le h]; rfl
  have s0 : journal_Journal_All.l1 (((), ((), ([n], (1, 0)))), (((), ()), ([(n, tx n saga step comp dead done first size)], ([], ())))) = some (Sum.inl (((), ((), ([n], (1, 1)))), (((), ()), ([(n, tx n saga step comp dead done first size)], ([tx n saga step comp dead done first size], ()))))) := by
    unfold journal_Journal_All.l1
    show ((journal_apart (getM (.int .u32) kTxn ([(n, tx n saga step comp dead done first size)] : JnE) n)).bind _) = _
    rw [get_one, ha]; rfl
  have s1 : journal_Journal_All.l1 (((), ((), ([n], (1, 1)))), (((), ()), ([(n, tx n saga step comp dead done first size)], ([tx n saga step comp dead done first size], ())))) = some (Sum.inr ((), (((), ()), ([(n, tx n saga step comp dead done first size)], ([tx n saga step comp dead done first size], ()))))) := rfl
  unfold journal_Journal_All
  refine (bind_of h1).trans ?_
  exact (bind_of (iterL_mono (m := loopN) ((iterL_next s0).trans (iterL_done (n := 0) s1)) (by rw [loopN_eq]; omega))).trans rfl
theorem of_one (h : done.length ≤ 4294967296) : journal_Journal_Of () 1 ((), ()) [(n, tx n 1 step comp dead done first size)] = some ((tx n 1 step comp dead done first size, (true, ())), jOf [(n, tx n 1 step comp dead done first size)]) := by
  unfold journal_Journal_Of
  refine (bind_of (all_one h)).trans ?_
  have s0 : journal_Journal_Of.l1 ((1, ((), ([tx n 1 step comp dead done first size], (1, 0)))), (((), ()), ([(n, tx n 1 step comp dead done first size)], ((0, (0, (0, (false, (false, ((), (0, (0, ())))))))), ())))) = some (Sum.inr (Sum.inr (((), true), (((), ()), ([(n, tx n 1 step comp dead done first size)], (tx n 1 step comp dead done first size, ())))))) := rfl
  exact (bind_of (iterL_mono (m := loopN) (iterL_done (n := 0) s0) (by rw [loopN_eq]; omega))).trans rfl
theorem apply_begin {at_ : Int} (hg : rec_Good (recBg n step comp) = some true) (hs : rec_Size (recBg n step comp) = some 17) :
    journal_Journal_Apply () at_ (recBg n step comp) ((), ()) [] = some (0, jOf [(n, tx n 1 step comp false [] at_ 17)]) := by
  have hget : journal_Journal_Get () n ((), ()) [] = some (((0, (0, (0, (false, (false, ((), (0, (0, ())))))))), (false, ())), (((), ()), ([], ([], ())))) := by kernel_rfl
  have hb : journal_Journal_begin () at_ (recBg n step comp) ((), ()) [] = some (0, jOf [(n, tx n 1 step comp false [] at_ 17)]) := by
    unfold journal_Journal_begin
    refine (bind_of hget).trans ?_
    refine (bind_of of_nil).trans ?_
    exact (bind_of hs).trans rfl
  unfold journal_Journal_Apply
  rw [hg]
  exact (bind_of hb).trans rfl
end
end Go.Proofs.Pure

/- A course: what it does next, and what a record makes of it. -/
namespace Go.Proofs.Pure
open Go.Proofs.D Go.Proofs.F

/-! ### Its steps -/
structure Pg (p : Prg) : Prop where
  hf : Few p
  hg : goodP 4 4 p = true
theorem stepsV_fine {p : Prg} (hf : Few p) : ∀ s ∈ stepsV p, FineS s := fun s hs => by
  unfold stepsV at hs
  cases hg : goodP 4 4 p with
  | false => rw [hg] at hs; cases hs
  | true => rw [hg] at hs; exact stepsP_fine hf hg s hs
theorem FineS.parts {s : Stp} (h : FineS s) : s.2.2.1.length ≤ 3 ∧ (1 ≤ s.1 ∧ s.1 ≤ 8) ∧ (0 ≤ s.2.1 ∧ s.2.1 < 4) ∧ ∀ x ∈ s.2.2.1, (0 ≤ x.1 ∧ x.1 < 4) ∧ 1 ≤ x.2.1 ∧ x.2.1 < 9223372036854775808 := by
  obtain ⟨hw, hg⟩ := h
  have hb := wf_u8 hw.2.1
  unfold goodS at hg
  simp only [Bool.and_eq_true, decide_eq_true_eq] at hg
  obtain ⟨⟨⟨⟨⟨⟨g1, g2⟩, g3⟩, g4⟩, g5⟩, g6⟩, g7⟩ := hg
  refine ⟨g5, ⟨g2, g3⟩, ⟨hb.1, ?_⟩, fun x hx => ?_⟩
  · by_cases h7 : 7 ≤ s.1
    · rw [dec_t h7, cond_true] at g7
      have : s.2.1 = 0 := by simpa using g7
      omega
    · rw [dec_f h7, cond_false] at g7
      simpa using g7
  · obtain ⟨i, hi⟩ := List.mem_iff_getElem?.1 hx
    have hil := get_lt hi
    have := (allFrom_iff.1 g6) i (by omega) (by omega)
    have hat : at0 s.2.2.1 i = x := by unfold at0; rw [List.getD_eq_getElem?_getD, hi]; rfl
    unfold goodR at this
    rw [hat] at this
    simp only [Bool.and_eq_true, decide_eq_true_eq] at this
    have hx2 := hw.2.2.1.2 x hx
    exact ⟨⟨(wf_u8 hx2.1).1, this.1.1⟩, this.1.2, (wf_i64 hx2.2.1).2⟩
theorem okKey {k s w d : Int} (hk : ((k = 1 ∨ k = 2) ∧ 0 ≤ w ∧ w < 4) ∨ ((k = 3 ∨ k = 4) ∧ w = 0)) (hs : 0 ≤ s ∧ s < 4) (hd : d ≠ 0) (h1 : -9223372036854775808 < d) (h2 : d < 9223372036854775808) : OkO (k, (s, (w, ()))) d := by
  refine ⟨?_, hd, by omega, by omega, h2⟩
  rw [keyG_val _ (by simp only; omega) (by simp only; omega)]
  unfold keyC
  simp only
  rw [dec_t hs.2]
  rcases hk with ⟨h | h, h3, h4⟩ | ⟨h | h, h3⟩
  · subst h; rw [dec_t h4]; rfl
  · subst h; rw [dec_t h4]; rfl
  · subst h; subst h3; rfl
  · subst h; subst h3; rfl
theorem opsOf_ok {s : Stp} (h : FineS s) : (∀ o ∈ opsOf s, OkO o.1 o.2.1) ∧ (opsOf s).length ≤ 6 := by
  obtain ⟨h1, h2, h3, h4⟩ := h.parts
  refine ⟨fun o ho => ?_, by have := opsOf_len s; omega⟩
  unfold opsOf at ho
  obtain ⟨x, hx, ho⟩ := List.mem_flatMap.1 ho
  obtain ⟨hx1, hx2, hx3⟩ := h4 x hx
  unfold opsItem at ho
  rw [dec_t (show x.2.1 ≥ 1 by omega), cond_true] at ho
  have hn : negI x.2.1 = - x.2.1 := by unfold negI; rw [wrap_i64 (by omega) (by omega)]; omega
  unfold opsOne addO at ho
  rw [hn] at ho
  have ht : s.1 = 1 ∨ s.1 = 2 ∨ s.1 = 3 ∨ s.1 = 4 ∨ s.1 = 5 ∨ s.1 = 6 ∨ s.1 = 7 ∨ s.1 = 8 := by omega
  have key : ∀ k w d : Int, (((k = 1 ∨ k = 2) ∧ 0 ≤ w ∧ w < 4) ∨ ((k = 3 ∨ k = 4) ∧ w = 0)) → (d = x.2.1 ∨ d = - x.2.1) → OkO (k, (x.1, (w, ()))) d := fun k w d hk hd => okKey hk hx1 (by omega) (by omega) (by omega)
  have k1 := fun d hd => key 1 s.2.1 d (.inl ⟨.inl rfl, h3.1, h3.2⟩) hd
  have k2 := fun d hd => key 2 s.2.1 d (.inl ⟨.inr rfl, h3.1, h3.2⟩) hd
  have k3 := fun d hd => key 3 0 d (.inr ⟨.inl rfl, rfl⟩) hd
  have k4 := fun d hd => key 4 0 d (.inr ⟨.inr rfl, rfl⟩) hd
  have pick : ∀ {a b : OpE}, o = a ∨ o = b → OkO a.1 a.2.1 → OkO b.1 b.2.1 → OkO o.1 o.2.1 := fun {a b} h ha hb => by
    rcases h with h | h <;> rw [h]
    · exact ha
    · exact hb
  rcases ht with q | q | q | q | q | q | q | q <;> rw [q] at ho <;> simp at ho
  · exact pick ho (k1 _ (.inr rfl)) (k2 _ (.inl rfl))
  · exact pick ho (k2 _ (.inr rfl)) (k1 _ (.inl rfl))
  · exact pick ho (k2 _ (.inr rfl)) (k3 _ (.inl rfl))
  · exact pick ho (k3 _ (.inr rfl)) (k1 _ (.inl rfl))
  · rw [ho]; exact k1 _ (.inl rfl)
  · rw [ho]; exact k1 _ (.inr rfl)
  · rw [ho]; exact k4 _ (.inl rfl)
  · rw [ho]; exact k4 _ (.inr rfl)

/-! ### A course -/
def cr (p : Prg) (back : Bool) (step tries txn : Int) : Crs := (1, (p, (back, (step, (tries, (txn, ()))))))
def txZ : TxE := (0, (0, (0, (false, (false, ([], (0, (0, ()))))))))
section
variable {p : Prg} {back : Bool} {step tries txn retry id : Int}
theorem good_cr (P : Pg p) (h1 : 0 ≤ step) (h2 : step ≤ ((stepsV p).length : Int)) (h3 : 0 ≤ tries) : course_Good (cr p back step tries txn) = some true := by
  rw [goodC_val _ P.hf]
  unfold goodC cr
  simp only
  rw [P.hg, dec_t h1, dec_t h2, dec_t h3]; rfl
theorem steps_cr (P : Pg p) : course_steps (cr p back step tries txn) = some ((stepsV p).length : Int) := csteps_val _ P.hf
theorem ops_fwd (P : Pg p) {i : Nat} {s : Stp} (hs : (stepsV p)[i]? = some s) (h3 : 0 ≤ tries) : course_Ops (cr p false i tries txn) = some (opsOf s) := by
  have hi := get_lt hs
  have hl := (stepsV_fine P.hf s (get_mem hs)).parts.1
  unfold course_Ops
  refine (bind_of (show prog_Steps (cr p false i tries txn).2.1 = _ from steps_val p P.hf)).trans ?_
  refine (bind_of (good_cr P (by omega) (by omega) h3)).trans ?_
  show (bif decide ((i : Int) < ((stepsV p).length : Int)) then nthK (stepsV p) (i : Int) _ else _) = _
  rw [dec_t (by omega), cond_true, nthK_get hs, ops_val s (by omega)]; rfl
theorem ops_back (P : Pg p) {i : Nat} {s : Stp} (hs : (stepsV p)[i]? = some s) (h3 : 0 ≤ tries) : course_Ops (cr p true ((i + 1 : Nat) : Int) tries txn) = some ((opsOf s).reverse.map negE) := by
  have hi := get_lt hs
  have hF := stepsV_fine P.hf s (get_mem hs)
  have hl := hF.parts.1
  have hle := stepsV_le P.hf
  unfold course_Ops
  refine (bind_of (show prog_Steps (cr p true ((i + 1 : Nat) : Int) tries txn).2.1 = _ from steps_val p P.hf)).trans ?_
  refine (bind_of (good_cr P (by omega) (by omega) h3)).trans ?_
  show (bif decide (((i + 1 : Nat) : Int) > 0) then nthK (stepsV p) (IntKind.i64.wrap (((i + 1 : Nat) : Int) - 1)) _ else _) = _
  rw [dec_t (by omega), cond_true, pred_i64 (by omega), nthK_get hs, undo_val s hF.1.2.2.1.2 (by omega)]; rfl

theorem next_dead (P : Pg p) {n saga st first size : Int} {comp : Bool} {done : List OpE} (h1 : 0 ≤ step) (h2 : step ≤ ((stepsV p).length : Int)) (h3 : 0 ≤ tries) (hn : txn ≠ 0) {r : Rc} (hu : course_Undo (tx n saga st comp true done first size) = some r) :
    course_Next (cr p back step tries txn) (tx n saga st comp true done first size) retry id = some r := by
  have hg := good_cr (back := back) (txn := txn) P h1 h2 h3
  have h0 : (txn != 0) = true := by simpa using hn
  unfold cr at hg
  unfold tx at hu
  simp only [course_Next, course_Next.s1, cr, tx, hg, Option.bind_some, Bool.not_true, cond_false, cond_true, h0, hu]
theorem next_add (P : Pg p) {n saga st first size : Int} {comp : Bool} {done l : List OpE} {o : OpE} (h1 : 0 ≤ step) (h2 : step ≤ ((stepsV p).length : Int)) (h3 : 0 ≤ tries) (hn : txn ≠ 0) (hl : course_Ops (cr p back step tries txn) = some l) (ho : l[done.length]? = some o) :
    course_Next (cr p back step tries txn) (tx n saga st comp false done first size) retry id = some (recO 3 n o.1 o.2.1) := by
  have hg := good_cr (back := back) (txn := txn) P h1 h2 h3
  have h0 : (txn != 0) = true := by simpa using hn
  have hlt := get_lt ho
  unfold cr at hg hl
  simp only [course_Next, course_Next.s1, cr, tx, hg, Option.bind_some, Bool.not_true, cond_false, cond_true, h0, hl, dec_t (show (done.length : Int) < (l.length : Int) by omega)]
  rw [nthK_get ho]; rfl
theorem next_commit (P : Pg p) {n saga st first size : Int} {comp : Bool} {done l : List OpE} (h1 : 0 ≤ step) (h2 : step ≤ ((stepsV p).length : Int)) (h3 : 0 ≤ tries) (hn : txn ≠ 0) (hl : course_Ops (cr p back step tries txn) = some l) (ho : l.length ≤ done.length) :
    course_Next (cr p back step tries txn) (tx n saga st comp false done first size) retry id = some (recO 4 n kyZ 0) := by
  have hg := good_cr (back := back) (txn := txn) P h1 h2 h3
  have h0 : (txn != 0) = true := by simpa using hn
  unfold cr at hg hl
  simp only [course_Next, course_Next.s1, cr, tx, hg, Option.bind_some, Bool.not_true, cond_false, cond_true, h0, hl, dec_f (show ¬ (done.length : Int) < (l.length : Int) by omega)]
  rfl
theorem next_doneBack (P : Pg p) {t : TxE} (h3 : 0 ≤ tries) : course_Next (cr p true 0 tries 0) t retry id = some (recDn 2) := by
  have hg := good_cr (back := true) (txn := 0) P (step := 0) (by omega) (by omega) h3
  unfold cr at hg
  simp only [course_Next, course_Next.s1, cr, hg, Option.bind_some, Bool.not_true, cond_false, cond_true, bne_self_eq_false, beq_self_eq_true]
  rfl
theorem next_beginBack (P : Pg p) {t : TxE} {i : Nat} (hi : i < (stepsV p).length) (h3 : 0 ≤ tries) : course_Next (cr p true ((i + 1 : Nat) : Int) tries 0) t retry id = some (recBg id i true) := by
  have hle := stepsV_le P.hf
  have hg := good_cr (back := true) (txn := 0) P (step := ((i + 1 : Nat) : Int)) (by omega) (by omega) h3
  have h0 : ((((i + 1 : Nat) : Int)) == 0) = false := by simp; omega
  unfold cr at hg
  simp only [course_Next, course_Next.s1, cr, hg, Option.bind_some, Bool.not_true, cond_false, cond_true, bne_self_eq_false, h0]
  rw [pred_i64 (by omega), wrap_u8 (by omega) (by omega)]; rfl
theorem next_back (P : Pg p) {t : TxE} (h1 : 0 ≤ step) (h2 : step ≤ ((stepsV p).length : Int)) (h3 : 0 ≤ tries) (ht : tries > retry) : course_Next (cr p false step tries 0) t retry id = some recBk := by
  have hg := good_cr (back := false) (txn := 0) P h1 h2 h3
  unfold cr at hg
  simp only [course_Next, course_Next.s1, cr, hg, Option.bind_some, Bool.not_true, cond_false, cond_true, bne_self_eq_false, dec_t ht]
  rfl
theorem next_done (P : Pg p) {t : TxE} (h3 : 0 ≤ tries) (ht : tries ≤ retry) : course_Next (cr p false ((stepsV p).length : Int) tries 0) t retry id = some (recDn 1) := by
  have hg := good_cr (back := false) (txn := 0) P (step := ((stepsV p).length : Int)) (by omega) (by omega) h3
  have hs := steps_cr (back := false) (step := ((stepsV p).length : Int)) (tries := tries) (txn := 0) P
  unfold cr at hg hs
  simp only [course_Next, course_Next.s1, cr, hg, hs, Option.bind_some, Bool.not_true, cond_false, cond_true, bne_self_eq_false, beq_self_eq_true, dec_f (show ¬ tries > retry by omega)]
  rfl
theorem next_begin (P : Pg p) {t : TxE} {i : Nat} (hi : i < (stepsV p).length) (h3 : 0 ≤ tries) (ht : tries ≤ retry) : course_Next (cr p false (i : Int) tries 0) t retry id = some (recBg id i false) := by
  have hle := stepsV_le P.hf
  have hg := good_cr (back := false) (txn := 0) P (step := (i : Int)) (by omega) (by omega) h3
  have hs := steps_cr (back := false) (step := (i : Int)) (tries := tries) (txn := 0) P
  have h0 : ((i : Int) == ((stepsV p).length : Int)) = false := by simp; omega
  unfold cr at hg hs
  simp only [course_Next, course_Next.s1, cr, hg, hs, Option.bind_some, Bool.not_true, cond_false, cond_true, bne_self_eq_false, h0, dec_f (show ¬ tries > retry by omega)]
  rw [wrap_u8 (by omega) (by omega)]; rfl
end
end Go.Proofs.Pure

/- A course behind a record. -/
namespace Go.Proofs.Pure
open Go.Proofs.D Go.Proofs.F

section
variable {p : Prg} {back : Bool} {step tries txn n : Int}
theorem b1 (n : Int) : ((n : Int) == n) = true := by simp
theorem capply_add (P : Pg p) {k : Ky} {d : Int} (h1 : 0 ≤ step) (h2 : step ≤ ((stepsV p).length : Int)) (h3 : 0 ≤ tries) (hn : n ≠ 0) (hr : rec_Good (recO 3 n k d) = some true) :
    course_Apply (cr p back step tries n) (recO 3 n k d) = some (cr p back step tries n, (0, ())) := by
  have hg := good_cr (back := back) (txn := n) P h1 h2 h3
  have hc := copyP_val p P.hf
  have h0 : ((n : Int) == 0) = false := by simpa using hn
  unfold cr at hg
  unfold recO at hr
  simp only [course_Apply, cr, recO, hc, hg, hr, Option.bind_some, Bool.not_true, cond_false, cond_true, h0, b1, show ((3 : Int) == 1) = false from rfl, show ((3 : Int) == 2) = false from rfl, show ((3 : Int) == 3) = true from rfl]
theorem capply_undo (P : Pg p) {k : Ky} {d : Int} (h1 : 0 ≤ step) (h2 : step ≤ ((stepsV p).length : Int)) (h3 : 0 ≤ tries) (hn : n ≠ 0) (hr : rec_Good (recO 6 n k d) = some true) :
    course_Apply (cr p back step tries n) (recO 6 n k d) = some (cr p back step tries n, (0, ())) := by
  have hg := good_cr (back := back) (txn := n) P h1 h2 h3
  have hc := copyP_val p P.hf
  have h0 : ((n : Int) == 0) = false := by simpa using hn
  unfold cr at hg
  unfold recO at hr
  simp only [course_Apply, cr, recO, hc, hg, hr, Option.bind_some, Bool.not_true, cond_false, cond_true, h0, b1, show ((6 : Int) == 1) = false from rfl, show ((6 : Int) == 2) = false from rfl, show ((6 : Int) == 3) = false from rfl, show ((6 : Int) == 6) = true from rfl]
theorem capply_begin (P : Pg p) {i : Nat} (hi : i < (stepsV p).length) (h3 : 0 ≤ tries) (hr : rec_Good (recBg n i false) = some true) :
    course_Apply (cr p false (i : Int) tries 0) (recBg n i false) = some (cr p false (i : Int) tries n, (0, ())) := by
  have hle := stepsV_le P.hf
  have hg := good_cr (back := false) (txn := 0) P (step := (i : Int)) (by omega) (by omega) h3
  have hg2 := good_cr (back := false) (txn := n) P (step := (i : Int)) (by omega) (by omega) h3
  have hs := steps_cr (back := false) (step := (i : Int)) (tries := tries) (txn := 0) P
  have hc := copyP_val p P.hf
  have hb : course_begins (cr p false (i : Int) tries 0) (recBg n i false) = some true := by
    unfold course_begins
    show (bif (IntKind.i64.wrap (i : Int) == (i : Int)) then (course_steps (cr p false (i : Int) tries 0)).bind _ else _) = _
    rw [wrap_i64 (by omega) (by omega), b1, hs]
    show some (decide ((i : Int) < ((stepsV p).length : Int))) = _
    rw [dec_t (by omega)]
  unfold cr at hg hg2 hb
  unfold recBg at hr hb
  simp only [course_Apply, cr, recBg, hc, hg, hg2, hr, hb, Option.bind_some, Bool.not_true, cond_false, cond_true, b1, show ((2 : Int) == 1) = false from rfl, show ((2 : Int) == 2) = true from rfl, show ((0 : Int) == 0) = true from rfl, show ((1 : Int) == 1) = true from rfl]
theorem capply_beginBack (P : Pg p) {i : Nat} (hi : i < (stepsV p).length) (h3 : 0 ≤ tries) (hr : rec_Good (recBg n i true) = some true) :
    course_Apply (cr p true ((i + 1 : Nat) : Int) tries 0) (recBg n i true) = some (cr p true ((i + 1 : Nat) : Int) tries n, (0, ())) := by
  have hle := stepsV_le P.hf
  have hg := good_cr (back := true) (txn := 0) P (step := ((i + 1 : Nat) : Int)) (by omega) (by omega) h3
  have hg2 := good_cr (back := true) (txn := n) P (step := ((i + 1 : Nat) : Int)) (by omega) (by omega) h3
  have hc := copyP_val p P.hf
  have hb : course_begins (cr p true ((i + 1 : Nat) : Int) tries 0) (recBg n i true) = some true := by
    unfold course_begins
    show some (IntKind.i64.wrap (IntKind.i64.wrap (i : Int) + 1) == ((i + 1 : Nat) : Int)) = _
    rw [wrap_i64 (n := (i : Int)) (by omega) (by omega), succ_i64 (by omega), b1]
  unfold cr at hg hg2 hb
  unfold recBg at hr hb
  simp only [course_Apply, cr, recBg, hc, hg, hg2, hr, hb, Option.bind_some, Bool.not_true, cond_false, cond_true, b1, show ((2 : Int) == 1) = false from rfl, show ((2 : Int) == 2) = true from rfl, show ((0 : Int) == 0) = true from rfl, show ((1 : Int) == 1) = true from rfl]
theorem capply_commit (P : Pg p) {i : Nat} (hi : i < (stepsV p).length) (h3 : 0 ≤ tries) (hn : n ≠ 0) (hr : rec_Good (recO 4 n kyZ 0) = some true) :
    course_Apply (cr p false (i : Int) tries n) (recO 4 n kyZ 0) = some (cr p false ((i + 1 : Nat) : Int) tries 0, (0, ())) := by
  have hle := stepsV_le P.hf
  have hg := good_cr (back := false) (txn := n) P (step := (i : Int)) (by omega) (by omega) h3
  have hg2 := good_cr (back := false) (txn := 0) P (step := ((i + 1 : Nat) : Int)) (by omega) (by omega) h3
  have hc := copyP_val p P.hf
  have h0 : ((n : Int) == 0) = false := by simpa using hn
  unfold cr at hg hg2
  unfold recO at hr
  simp only [course_Apply, cr, recO, hc, hg, hr, Option.bind_some, Bool.not_true, cond_false, cond_true, h0, b1, show ((4 : Int) == 1) = false from rfl, show ((4 : Int) == 2) = false from rfl, show ((4 : Int) == 3) = false from rfl, show ((4 : Int) == 6) = false from rfl, show ((4 : Int) == 4) = true from rfl, succ_i64 (show i < 9223372036854775807 by omega), hg2]
theorem capply_commitBack (P : Pg p) {i : Nat} (hi : i < (stepsV p).length) (h3 : 0 ≤ tries) (hn : n ≠ 0) (hr : rec_Good (recO 4 n kyZ 0) = some true) :
    course_Apply (cr p true ((i + 1 : Nat) : Int) tries n) (recO 4 n kyZ 0) = some (cr p true (i : Int) tries 0, (0, ())) := by
  have hle := stepsV_le P.hf
  have hg := good_cr (back := true) (txn := n) P (step := ((i + 1 : Nat) : Int)) (by omega) (by omega) h3
  have hg2 := good_cr (back := true) (txn := 0) P (step := (i : Int)) (by omega) (by omega) h3
  have hc := copyP_val p P.hf
  have h0 : ((n : Int) == 0) = false := by simpa using hn
  have hw : IntKind.i64.wrap (IntKind.i64.wrap (((i + 1 : Nat) : Int) + 1) - 2) = (i : Int) := by
    rw [wrap_i64 (n := ((i + 1 : Nat) : Int) + 1) (by omega) (by omega), wrap_i64 (by omega) (by omega)]; omega
  unfold cr at hg hg2
  unfold recO at hr
  simp only [course_Apply, cr, recO, hc, hg, hr, Option.bind_some, Bool.not_true, cond_false, cond_true, h0, b1, show ((4 : Int) == 1) = false from rfl, show ((4 : Int) == 2) = false from rfl, show ((4 : Int) == 3) = false from rfl, show ((4 : Int) == 6) = false from rfl, show ((4 : Int) == 4) = true from rfl, hw, hg2]
theorem capply_abort (P : Pg p) (h1 : 0 ≤ step) (h2 : step ≤ ((stepsV p).length : Int)) (h3 : 0 ≤ tries) (ht : tries < 1000) (hn : n ≠ 0) (hr : rec_Good (recO 5 n kyZ 0) = some true) :
    course_Apply (cr p false step tries n) (recO 5 n kyZ 0) = some (cr p false step (tries + 1) n, (0, ())) := by
  have hg := good_cr (back := false) (txn := n) P h1 h2 h3
  have hg2 := good_cr (back := false) (txn := n) (tries := tries + 1) P h1 h2 (by omega)
  have hc := copyP_val p P.hf
  have h0 : ((n : Int) == 0) = false := by simpa using hn
  have hw : IntKind.i64.wrap (tries + 1) = tries + 1 := wrap_i64 (by omega) (by omega)
  unfold cr at hg hg2
  unfold recO at hr
  simp only [course_Apply, cr, recO, hc, hg, hr, Option.bind_some, Bool.not_true, Bool.not_false, cond_false, cond_true, h0, b1, show ((5 : Int) == 1) = false from rfl, show ((5 : Int) == 2) = false from rfl, show ((5 : Int) == 3) = false from rfl, show ((5 : Int) == 6) = false from rfl, show ((5 : Int) == 4) = false from rfl, show ((5 : Int) == 5) = true from rfl, hw, dec_t (show tries + 1 > tries by omega), hg2]
theorem capply_gone (P : Pg p) (h1 : 0 ≤ step) (h2 : step ≤ ((stepsV p).length : Int)) (h3 : 0 ≤ tries) (hn : n ≠ 0) (hr : rec_Good (recO 7 n kyZ 0) = some true) :
    course_Apply (cr p back step tries n) (recO 7 n kyZ 0) = some (cr p back step tries 0, (0, ())) := by
  have hg := good_cr (back := back) (txn := n) P h1 h2 h3
  have hg2 := good_cr (back := back) (txn := 0) P h1 h2 h3
  have hc := copyP_val p P.hf
  have h0 : ((n : Int) == 0) = false := by simpa using hn
  unfold cr at hg hg2
  unfold recO at hr
  simp only [course_Apply, cr, recO, hc, hg, hr, Option.bind_some, Bool.not_true, cond_false, cond_true, h0, b1, show ((7 : Int) == 1) = false from rfl, show ((7 : Int) == 2) = false from rfl, show ((7 : Int) == 3) = false from rfl, show ((7 : Int) == 6) = false from rfl, show ((7 : Int) == 4) = false from rfl, show ((7 : Int) == 5) = false from rfl, show ((7 : Int) == 7) = true from rfl, hg2]
theorem capply_back (P : Pg p) (h1 : 0 ≤ step) (h2 : step ≤ ((stepsV p).length : Int)) (h3 : 0 ≤ tries) :
    course_Apply (cr p false step tries 0) recBk = some (cr p true step tries 0, (0, ())) := by
  have hg := good_cr (back := false) (txn := 0) P h1 h2 h3
  have hg2 := good_cr (back := true) (txn := 0) P h1 h2 h3
  have hc := copyP_val p P.hf
  have hr := goodBk
  unfold cr at hg hg2
  unfold recBk at hr
  simp only [course_Apply, cr, recBk, hc, hg, hr, Option.bind_some, Bool.not_true, Bool.not_false, cond_false, cond_true, b1, show ((8 : Int) == 1) = false from rfl, show ((8 : Int) == 2) = false from rfl, show ((8 : Int) == 3) = false from rfl, show ((8 : Int) == 6) = false from rfl, show ((8 : Int) == 4) = false from rfl, show ((8 : Int) == 5) = false from rfl, show ((8 : Int) == 7) = false from rfl, show ((8 : Int) == 8) = true from rfl, hg2]
theorem capply_done (P : Pg p) (h3 : 0 ≤ tries) :
    course_Apply (cr p false ((stepsV p).length : Int) tries 0) (recDn 1) = some (cr p false ((stepsV p).length : Int) tries 0, (0, ())) := by
  have hg := good_cr (back := false) (txn := 0) P (step := ((stepsV p).length : Int)) (by omega) (by omega) h3
  have hs := steps_cr (back := false) (step := ((stepsV p).length : Int)) (tries := tries) (txn := 0) P
  have hc := copyP_val p P.hf
  have hr := goodDn1
  have ho : course_over (cr p false ((stepsV p).length : Int) tries 0) 1 = some true := by
    unfold course_over
    refine (bind_of hs).trans ?_
    show some (((stepsV p).length : Int) == ((stepsV p).length : Int)) = _
    rw [b1]
  unfold cr at hg ho
  unfold recDn at hr
  simp only [course_Apply, cr, recDn, hc, hg, hr, ho, Option.bind_some, Bool.not_true, Bool.not_false, cond_false, cond_true, b1, show ((9 : Int) == 1) = false from rfl, show ((9 : Int) == 2) = false from rfl, show ((9 : Int) == 3) = false from rfl, show ((9 : Int) == 6) = false from rfl, show ((9 : Int) == 4) = false from rfl, show ((9 : Int) == 5) = false from rfl, show ((9 : Int) == 7) = false from rfl, show ((9 : Int) == 8) = false from rfl, show ((9 : Int) == 9) = true from rfl]
theorem capply_doneBack (P : Pg p) (h3 : 0 ≤ tries) :
    course_Apply (cr p true 0 tries 0) (recDn 2) = some (cr p true 0 tries 0, (0, ())) := by
  have hg := good_cr (back := true) (txn := 0) P (step := 0) (by omega) (by omega) h3
  have hc := copyP_val p P.hf
  have hr := goodDn2
  have ho : course_over (cr p true 0 tries 0) 2 = some true := rfl
  unfold cr at hg ho
  unfold recDn at hr
  simp only [course_Apply, cr, recDn, hc, hg, hr, ho, Option.bind_some, Bool.not_true, Bool.not_false, cond_false, cond_true, b1, show ((9 : Int) == 1) = false from rfl, show ((9 : Int) == 2) = false from rfl, show ((9 : Int) == 3) = false from rfl, show ((9 : Int) == 6) = false from rfl, show ((9 : Int) == 4) = false from rfl, show ((9 : Int) == 5) = false from rfl, show ((9 : Int) == 7) = false from rfl, show ((9 : Int) == 8) = false from rfl, show ((9 : Int) == 9) = true from rfl]
theorem undo_one {saga st first size : Int} {comp dead : Bool} {l : List OpE} {k : Ky} {d : Int} (hl : l.length < 1000) (hd : d ≠ -9223372036854775808) : course_Undo (tx n saga st comp dead (l ++ [(k, (d, ()))]) first size) = some (recO 6 n k (IntKind.i64.wrap (0 - d))) := by
  unfold course_Undo
  exact (bind_of (last_val hl hd)).trans rfl
theorem undo_none {saga st first size : Int} {comp dead : Bool} : course_Undo (tx n saga st comp dead [] first size) = some (recO 7 n kyZ 0) := rfl
end
end Go.Proofs.Pure

/- The run of a course: its states, and what each record makes of them. -/
namespace Go.Proofs.Pure
open Go.Proofs.D Go.Proofs.F

def nS (p : Prg) : Nat := (stepsV p).length
def sA (p : Prg) (i : Nat) : Stp := (stepsV p).getD i (0, (0, ([], ())))
def mA (p : Prg) (i : Nat) : Nat := (opsOf (sA p i)).length
def opsA (p : Prg) (b : Bool) (i : Nat) : List OpE := bif b then (opsOf (sA p i)).reverse.map negE else opsOf (sA p i)

inductive AS where
  | idle (b : Bool) (i tr : Nat) | opn (b : Bool) (i tr : Nat) (n : Int) (d : Nat) | dead (i tr : Nat) (n : Int) (m d : Nat)

def cA (p : Prg) : AS → Crs
  | .idle b i tr => cr p b i tr 0 | .opn b i tr n _ => cr p b ((bif b then i + 1 else i : Nat) : Int) tr n | .dead i tr n _ _ => cr p false i tr n
def tA (p : Prg) : AS → TxE
  | .idle _ _ _ => txZ | .opn b i tr n d => tx n 1 i b false ((opsA p b i).take d) 0 (17 + 22 * (d : Int)) | .dead i tr n m d => tx n 1 i false true ((opsA p false i).take d) 0 (17 + 22 * (m : Int) + 11 + 22 * ((m : Int) - (d : Int)))
def okA : AS → Bool | .idle _ _ _ => false | _ => true
def jA (p : Prg) : AS → JnE
  | .idle _ _ _ => [] | .opn b i tr n d => [(n, tA p (.opn b i tr n d))] | .dead i tr n m d => [(n, tA p (.dead i tr n m d))]

inductive Tr (p : Prg) (retry : Nat) (id : Int) (kl : Bool) : AS → Rc → AS → Bool → Prop
  | back {i tr : Nat} : i ≤ nS p → tr = retry + 1 → Tr p retry id kl (.idle false i tr) recBk (.idle true i tr) false
  | done {tr : Nat} : tr ≤ retry → Tr p retry id kl (.idle false (nS p) tr) (recDn 1) (.idle false (nS p) tr) true
  | bgn {i tr : Nat} : i < nS p → tr ≤ retry → Tr p retry id kl (.idle false i tr) (recBg id i false) (.opn false i tr id 0) false
  | doneB {tr : Nat} : Tr p retry id kl (.idle true 0 tr) (recDn 2) (.idle true 0 tr) true
  | bgnB {i tr : Nat} : i < nS p → Tr p retry id kl (.idle true (i + 1) tr) (recBg id i true) (.opn true i tr id 0) false
  | abort {i tr d : Nat} {n : Int} : kl = true → i < nS p → tr ≤ retry → d ≤ mA p i → Tr p retry id kl (.opn false i tr n d) (recO 5 n kyZ 0) (.dead i (tr + 1) n d d) false
  | add {b : Bool} {i tr d : Nat} {n : Int} {o : OpE} : (kl = false ∨ b = true) → i < nS p → (opsA p b i)[d]? = some o → Tr p retry id kl (.opn b i tr n d) (recO 3 n o.1 o.2.1) (.opn b i tr n (d + 1)) false
  | commit {b : Bool} {i tr d : Nat} {n : Int} : (kl = false ∨ b = true) → i < nS p → d = mA p i → Tr p retry id kl (.opn b i tr n d) (recO 4 n kyZ 0) (.idle b (bif b then i else i + 1) tr) false
  | undo {i tr m d : Nat} {n : Int} {o : OpE} : i < nS p → (opsA p false i)[d]? = some o → Tr p retry id kl (.dead i tr n m (d + 1)) (recO 6 n o.1 (IntKind.i64.wrap (0 - o.2.1))) (.dead i tr n m d) false
  | gone {i tr m : Nat} {n : Int} : Tr p retry id kl (.dead i tr n m 0) (recO 7 n kyZ 0) (.idle false i tr) false

def Wf (p : Prg) (retry : Nat) : AS → Prop
  | .idle b i tr => i ≤ nS p ∧ tr ≤ retry + 1 ∧ (b = true → tr = retry + 1)
  | .opn b i tr n d => i < nS p ∧ d ≤ mA p i ∧ (0 < n ∧ n < 1000) ∧ tr ≤ retry + 1 ∧ (b = true → tr = retry + 1) ∧ (b = false → tr ≤ retry)
  | .dead i tr n m d => i < nS p ∧ (d ≤ m ∧ m ≤ mA p i) ∧ (0 < n ∧ n < 1000) ∧ 1 ≤ tr ∧ tr ≤ retry + 1

section
variable {p : Prg} {retry : Nat} {id : Int} {kl e : Bool} {A A' : AS} {r : Rc}
theorem sA_get {i : Nat} (h : i < nS p) : (stepsV p)[i]? = some (sA p i) := by
  unfold sA
  rw [List.getD_eq_getElem?_getD, List.getElem?_eq_getElem h]; rfl
theorem sA_fine (P : Pg p) {i : Nat} (h : i < nS p) : FineS (sA p i) := stepsV_fine P.hf _ (get_mem (sA_get h))
theorem opsA_len (b : Bool) (i : Nat) : (opsA p b i).length = mA p i := by unfold opsA mA; cases b <;> simp
theorem mA_le (P : Pg p) {i : Nat} (h : i < nS p) : mA p i ≤ 6 := (opsOf_ok (sA_fine P h)).2
theorem opsA_ok (P : Pg p) {b : Bool} {i : Nat} (h : i < nS p) : ∀ o ∈ opsA p b i, OkO o.1 o.2.1 := fun o ho => by
  have hk := (opsOf_ok (sA_fine P h)).1
  unfold opsA at ho
  cases b with
  | false => exact hk o ho
  | true =>
    obtain ⟨x, hx, rfl⟩ := List.mem_map.1 ho
    have := (hk x (List.mem_reverse.1 hx)).neg
    show OkO x.1 (negI x.2.1)
    unfold negI
    rw [this.1]; exact this.2
theorem opsA_ops (P : Pg p) {b : Bool} {i : Nat} (h : i < nS p) {tries txn : Int} (h3 : 0 ≤ tries) : course_Ops (cr p b ((bif b then i + 1 else i : Nat) : Int) tries txn) = some (opsA p b i) := by
  cases b with
  | false => exact ops_fwd P (sA_get h) h3
  | true => exact ops_back P (sA_get h) h3
theorem nS_le (P : Pg p) : nS p ≤ 5 := stepsV_le P.hf

theorem tr_exists (hW : Wf p retry A) : ∃ r A' e, Tr p retry id kl A r A' e := by
  cases A with
  | idle b i tr =>
    obtain ⟨h1, h2, h3⟩ := hW
    cases b with
    | false =>
      by_cases ht : tr = retry + 1
      · exact ⟨_, _, _, .back h1 ht⟩
      · by_cases hi : i = nS p
        · subst hi; exact ⟨_, _, _, .done (by omega)⟩
        · exact ⟨_, _, _, .bgn (by omega) (by omega)⟩
    | true =>
      cases i with
      | zero => exact ⟨_, _, _, .doneB⟩
      | succ i => exact ⟨_, _, _, .bgnB (by omega)⟩
  | opn b i tr n d =>
    obtain ⟨h1, h2, h3, h4, h5, h6⟩ := hW
    have go : (kl = false ∨ b = true) → ∃ r A' e, Tr p retry id kl (.opn b i tr n d) r A' e := fun hk => by
      by_cases hd : d = mA p i
      · exact ⟨_, _, _, .commit hk h1 hd⟩
      · exact ⟨_, _, _, .add hk h1 (List.getElem?_eq_getElem (by rw [opsA_len]; omega))⟩
    cases b with
    | true => exact go (.inr rfl)
    | false =>
      cases hkl : kl with
      | false => rw [hkl] at go; exact go (.inl rfl)
      | true => exact ⟨_, _, _, .abort rfl h1 (h6 rfl) h2⟩
  | dead i tr n m d =>
    obtain ⟨h1, ⟨h2, h2'⟩, h3, h4, h5⟩ := hW
    cases d with
    | zero => exact ⟨_, _, _, .gone⟩
    | succ d => exact ⟨_, _, _, .undo h1 (List.getElem?_eq_getElem (by rw [opsA_len]; omega))⟩

theorem tr_wf (hW : Wf p retry A) (hid : 0 < id ∧ id < 1000) (h : Tr p retry id kl A r A' e) : Wf p retry A' := by
  cases h with
  | back h1 h2 => exact ⟨h1, by omega, fun _ => h2⟩
  | done h1 => exact hW
  | bgn h1 h2 => exact ⟨h1, Nat.zero_le _, hid, by omega, (fun q => by cases q), fun _ => h2⟩
  | doneB => exact hW
  | bgnB h1 => exact ⟨h1, Nat.zero_le _, hid, hW.2.1, (fun _ => hW.2.2 rfl), fun q => by cases q⟩
  | abort h0 h1 h2 h3 => exact ⟨h1, ⟨Nat.le_refl _, h3⟩, hW.2.2.1, by omega, by omega⟩
  | add h0 h1 h2 => exact ⟨h1, by have := get_lt h2; rw [opsA_len] at this; omega, hW.2.2.1, hW.2.2.2⟩
  | @commit b i tr d n h0 h1 h2 =>
    refine ⟨?_, hW.2.2.2.1, hW.2.2.2.2.1⟩
    cases b
    · exact h1
    · exact Nat.le_of_lt h1
  | undo h1 h2 => exact ⟨h1, ⟨by have := hW.2.1.1; omega, hW.2.1.2⟩, hW.2.2⟩
  | gone => exact ⟨Nat.le_of_lt hW.1, hW.2.2.2.2, fun q => by cases q⟩

theorem of_A (P : Pg p) (hW : Wf p retry A) : journal_Journal_Of () 1 ((), ()) (jA p A) = some ((tA p A, (okA A, ())), jOf (jA p A)) := by
  cases A with
  | idle b i tr => exact of_nil
  | opn b i tr n d => exact of_one (by rw [List.length_take]; have := hW.2.1; have := mA_le P hW.1; omega)
  | dead i tr n m d => exact of_one (by rw [List.length_take]; have := hW.2.1; have := mA_le P hW.1; omega)
end
end Go.Proofs.Pure

/- The run of a course: what the program makes of each state. -/
namespace Go.Proofs.Pure
open Go.Proofs.D Go.Proofs.F

def killable : AS → Bool | .opn false _ _ _ _ => true | _ => false
def szK (k : Int) : Int := if k = 2 then 17 else if k = 3 ∨ k = 6 then 22 else if k = 9 then 12 else 11
def isJ (k : Int) : Bool := decide (2 ≤ k) && decide (k ≤ 7)
section
variable {p : Prg} {retry : Nat} {id : Int} {kl e : Bool} {A A' : AS} {r : Rc}
theorem opsA_take {b : Bool} {i d : Nat} {o : OpE} (h : (opsA p b i)[d]? = some o) : (opsA p b i).take (d + 1) = (opsA p b i).take d ++ [(o.1, (o.2.1, ()))] := by
  rw [List.take_add_one, h]; rfl
theorem goodT (P : Pg p) (hW : Wf p retry A) (hid : 0 < id ∧ id < 1000) (h : Tr p retry id kl A r A' e) : rec_Good r = some true ∧ rec_Size r = some (szK r.1) := by
  have hle := nS_le P
  cases h with
  | back h1 h2 => exact ⟨goodBk, sizeBk⟩
  | done h1 => exact ⟨goodDn1, sizeDn1⟩
  | bgn h1 h2 => exact ⟨goodBg (by omega) (by omega), sizeBg (by omega) (by omega) (by omega) (by omega)⟩
  | doneB => exact ⟨goodDn2, sizeDn2⟩
  | bgnB h1 => exact ⟨goodBg (by omega) (by omega), sizeBg (by omega) (by omega) (by omega) (by omega)⟩
  | abort h0 h1 h2 h3 =>
    obtain ⟨-, -, hn, -⟩ := hW
    exact ⟨goodBare (.inr (.inl rfl)) (by omega), sizeBare (.inr (.inl rfl)) (by omega) (by omega) (by omega)⟩
  | @add b i tr d n o h0 h1 h2 =>
    obtain ⟨-, -, hn, -⟩ := hW
    have hg := good3 (n := n) (by omega) (opsA_ok P h1 _ (get_mem h2))
    exact ⟨hg, size3 (by omega) (by omega) hg⟩
  | commit h0 h1 h2 =>
    obtain ⟨-, -, hn, -⟩ := hW
    exact ⟨goodBare (.inl rfl) (by omega), sizeBare (.inl rfl) (by omega) (by omega) (by omega)⟩
  | @undo i tr m d n o h1 h2 =>
    obtain ⟨-, -, hn, -⟩ := hW
    have hk := (opsA_ok P h1 _ (get_mem h2)).neg
    have hg := good6 (n := n) (by omega) hk.2
    rw [← hk.1] at hg
    exact ⟨hg, size6 (by omega) (by omega) hg⟩
  | gone =>
    obtain ⟨-, -, hn, -⟩ := hW
    exact ⟨goodBare (.inr (.inr rfl)) (by omega), sizeBare (.inr (.inr rfl)) (by omega) (by omega) (by omega)⟩

theorem tr_next (P : Pg p) (hW : Wf p retry A) (hk : kl = false ∨ killable A = false) (h : Tr p retry id kl A r A' e) : course_Next (cA p A) (tA p A) (retry : Int) id = some r := by
  have hle := nS_le P
  cases h with
  | back h1 h2 => exact next_back P (by omega) (by unfold nS at h1; omega) (by omega) (by omega)
  | done h1 => exact next_done P (by omega) (by omega)
  | bgn h1 h2 => exact next_begin P h1 (by omega) (by omega)
  | doneB => exact next_doneBack P (by omega)
  | bgnB h1 => exact next_beginBack P h1 (by omega)
  | abort h0 h1 h2 h3 =>
    rcases hk with q | q
    · rw [h0] at q; cases q
    · cases q
  | @add b i tr d n o h0 h1 h2 =>
    obtain ⟨-, -, hn, -⟩ := hW
    have hd := get_lt h2
    have hb : (((bif b then i + 1 else i : Nat) : Int)) ≤ ((stepsV p).length : Int) := by unfold nS at h1; cases b <;> simp only [cond_true, cond_false] <;> omega
    refine next_add P (by omega) hb (by omega) (by omega) (opsA_ops P h1 (by omega)) ?_
    rw [List.length_take, Nat.min_eq_left (by omega)]; exact h2
  | @commit b i tr d n h0 h1 h2 =>
    obtain ⟨-, -, hn, -⟩ := hW
    have hb : (((bif b then i + 1 else i : Nat) : Int)) ≤ ((stepsV p).length : Int) := by unfold nS at h1; cases b <;> simp only [cond_true, cond_false] <;> omega
    exact next_commit P (by omega) hb (by omega) (by omega) (opsA_ops P h1 (by omega)) (by rw [List.length_take, opsA_len]; omega)
  | @undo i tr m d n o h1 h2 =>
    obtain ⟨-, -, hn, -⟩ := hW
    have hd := get_lt h2
    have := mA_le P h1
    have hok := opsA_ok P h1 _ (get_mem h2)
    refine next_dead P (by omega) (by unfold nS at h1; omega) (by omega) (by omega) ?_
    rw [opsA_take h2]
    exact undo_one (by rw [List.length_take, opsA_len]; omega) hok.d1
  | gone =>
    obtain ⟨h1, -, hn, -⟩ := hW
    exact next_dead P (by omega) (by unfold nS at h1; omega) (by omega) (by omega) undo_none
theorem tr_kill (hk : kl = true) (hA : killable A = true) (h : Tr p retry id kl A r A' e) : r = recO 5 (cA p A).2.2.2.2.2.1 kyZ 0 := by
  subst hk
  cases h with
  | abort h0 h1 h2 h3 => rfl
  | @add b i tr d n o h0 h1 h2 =>
    rcases h0 with q | q
    · cases q
    · subst q; cases hA
  | @commit b i tr d n h0 h1 h2 =>
    rcases h0 with q | q
    · cases q
    · subst q; cases hA
  | _ => cases hA

theorem tr_apply (P : Pg p) (hW : Wf p retry A) (hr4 : retry ≤ 4) (hid : 0 < id ∧ id < 1000) (h : Tr p retry id kl A r A' e) : course_Apply (cA p A) r = some (cA p A', (0, ())) := by
  have hle := nS_le P
  have hg := (goodT P hW hid h).1
  cases h with
  | back h1 h2 => exact capply_back P (by omega) (by unfold nS at h1; omega) (by omega)
  | done h1 => exact capply_done P (by omega)
  | bgn h1 h2 => exact capply_begin P h1 (by omega) hg
  | doneB => exact capply_doneBack P (by omega)
  | bgnB h1 => exact capply_beginBack P h1 (by omega) hg
  | abort h0 h1 h2 h3 =>
    obtain ⟨-, -, hn, -⟩ := hW
    exact capply_abort P (by omega) (by simp only [cond_false]; unfold nS at h1; omega) (by omega) (by omega) (by omega) hg
  | @add b i tr d n o h0 h1 h2 =>
    obtain ⟨-, -, hn, -⟩ := hW
    have hb : (((bif b then i + 1 else i : Nat) : Int)) ≤ ((stepsV p).length : Int) := by unfold nS at h1; cases b <;> simp only [cond_true, cond_false] <;> omega
    exact capply_add P (by omega) hb (by omega) (by omega) hg
  | @commit b i tr d n h0 h1 h2 =>
    obtain ⟨-, -, hn, -⟩ := hW
    cases b with
    | false => exact capply_commit P h1 (by omega) (by omega) hg
    | true => exact capply_commitBack P h1 (by omega) (by omega) hg
  | undo h1 h2 =>
    obtain ⟨-, -, hn, -⟩ := hW
    exact capply_undo P (by omega) (by unfold nS at h1; omega) (by omega) (by omega) hg
  | gone =>
    obtain ⟨h1, -, hn, -⟩ := hW
    exact capply_gone P (by omega) (by unfold nS at h1; omega) (by omega) (by omega) hg

theorem tr_isJ (h : Tr p retry id kl A r A' e) : (isJ r.1 = true ∧ ((A = A' → False) ∧ e = false)) ∨ (isJ r.1 = false ∧ jA p A' = jA p A) := by
  cases h with
  | back h1 h2 => exact .inr ⟨rfl, rfl⟩
  | done h1 => exact .inr ⟨rfl, rfl⟩
  | bgn h1 h2 => exact .inl ⟨rfl, (fun q => by cases q), rfl⟩
  | doneB => exact .inr ⟨rfl, rfl⟩
  | bgnB h1 => exact .inl ⟨rfl, (fun q => by cases q), rfl⟩
  | abort h0 h1 h2 h3 => exact .inl ⟨rfl, (fun q => by cases q), rfl⟩
  | add h0 h1 h2 => exact .inl ⟨rfl, (fun q => by simp at q), rfl⟩
  | commit h0 h1 h2 => exact .inl ⟨rfl, (fun q => by cases q), rfl⟩
  | undo h1 h2 => exact .inl ⟨rfl, (fun q => by simp at q), rfl⟩
  | gone => exact .inl ⟨rfl, (fun q => by cases q), rfl⟩
theorem tr_japply (P : Pg p) (hW : Wf p retry A) (hid : 0 < id ∧ id < 1000) (h : Tr p retry id kl A r A' e) (hJ : isJ r.1 = true) : journal_Journal_Apply () 0 r ((), ()) (jA p A) = some (0, jOf (jA p A')) := by
  have hle := nS_le P
  obtain ⟨hg, hs⟩ := goodT P hW hid h
  cases h with
  | back h1 h2 => cases hJ
  | done h1 => cases hJ
  | doneB => cases hJ
  | bgn h1 h2 => exact apply_begin hg hs
  | bgnB h1 => exact apply_begin hg hs
  | @abort i tr d n h0 h1 h2 h3 =>
    have := mA_le P h1
    refine (apply_abort (by rw [List.length_take]; omega) hg hs).trans ?_
    show some (0, jOf [(n, tx n 1 i false true ((opsA p false i).take d) 0 (IntKind.i64.wrap (17 + 22 * (d : Int) + 11)))]) = some (0, jOf [(n, tx n 1 i false true ((opsA p false i).take d) 0 (17 + 22 * (d : Int) + 11 + 22 * ((d : Int) - (d : Int))))])
    rw [wrap_i64 (by omega) (by omega), show (17 + 22 * (d : Int) + 11 + 22 * ((d : Int) - (d : Int))) = 17 + 22 * (d : Int) + 11 by omega]
  | @add b i tr d n o h0 h1 h2 =>
    have := mA_le P h1
    have hd := get_lt h2
    rw [opsA_len] at hd
    refine (apply_add (by rw [List.length_take]; omega) hg hs).trans ?_
    show some (0, jOf [(n, tx n 1 i b false ((opsA p b i).take d ++ [(o.1, (o.2.1, ()))]) 0 (IntKind.i64.wrap (17 + 22 * (d : Int) + 22)))]) = some (0, jOf [(n, tx n 1 i b false ((opsA p b i).take (d + 1)) 0 (17 + 22 * ((d + 1 : Nat) : Int)))])
    rw [opsA_take h2, wrap_i64 (by omega) (by omega), show (17 + 22 * ((d + 1 : Nat) : Int)) = 17 + 22 * (d : Int) + 22 by omega]
  | @commit b i tr d n h0 h1 h2 =>
    have := mA_le P h1
    exact apply_commit (by rw [List.length_take]; omega) hg hs
  | @undo i tr m d n o h1 h2 =>
    have := mA_le P h1
    have hd := get_lt h2
    rw [opsA_len] at hd
    have hm := hW.2.1
    have hok := opsA_ok P h1 _ (get_mem h2)
    have h := apply_undo (at_ := 0) (n := n) (saga := 1) (step := i) (comp := false) (dead := true) (first := 0) (size := 17 + 22 * (m : Int) + 11 + 22 * ((m : Int) - ((d + 1 : Nat) : Int))) (l := (opsA p false i).take d) (by rw [List.length_take]; omega) hok.d1 hg hs
    rw [← opsA_take h2] at h
    refine h.trans ?_
    show some (0, jOf [(n, tx n 1 i false true ((opsA p false i).take d) 0 (IntKind.i64.wrap (17 + 22 * (m : Int) + 11 + 22 * ((m : Int) - ((d + 1 : Nat) : Int)) + 22)))]) = some (0, jOf [(n, tx n 1 i false true ((opsA p false i).take d) 0 (17 + 22 * (m : Int) + 11 + 22 * ((m : Int) - (d : Int))))])
    rw [wrap_i64 (by omega) (by omega), show (17 + 22 * (m : Int) + 11 + 22 * ((m : Int) - ((d + 1 : Nat) : Int)) + 22) = 17 + 22 * (m : Int) + 11 + 22 * ((m : Int) - (d : Int)) by omega]
  | @gone i tr m n => exact apply_gone hg hs
end
end Go.Proofs.Pure

/- A course followed to its end. -/
namespace Go.Proofs.Pure
open Go.Proofs.D Go.Proofs.F

abbrev PlayE := Prg × Int × List Bool × Unit
abbrev DskE := Int × (Int × Int × Int × Unit × Unit × Unit × Int × Int × Int × Int × Unit) × Bool × Int × Int × Int × Unit
section
variable {p : Prg} {retry : Nat} {id : Int} {kl e : Bool} {A A' : AS} {r : Rc}

theorem tr_e (h : Tr p retry id kl A r A' e) : ((r.1 : Int) == 9) = e := by cases h <;> rfl
theorem open_A (hW : Wf p retry A) : ((cA p A).2.2.2.2.2.1 != 0) = okA A := by
  cases A with
  | idle b i tr => rfl
  | opn b i tr n d =>
    obtain ⟨-, -, hn, -⟩ := hW
    show (n != 0) = true
    simp; omega
  | dead i tr n m d =>
    obtain ⟨-, -, hn, -⟩ := hW
    show (n != 0) = true
    simp; omega
theorem kill_A : (okA A && (!(tA p A).2.2.2.2.1 && !(cA p A).2.2.1)) = killable A := by
  cases A with
  | idle b i tr => rfl
  | opn b i tr n d => cases b <;> rfl
  | dead i tr n m d => rfl
/-- Where a transaction is given up. -/
theorem kill_val {β : Type} (hW : Wf p retry A) (ks : List Bool) (i : Nat) (T : Bool → β) :
    (bif decide ((i : Int) < (ks.length : Int)) then nthK ks (i : Int) fun e10 => bif e10 then bif (cA p A).2.2.2.2.2.1 != 0 then bif !(tA p A).2.2.2.2.1 then some (T (!(cA p A).2.2.1)) else some (T false) else some (T false) else some (T false) else some (T false)) = some (T (ks.getD i false && killable A)) := by
  rw [open_A hW, ← kill_A (p := p) (A := A)]
  by_cases hi : i < ks.length
  · obtain ⟨k, hk⟩ : ∃ k, ks[i]? = some k := ⟨_, List.getElem?_eq_getElem hi⟩
    rw [dec_t (by omega), cond_true, nthK_get hk, List.getD_eq_getElem?_getD, hk, Option.getD_some]
    cases k <;> cases okA A <;> cases (tA p A).2.2.2.2.1 <;> cases (cA p A).2.2.1 <;> rfl
  · rw [dec_f (by omega), List.getD_eq_getElem?_getD, List.getElem?_eq_none (by omega)]; rfl
theorem id_val {i : Nat} (h : i < 300) : IntKind.u32.wrap (IntKind.i64.wrap ((i : Int) + 1)) = ((i + 1 : Nat) : Int) := by
  rw [succ_i64 (by omega), wrap_u32 (by omega) (by omega)]

theorem startR_good (P : Pg p) : rec_Good (startR p) = some true := by
  have ho : rec_own (startR p) = ((prog_Good 4 4 p).bind fun r2 => some (startR p, (r2, ()))) := by kernel_rfl
  unfold rec_Good
  rw [ho, progGood_val 4 4 p P.hf, P.hg]
  show ((rec_Same (startR p) (startR p)).bind fun r3 => some r3) = some true
  rw [sameR_val (startR p) (startR p) P.hf, sameR_refl]; rfl
theorem start_val (P : Pg p) : course_Start (startR p) = some (cr p false 0 0 0, (0, ())) := by
  unfold course_Start
  show ((rec_Good (startR p)).bind _) = _
  rw [startR_good P]
  show ((prog_Copy p).bind _) = _
  rw [copyP_val p P.hf]; rfl
theorem new_val : journal_New [] = some ((), jOf []) := by kernel_rfl

/-! ### follow -/
abbrev YE := (Int × Unit × Unit × Unit × Unit × Unit × Int × Unit × Unit) × PlayE × DskE × Crs × (Unit × Unit) × List Rc × Rc × Crs × JnE × Unit
end
end Go.Proofs.Pure

/- A course that is never given up is committed; one that is given up too often is compensated. -/
namespace Go.Proofs.Pure
open Go.Proofs.D Go.Proofs.F

def cntK (k : Int) : List Rc → Nat | [] => 0 | r :: l => (if r.1 = k then 1 else 0) + cntK k l
def trA : AS → Nat | .idle _ _ tr => tr | .opn _ _ tr _ _ => tr | .dead _ tr _ _ _ => tr
def backA : AS → Bool | .idle b _ _ => b | .opn b _ _ _ _ => b | .dead _ _ _ _ _ => false
structure Told (ks : List Bool) (A : AS) (l : List Rc) : Prop where
  ab : cntK 5 l = trA A
  bk : cntK 8 l = if backA A = true then 1 else 0
  st : ks = [] → trA A = 0

section
variable {p : Prg} {retry : Nat} {id : Int} {kl e : Bool} {A A' : AS} {r : Rc}
theorem tmod5 {q : Int} (h : 0 ≤ q ∧ q < 256) : ∃ n : Nat, n ≤ 4 ∧ IntKind.i64.wrap (Int.tmod q 5) = (n : Int) := by
  refine ⟨(q % 5).toNat, by omega, ?_⟩
  rw [Int.tmod_eq_emod_of_nonneg h.1, wrap_i64 (by omega) (by omega)]; omega
theorem few13_cases (x : Prg) (h : WfE kProgram x) : pledgelaw13_Few x = some 0 ∨ (pledgelaw13_Few x = some 1 ∧ Few x ∧ x.2.2.2.1.length ≤ 20 ∧ x.2.2.2.2.1.length ≤ 30 ∧ x.2.2.2.2.2.1.length ≤ 20) := by
  unfold pledgelaw13_Few pledgelaw13_isFew
  by_cases h1 : (x.2.2.2.1.length : Int) ≤ 20
  · by_cases h2 : (x.2.2.2.2.1.length : Int) ≤ 30
    · by_cases h3 : (x.2.2.2.2.2.1.length : Int) ≤ 20
      · rw [dec_t h1, dec_t h2, dec_t h3]
        exact .inr ⟨rfl, ⟨h, by omega, by omega, by omega⟩, by omega, by omega, by omega⟩
      · rw [dec_t h1, dec_t h2, dec_f h3]; exact .inl rfl
    · rw [dec_t h1, dec_f h2]; exact .inl rfl
  · rw [dec_f h1]; exact .inl rfl
end
end Go.Proofs.Pure

/- What is held for each state of a course. -/
namespace Go.Proofs.Pure
open Go.Proofs.D Go.Proofs.F

theorem ncost8 : rec_Cost 8 = some 11 := by kernel_rfl
theorem ncost9 : rec_Cost 9 = some 12 := by kernel_rfl
theorem passF_val (s : Stp) (hl : s.2.2.1.length < 1000) : need_Pass s = some (passV s) ∧ need_Fail s = some (failV s) ∧ 0 ≤ passV s ∧ passV s < 100000 ∧ 0 ≤ failV s ∧ failV s < 200000 := by
  have ho := opsOf_len s
  have e : ∀ n : Int, 0 ≤ n → n < 1000000 → IntKind.i64.wrap n = n := fun n a b => wrap_i64 (by omega) (by omega)
  unfold need_Pass need_Fail need_adds
  simp only [ops_val s hl, ncost2, ncost3, ncost4, ncost5, ncost6, ncost7, Option.bind_some]
  rw [e _ (by omega) (by omega : ((opsOf s).length : Int) * 22 < 1000000), e _ (by omega) (by omega : (17 : Int) + (opsOf s).length * 22 < 1000000), e _ (by omega) (by omega : (17 : Int) + (opsOf s).length * 22 + 11 < 1000000),
    e _ (by omega) (by omega : (17 : Int) + (opsOf s).length * 22 + 11 + (opsOf s).length * 22 < 1000000), e _ (by omega) (by omega : (17 : Int) + (opsOf s).length * 22 + 11 + (opsOf s).length * 22 + 11 < 1000000)]
  unfold passV failV
  exact ⟨rfl, rfl, by omega, by omega, by omega, by omega⟩
theorem Mild.ofF {l : List Stp} (h : Mild l) : ∀ s ∈ l, need_Pass s = some (passV s) ∧ need_Fail s = some (failV s) ∧ 0 ≤ passV s ∧ passV s < 100000 ∧ 0 ≤ failV s ∧ failV s < 200000 := fun s hs => passF_val s (by have := h.items s hs; omega)
theorem passes_val (l : List Stp) (h : Mild l) : need_passes l = some (passesV l) := by
  have hl := h.len
  unfold need_passes
  have := loop_walk (step := need_passes.l1) l (fun i (a : Int) => (a, (l, ((l.length : Int), (i : Int))))) (fun _ s a => .inl (a + passV s)) (fun a => a) (fun i a => 0 ≤ a ∧ a ≤ 100000 * i) 0 (by omega) (by omega) (fun i y a hx hi => by
    have hi2 := get_lt hx
    obtain ⟨p1, p3, p5, p6, p7, p8⟩ := h.ofF y (get_mem hx)
    refine ⟨?_, fun _ h => by cases h; omega⟩
    unfold need_passes.l1
    simp only [dec_t (show (i : Int) < (l.length : Int) by omega), cond_true]
    rw [nthK_get hx, p1, Option.bind_some, succ_i64 (by omega), wrap_i64 (by omega) (by omega)]) (fun a _ => by
    unfold need_passes.l1
    simp only [dec_f (show ¬ (l.length : Int) < (l.length : Int) by omega), cond_false])
  rw [show (((0 : Nat) : Int)) = 0 from rfl] at this
  rw [this, walk_pass l, Option.bind_some]
  simp
def attA (p : Prg) : Int := attV (stepsV p) 0
theorem attA_val (p : Prg) (hf : Few p) (h : Mild (stepsV p)) : need_Attempt p = some (attA p) := by
  have hl := h.len
  unfold need_Attempt attA
  rw [steps_val p hf]
  simp only [Option.bind_some]
  generalize stepsV p = l at *
  have h1 := loop_walk (step := need_Attempt.l1) l (fun i (a : Int) => (a, (l, ((l.length : Int), (i : Int))))) (fun _ s a => .inl (if failV s > a then failV s else a)) (fun a => a) (fun i a => True) 0 (by omega) trivial (fun i y a hx hi => by
    have hi2 := get_lt hx
    obtain ⟨p1, p3, p5, p6, p7, p8⟩ := h.ofF y (get_mem hx)
    refine ⟨?_, fun _ h => trivial⟩
    unfold need_Attempt.l1
    simp only [dec_t (show (i : Int) < (l.length : Int) by omega), cond_true]
    rw [nthK_get hx, p3, Option.bind_some, succ_i64 (by omega)]) (fun a _ => by
    unfold need_Attempt.l1
    simp only [dec_f (show ¬ (l.length : Int) < (l.length : Int) by omega), cond_false])
  rw [show (((0 : Nat) : Int)) = 0 from rfl] at h1
  rw [h1, walk_att]
  rfl
theorem mild_of {p : Prg} (hf : Few p) : Mild (stepsV p) := ⟨stepsV_le hf, fun s hs => (stepsV_fine hf s hs).parts.1⟩

/-! ### Sums -/
theorem passesV_append : ∀ (l m : List Stp), passesV (l ++ m) = passesV l + passesV m
  | [], m => by simp [passesV]
  | s :: l, m => by simp only [List.cons_append, passesV, passesV_append l m]; omega
theorem attV_ge : ∀ (l : List Stp) (m : Int), m ≤ attV l m ∧ ∀ s ∈ l, failV s ≤ attV l m
  | [], m => ⟨Int.le_refl _, fun s hs => by cases hs⟩
  | s :: l, m => by
    obtain ⟨h1, h2⟩ := attV_ge l (if failV s > m then failV s else m)
    have h3 : failV s ≤ attV (s :: l) m ∧ m ≤ attV (s :: l) m := by
      simp only [attV]; split at h1 <;> split <;> omega
    refine ⟨h3.2, fun t ht => ?_⟩
    rcases List.mem_cons.1 ht with e | e
    · subst e; exact h3.1
    · exact h2 t e
def dropV (p : Prg) (i : Nat) : Int := passesV ((stepsV p).drop i)
def takeV (p : Prg) (i : Nat) : Int := passesV ((stepsV p).take i)
def allV (p : Prg) : Int := passesV (stepsV p)
def wV (p : Prg) (retry tr : Nat) : Int := ((retry : Int) + 1 - (tr : Int)) * attA p

section
variable {p : Prg} {retry : Nat} {id : Int} {kl e : Bool} {A A' : AS} {r : Rc}
theorem mild_bnd {l : List Stp} (h : Mild l) : 0 ≤ passesV l ∧ passesV l ≤ 500000 := by
  have := passesV_le (l := l) fun s hs => ⟨(h.ofF s hs).2.2.1, (h.ofF s hs).2.2.2.1⟩
  have := h.len
  omega
theorem sums (P : Pg p) (i : Nat) : allV p = takeV p i + dropV p i ∧ 0 ≤ takeV p i ∧ 0 ≤ dropV p i ∧ allV p ≤ 500000 ∧ 0 ≤ attA p ∧ attA p < 200000 := by
  have hm := mild_of P.hf
  have ht : Mild ((stepsV p).take i) := ⟨by have := hm.len; rw [List.length_take]; omega, fun s hs => hm.items s (List.mem_of_mem_take hs)⟩
  have hd : Mild ((stepsV p).drop i) := ⟨by have := hm.len; rw [List.length_drop]; omega, fun s hs => hm.items s (List.mem_of_mem_drop hs)⟩
  have ha := attV_le (l := stepsV p) (m := 0) (by omega) (by omega) fun s hs => ⟨(hm.ofF s hs).2.2.2.2.1, (hm.ofF s hs).2.2.2.2.2⟩
  have e : allV p = takeV p i + dropV p i := by
    unfold allV takeV dropV
    rw [← passesV_append, List.take_append_drop]
  exact ⟨e, (mild_bnd ht).1, (mild_bnd hd).1, (mild_bnd hm).2, ha.1, ha.2⟩
theorem facts (P : Pg p) {i : Nat} (h : i < nS p) : dropV p i = 28 + 22 * (mA p i : Int) + dropV p (i + 1) ∧ takeV p (i + 1) = takeV p i + (28 + 22 * (mA p i : Int)) ∧ 39 + 44 * (mA p i : Int) ≤ attA p := by
  have hg := sA_get h
  have hl := get_lt hg
  have e1 : (stepsV p).drop i = sA p i :: (stepsV p).drop (i + 1) := by
    rw [List.drop_eq_getElem_cons hl]
    rw [List.getElem?_eq_getElem hl] at hg
    rw [Option.some.inj hg]
  have e2 : (stepsV p).take (i + 1) = (stepsV p).take i ++ [sA p i] := by rw [List.take_add_one, hg]; rfl
  have hp : passV (sA p i) = 28 + 22 * (mA p i : Int) := by unfold passV mA; omega
  have hf : failV (sA p i) = 39 + 44 * (mA p i : Int) := by unfold failV mA; omega
  refine ⟨?_, ?_, ?_⟩
  · unfold dropV; rw [e1]; simp only [passesV]; omega
  · unfold takeV; rw [e2, passesV_append]; simp only [passesV]; omega
  · rw [← hf]; exact (attV_ge (stepsV p) 0).2 _ (get_mem hg)
theorem wV_facts (P : Pg p) (hr4 : retry ≤ 4) {tr : Nat} (h : tr ≤ retry + 1) : 0 ≤ wV p retry tr ∧ wV p retry tr ≤ 1000000 ∧ wV p retry tr ≤ wV p retry 0 := by
  obtain ⟨-, -, -, -, a1, a2⟩ := sums P 0
  unfold wV
  refine ⟨Int.mul_nonneg (by omega) a1, ?_, Int.mul_le_mul_of_nonneg_right (by omega) a1⟩
  have := Int.mul_le_mul (show (retry : Int) + 1 - (tr : Int) ≤ 5 by omega) (show attA p ≤ 200000 by omega) a1 (by omega)
  omega
/-! ### What is held -/
def fwdV (p : Prg) (retry i tr : Nat) : Int := dropV p i + wV p retry tr + 11 + allV p + 12
def backV (p : Prg) (i : Nat) : Int := takeV p i + 12
def holdA (p : Prg) (retry : Nat) : AS → Int
  | .idle b i tr => (bif b then backV p i else fwdV p retry i tr) + attA p
  | .opn b i tr n d => (bif b then backV p (i + 1) else fwdV p retry i tr) + attA p - (17 + 22 * (d : Int))
  | .dead i tr n m d => fwdV p retry i tr + attA p + attA p - (17 + 22 * (m : Int) + 11 + 22 * ((m : Int) - (d : Int)))

theorem sum5e (p1 m a8 p2 a9 : Int) (h1 : 0 ≤ p1 ∧ p1 ≤ 500000) (h2 : 0 ≤ m ∧ m ≤ 1000000) (h3 : 0 ≤ a8 ∧ a8 < 1000) (h4 : 0 ≤ p2 ∧ p2 ≤ 500000) (h5 : 0 ≤ a9 ∧ a9 < 1000) :
    IntKind.i64.wrap ((IntKind.i64.wrap ((IntKind.i64.wrap ((IntKind.i64.wrap (p1 + (IntKind.i64.wrap m))) + a8)) + p2)) + a9) = p1 + m + a8 + p2 + a9 := by
  have e1 : IntKind.i64.wrap m = m := wrap_i64 (by omega) (by omega)
  have e2 : IntKind.i64.wrap (p1 + m) = p1 + m := wrap_i64 (by omega) (by omega)
  have e3 : IntKind.i64.wrap (p1 + m + a8) = p1 + m + a8 := wrap_i64 (by omega) (by omega)
  have e4 : IntKind.i64.wrap (p1 + m + a8 + p2) = p1 + m + a8 + p2 := wrap_i64 (by omega) (by omega)
  have e5 : IntKind.i64.wrap (p1 + m + a8 + p2 + a9) = p1 + m + a8 + p2 + a9 := wrap_i64 (by omega) (by omega)
  rw [e1, e2, e3, e4, e5]
theorem rest_val (P : Pg p) {b : Bool} {i tr : Nat} {n : Int} (hr4 : retry ≤ 4) (hi : i ≤ nS p) (ht : tr ≤ retry + 1) : need_Rest (cr p b (i : Int) tr n) (retry : Int) = some (bif b then backV p i else fwdV p retry i tr) := by
  have hm := mild_of P.hf
  have hd : Mild ((stepsV p).drop i) := ⟨by have := hm.len; rw [List.length_drop]; omega, fun s hs => hm.items s (List.mem_of_mem_drop hs)⟩
  have hk : Mild ((stepsV p).take i) := ⟨by have := hm.len; rw [List.length_take]; omega, fun s hs => hm.items s (List.mem_of_mem_take hs)⟩
  have hg := good_cr (back := b) (txn := n) (step := (i : Int)) (tries := (tr : Int)) P (by omega) (by unfold nS at hi; omega) (by omega)
  have b1 := mild_bnd hd
  have b2 := mild_bnd hm
  have b3 := mild_bnd hk
  have hw := wV_facts P hr4 ht
  have hle := nS_le P
  unfold need_Rest
  rw [hg]
  show ((prog_Steps p).bind fun r35 => bif b then chk (decide (0 ≤ (i : Int)) && decide ((i : Int) ≤ (r35.length : Int))) ((need_passes ((r35.take (i : Int).toNat).drop 0)).bind _) else chk (decide (0 ≤ (i : Int)) && decide ((i : Int) ≤ (r35.length : Int))) ((need_passes ((r35.take r35.length).drop (i : Int).toNat)).bind _)) = _
  have hc : (decide (0 ≤ (i : Int)) && decide ((i : Int) ≤ ((stepsV p).length : Int))) = true := by
    unfold nS at hi; simp; omega
  rw [steps_val p P.hf, Option.bind_some, chk_true hc, chk_true hc, Int.toNat_natCast, List.take_length, List.drop_zero, passes_val _ hk, passes_val _ hd]
  cases b with
  | true =>
    show some (IntKind.i64.wrap (passesV ((stepsV p).take i) + 12)) = some (backV p i)
    rw [wrap_i64 (by omega) (by omega)]; rfl
  | false =>
    show (Option.bind (need_Attempt p) fun r39 => (rec_Cost 8).bind fun r40 => (need_passes (stepsV p)).bind fun r41 => (rec_Cost 9).bind fun r42 => some (IntKind.i64.wrap ((IntKind.i64.wrap ((IntKind.i64.wrap ((IntKind.i64.wrap (passesV ((stepsV p).drop i) + (IntKind.i64.wrap ((if 0 > (IntKind.i64.wrap ((IntKind.i64.wrap ((if 4 < (if 0 > (retry : Int) then 0 else (retry : Int)) then 4 else if 0 > (retry : Int) then 0 else (retry : Int)) + 1)) - (tr : Int))) then 0 else IntKind.i64.wrap ((IntKind.i64.wrap ((if 4 < (if 0 > (retry : Int) then 0 else (retry : Int)) then 4 else if 0 > (retry : Int) then 0 else (retry : Int)) + 1)) - (tr : Int))) * r39)))) + r40)) + r41)) + r42))) = some (fwdV p retry i tr)
    have k0 : (if 4 < (if 0 > (retry : Int) then 0 else (retry : Int)) then 4 else if 0 > (retry : Int) then 0 else (retry : Int)) = (retry : Int) := by
      rw [if_neg (show ¬ 0 > (retry : Int) by omega), if_neg (by omega)]
    have w1 : IntKind.i64.wrap ((retry : Int) + 1) = (retry : Int) + 1 := wrap_i64 (by omega) (by omega)
    have w2 : IntKind.i64.wrap ((retry : Int) + 1 - (tr : Int)) = (retry : Int) + 1 - (tr : Int) := wrap_i64 (by omega) (by omega)
    rw [attA_val p P.hf hm, passes_val _ hm, ncost8, ncost9]
    simp only [Option.bind_some, k0, w1, w2]
    rw [if_neg (show ¬ 0 > (retry : Int) + 1 - (tr : Int) by omega)]
    congr 1
    exact sum5e _ _ 11 _ 12 b1 ⟨hw.1, hw.2.1⟩ (by omega) b2 (by omega)
end
end Go.Proofs.Pure

/- What is held falls with each record by what it takes at least. -/
namespace Go.Proofs.Pure
open Go.Proofs.D Go.Proofs.F

def restV (p : Prg) (retry : Nat) (b : Bool) (i tr : Nat) : Int := bif b then backV p i else fwdV p retry i tr
section
variable {p : Prg} {retry : Nat} {id : Int} {kl e : Bool} {A A' : AS} {r : Rc}
theorem restV_bnd (P : Pg p) (hr4 : retry ≤ 4) {tr : Nat} (h : tr ≤ retry + 1) (b : Bool) (i : Nat) : 0 ≤ restV p retry b i tr ∧ restV p retry b i tr ≤ 2500000 ∧ restV p retry b i tr ≤ fwdV p retry 0 0 := by
  obtain ⟨s1, s2, s3, s4, s5, s6⟩ := sums P i
  obtain ⟨t1, t2, t3, t4, t5, t6⟩ := sums P 0
  have t0 : takeV p 0 = 0 := rfl
  have hw := wV_facts P hr4 h
  have h0 := wV_facts P hr4 (Nat.zero_le (retry + 1))
  unfold restV backV fwdV
  cases b <;> simp only [cond_true, cond_false] <;> omega
theorem hold_idle (P : Pg p) (hr4 : retry ≤ 4) {b : Bool} {i tr : Nat} (hi : i ≤ nS p) (ht : tr ≤ retry + 1) (T : TxE) : need_Hold (cr p b (i : Int) tr 0) T (retry : Int) = some (restV p retry b i tr + attA p) := by
  have hg := good_cr (back := b) (txn := 0) (step := (i : Int)) (tries := (tr : Int)) P (by omega) (by unfold nS at hi; omega) (by omega)
  have hb := restV_bnd P hr4 ht b i
  obtain ⟨-, -, -, -, a1, a2⟩ := sums P 0
  unfold need_Hold
  refine (bind_of hg).trans ?_
  show ((need_Rest _ _).bind _) = _
  refine (bind_of (rest_val P hr4 hi ht)).trans ?_
  refine (bind_of (attA_val p P.hf (mild_of P.hf))).trans ?_
  show some (IntKind.i64.wrap (restV p retry b i tr + attA p)) = _
  rw [wrap_i64 (by omega) (by omega)]
theorem hold_open (P : Pg p) (hr4 : retry ≤ 4) {b : Bool} {i tr : Nat} {n : Int} {T : TxE} (hn : n ≠ 0) (hd : T.2.2.2.2.1 = false) (hz : 0 ≤ T.2.2.2.2.2.2.2.1 ∧ T.2.2.2.2.2.2.2.1 ≤ restV p retry b i tr + attA p) (hi : i ≤ nS p) (ht : tr ≤ retry + 1) :
    need_Hold (cr p b (i : Int) tr n) T (retry : Int) = some (restV p retry b i tr + attA p - T.2.2.2.2.2.2.2.1) := by
  have hg := good_cr (back := b) (txn := n) (step := (i : Int)) (tries := (tr : Int)) P (by omega) (by unfold nS at hi; omega) (by omega)
  have hb := restV_bnd P hr4 ht b i
  obtain ⟨-, -, -, -, a1, a2⟩ := sums P 0
  unfold need_Hold
  refine (bind_of hg).trans ?_
  show ((need_Rest _ _).bind _) = _
  refine (bind_of (rest_val P hr4 hi ht)).trans ?_
  refine (bind_of (attA_val p P.hf (mild_of P.hf))).trans ?_
  show (bif (n == 0) then _ else bif T.2.2.2.2.1 then _ else some (if 0 > (IntKind.i64.wrap ((IntKind.i64.wrap (restV p retry b i tr + attA p)) - T.2.2.2.2.2.2.2.1)) then 0 else IntKind.i64.wrap ((IntKind.i64.wrap (restV p retry b i tr + attA p)) - T.2.2.2.2.2.2.2.1))) = _
  rw [hd, show (n == 0) = false by simpa using hn, cond_false, cond_false, wrap_i64 (show -9223372036854775808 ≤ restV p retry b i tr + attA p by omega) (by omega), wrap_i64 (by omega) (by omega), if_neg (by omega)]
theorem hold_dead (P : Pg p) (hr4 : retry ≤ 4) {i tr : Nat} {n : Int} {T : TxE} (hn : n ≠ 0) (hd : T.2.2.2.2.1 = true) (hz : 0 ≤ T.2.2.2.2.2.2.2.1 ∧ T.2.2.2.2.2.2.2.1 ≤ attA p) (hi : i ≤ nS p) (ht : tr ≤ retry + 1) :
    need_Hold (cr p false (i : Int) tr n) T (retry : Int) = some (restV p retry false i tr + attA p + attA p - T.2.2.2.2.2.2.2.1) := by
  have hg := good_cr (back := false) (txn := n) (step := (i : Int)) (tries := (tr : Int)) P (by omega) (by unfold nS at hi; omega) (by omega)
  have hb := restV_bnd P hr4 ht false i
  have ha := attA_val p P.hf (mild_of P.hf)
  obtain ⟨-, -, -, -, a1, a2⟩ := sums P 0
  unfold need_Hold
  refine (bind_of hg).trans ?_
  show ((need_Rest _ _).bind _) = _
  refine (bind_of (rest_val P hr4 hi ht)).trans ?_
  refine (bind_of ha).trans ?_
  show (bif (n == 0) then _ else bif T.2.2.2.2.1 then (need_Attempt p).bind fun r36 => some (if 0 > (IntKind.i64.wrap ((IntKind.i64.wrap ((IntKind.i64.wrap (restV p retry false i tr + attA p)) + r36)) - T.2.2.2.2.2.2.2.1)) then 0 else IntKind.i64.wrap ((IntKind.i64.wrap ((IntKind.i64.wrap (restV p retry false i tr + attA p)) + r36)) - T.2.2.2.2.2.2.2.1)) else _) = _
  rw [hd, show (n == 0) = false by simpa using hn, cond_false, cond_true, ha, Option.bind_some, wrap_i64 (show -9223372036854775808 ≤ restV p retry false i tr + attA p by omega) (by omega), wrap_i64 (show -9223372036854775808 ≤ restV p retry false i tr + attA p + attA p by omega) (by omega), wrap_i64 (by omega) (by omega), if_neg (by omega)]

/-- What is held never clips. -/
theorem hold_nonneg (P : Pg p) (hr4 : retry ≤ 4) (hW : Wf p retry A) : 0 ≤ holdA p retry A ∧ holdA p retry A ≤ 5000000 := by
  obtain ⟨-, -, -, -, a1, a2⟩ := sums P 0
  cases A with
  | idle b i tr =>
    obtain ⟨h1, h2, h3⟩ := hW
    have := restV_bnd P hr4 h2 b i
    unfold restV at this
    simp only [holdA]; omega
  | opn b i tr n d =>
    obtain ⟨h1, h2, h3, h4, h5, h6⟩ := hW
    have hf := facts P h1
    have hb := restV_bnd P hr4 h4 b (bif b then i + 1 else i)
    unfold restV at hb
    simp only [holdA]
    cases b <;> simp only [cond_true, cond_false] at hb ⊢ <;> omega
  | dead i tr n m d =>
    obtain ⟨h1, ⟨h2, h2'⟩, h3, h4, h5⟩ := hW
    have hf := facts P h1
    have hb := restV_bnd P hr4 h5 false i
    unfold restV at hb
    simp only [holdA, cond_false] at hb ⊢
    omega
theorem hold_val (P : Pg p) (hr4 : retry ≤ 4) (hW : Wf p retry A) : need_Hold (cA p A) (tA p A) (retry : Int) = some (holdA p retry A) := by
  obtain ⟨-, -, -, -, a1, a2⟩ := sums P 0
  cases A with
  | idle b i tr =>
    obtain ⟨h1, h2, h3⟩ := hW
    exact hold_idle P hr4 h1 h2 _
  | opn b i tr n d =>
    obtain ⟨h1, h2, h3, h4, h5, h6⟩ := hW
    have hf := facts P h1
    have hb := restV_bnd P hr4 h4 b (bif b then i + 1 else i)
    have h := hold_open (T := tA p (.opn b i tr n d)) (b := b) (i := bif b then i + 1 else i) (n := n) P hr4 (by omega) rfl (by show 0 ≤ 17 + 22 * (d : Int) ∧ 17 + 22 * (d : Int) ≤ _; omega) (by cases b <;> simp only [cond_true, cond_false] <;> omega) h4
    refine h.trans ?_
    simp only [holdA, restV]
    cases b <;> rfl
  | dead i tr n m d =>
    obtain ⟨h1, ⟨h2, h2'⟩, h3, h4, h5⟩ := hW
    have hf := facts P h1
    have hb := restV_bnd P hr4 h5 false i
    exact hold_dead (T := tA p (.dead i tr n m d)) P hr4 (by omega) rfl (by show 0 ≤ 17 + 22 * (m : Int) + 11 + 22 * ((m : Int) - (d : Int)) ∧ 17 + 22 * (m : Int) + 11 + 22 * ((m : Int) - (d : Int)) ≤ _; omega) (by omega) h5

/-! ### The start -/
theorem good_few {p : Prg} (hf : Few p) (hT : p.2.2.2.2.1.length ≤ 30) (hg : goodP 4 4 p = true) : 20 + 9 * p.2.2.2.1.length + 14 * p.2.2.2.2.1.length + 9 * p.2.2.2.2.2.1.length ≤ 500 := by
  have tk : ∀ {id : Int} {l : List Tk}, takesB 4 4 id l = true → l.length ≤ 12 := fun h => by
    unfold takesB at h
    simp only [Bool.and_eq_true, decide_eq_true_eq] at h
    omega
  have lk : ∀ {l : List Ln}, linesB 4 l = true → l.length ≤ 3 := fun h => by
    unfold linesB at h
    simp only [Bool.and_eq_true, decide_eq_true_eq] at h
    omega
  have bare : ∀ {p : Prg}, bareB p = true → p.2.2.2.1.length = 0 := fun h => by
    unfold bareB at h
    simp only [Bool.and_eq_true, beq_iff_eq] at h
    omega
  unfold goodP goodKind at hg
  simp only [Bool.and_eq_true] at hg
  have hk := hg.2
  clear hg
  cases c1 : p.1 == 1 with
  | true =>
    rw [c1] at hk
    simp only [cond_true, Bool.and_eq_true] at hk
    have := lk hk.2.2.2.1; have := tk hk.2.2.2.2.1; have := lk hk.2.2.2.2.2.1
    omega
  | false =>
  rw [c1] at hk
  cases c2 : p.1 == 2 with
  | true =>
    rw [c2] at hk
    simp only [cond_true, cond_false, Bool.and_eq_true] at hk
    have := bare hk.2.1; have := tk hk.2.2.1; have := lk hk.2.2.2.1
    omega
  | false =>
  rw [c2] at hk
  cases c3 : (p.1 == 3) || (p.1 == 4) with
  | true =>
    rw [c3] at hk
    simp only [cond_true, cond_false, Bool.and_eq_true, beq_iff_eq] at hk
    have := bare hk.2.1; have := tk hk.2.2.1; have := hk.2.2.2.2
    omega
  | false =>
  rw [c3] at hk
  have mv : movedB 4 4 p = true → p.2.2.2.1.length = 0 ∧ p.2.2.2.2.2.1.length = 0 := fun h => by
    unfold movedB at h
    simp only [Bool.and_eq_true, beq_iff_eq] at h
    have := bare h.2.1
    exact ⟨this, by have := h.2.2.1; omega⟩
  cases c5 : p.1 == 5 with
  | true =>
    rw [c5] at hk
    simp only [cond_true, cond_false, Bool.and_eq_true] at hk
    have := mv hk.1
    omega
  | false =>
  rw [c5] at hk
  cases c6 : p.1 == 6 with
  | true =>
    rw [c6] at hk
    simp only [cond_true, cond_false, Bool.and_eq_true] at hk
    have := mv hk.1
    omega
  | false =>
    rw [c6] at hk
    simp only [cond_false] at hk
    cases hk
def sizeS (p : Prg) : Int := 6 + (7 + (20 + 9 * (p.2.2.2.1.length : Int) + 14 * (p.2.2.2.2.1.length : Int) + 9 * (p.2.2.2.2.2.1.length : Int)))
theorem sizeS_val (P : Pg p) (hT : p.2.2.2.2.1.length ≤ 30) : rec_Size (startR p) = some (sizeS p) ∧ 0 < sizeS p ∧ sizeS p ≤ 1000 := by
  have h := good_few P.hf hT P.hg
  exact ⟨recEncode_val p P.hf P.hg (startR_good P) h, by unfold sizeS; omega, by unfold sizeS; omega⟩
theorem hold0_val (P : Pg p) (hr4 : retry ≤ 4) : need_Hold (cr p false 0 0 0) txZ (retry : Int) = some (fwdV p retry 0 0 + attA p) := hold_idle P hr4 (Nat.zero_le _) (Nat.zero_le _) txZ
theorem startN_val (P : Pg p) (hr4 : retry ≤ 4) (hT : p.2.2.2.2.1.length ≤ 30) : need_Start p (retry : Int) = some (sizeS p + (fwdV p retry 0 0 + attA p)) := by
  obtain ⟨hs, s1, s2⟩ := sizeS_val P hT
  have hb := restV_bnd P hr4 (Nat.zero_le (retry + 1)) false 0
  obtain ⟨-, -, -, -, a1, a2⟩ := sums P 0
  unfold restV at hb
  simp only [cond_false] at hb
  unfold need_Start
  refine (bind_of (start_val P)).trans ?_
  refine (bind_of hs).trans ?_
  refine (bind_of (hold0_val P hr4)).trans ?_
  rw [wrap_i64 (by omega) (by omega)]
end
end Go.Proofs.Pure

/- What is written was held. -/
namespace Go.Proofs.Pure
open Go.Proofs.D Go.Proofs.F

section
variable {p : Prg} {retry : Nat} {id : Int} {kl e : Bool} {A A' : AS} {r : Rc}
/-- Which record comes: what would be next, or that it is given up. -/
theorem tr_rec (P : Pg p) {k : Bool} (hW : Wf p retry A) (hid : 0 < id ∧ id < 1000) (h : Tr p retry id k A r A' e) : ∃ r0, course_Next (cA p A) (tA p A) (retry : Int) id = some r0 ∧ (bif (k && killable A) then recO 5 (cA p A).2.2.2.2.2.1 kyZ 0 else r0) = r := by
  obtain ⟨r0, A0, e0, h0⟩ := tr_exists (p := p) (retry := retry) (id := id) (kl := false) hW
  have hn := tr_next P hW (.inl rfl) h0
  refine ⟨r0, hn, ?_⟩
  cases hk : k with
  | false =>
    have h2 := tr_next P hW (.inl hk) h
    rw [hn] at h2
    exact Option.some.inj h2
  | true =>
    cases hA : killable A with
    | false =>
      have h2 := tr_next P hW (.inr hA) h
      rw [hn] at h2
      exact Option.some.inj h2
    | true => exact (tr_kill hk hA h).symm
abbrev YN := (Unit × Int × Unit × Int × Unit × Int × Int × Int × Unit) × PlayE × Crs × (Unit × Unit) × Rc × JnE × Unit
abbrev YM := (Unit × Int × Unit × Int × Unit × Int × Int × Int × Unit × Int) × PlayE × Crs × (Unit × Unit) × Rc × JnE × Unit
theorem works21 : pledgelaw21_works = some true := by kernel_rfl
end
end Go.Proofs.Pure

/- What a crash undoes was held, too. -/
namespace Go.Proofs.Pure
open Go.Proofs.D Go.Proofs.F

section
variable {p : Prg} {retry : Nat} {id : Int} {kl e : Bool} {A A' : AS} {r : Rc}
def crV (x : PlayE) (p : Prg) (n : Int) (retry i : Nat) (A : AS) : (Int × Unit × Int × Unit × Int × Unit × Int) × PlayE × Crs × (Unit × Unit) × JnE × Unit :=
  ((n, ((), ((retry : Int), ((), (0, ((), (i : Int))))))), (x, (cA p A, (((), ()), (jA p A, ())))))
def crX (x : PlayE) (p : Prg) (retry : Nat) (A : AS) : (Unit × Int × Unit × Unit) × PlayE × Crs × (Unit × Unit) × JnE × Unit :=
  (((), ((retry : Int), ((), ()))), (x, (cA p A, (((), ()), (jA p A, ())))))
abbrev YC := (Int × Unit × Int × Unit × Unit × Int × Unit × Bool) × PlayE × Crs × (Unit × Unit) × Rc × JnE × Unit
theorem tr_two (h : Tr p retry id kl A r A' e) : 2 ≤ r.1 := by cases h <;> (first | (show (2 : Int) ≤ 2; omega) | (show (2 : Int) ≤ 3; omega) | (show (2 : Int) ≤ 4; omega) | (show (2 : Int) ≤ 5; omega) | (show (2 : Int) ≤ 6; omega) | (show (2 : Int) ≤ 7; omega) | (show (2 : Int) ≤ 8; omega) | (show (2 : Int) ≤ 9; omega))
theorem crash_step (P : Pg p) {q : Int} {ks : List Bool} {i n : Nat} (hr4 : retry ≤ 4) (hi : i < n) (hn255 : n < 256) (hW : Wf p retry A) (h : Tr p retry ((i + 1 : Nat) : Int) (ks.getD i false) A r A' e) :
    pledgelaw21_NeedCrash.l1 (crV (p, (q, (ks, ()))) p (n : Int) retry i A) = some (bif e then Sum.inr (crX (p, (q, (ks, ()))) p retry A) else Sum.inl (crV (p, (q, (ks, ()))) p (n : Int) retry (i + 1) A')) := by
  have hid : 0 < ((i + 1 : Nat) : Int) ∧ ((i + 1 : Nat) : Int) < 1000 := by omega
  obtain ⟨r0, hn, hrr⟩ := tr_rec P hW hid h
  have hap := tr_apply P hW hr4 hid h
  have he := tr_e h
  have h2 := tr_two h
  unfold pledgelaw21_NeedCrash.l1
  show (bif decide ((i : Int) < IntKind.i64.wrap (n : Int)) then _ else _) = _
  rw [wrap_i64 (by omega) (by omega), dec_t (show (i : Int) < (n : Int) by omega), cond_true]
  refine (bind_of (of_A P hW)).trans ?_
  have hn' : course_Next (cA p A) (tA p A) (retry : Int) (IntKind.u32.wrap (IntKind.i64.wrap ((i : Int) + 1))) = some r0 := by rw [id_val (by omega)]; exact hn
  refine (bind_of hn').trans ?_
  refine (bind_of (kill_val hW ks i fun k => ((((n : Int), ((), ((retry : Int), ((), ((), ((i : Int), ((), k))))))), ((p, (q, (ks, ()))), (cA p A, (((), ()), (r0, (jA p A, ())))))) : YC))).trans ?_
  cases hf : (ks.getD i false && killable A) with
  | true =>
    rw [hf] at hrr
    simp only [cond_true] at hrr
    rw [← hrr] at hap he
    have hJ : isJ (recO 5 (cA p A).2.2.2.2.2.1 kyZ 0).1 = true := rfl
    have hj := tr_japply P hW hid h (by rw [← hrr]; exact hJ)
    rw [← hrr] at hj
    have he' : e = false := by rw [← he]; rfl
    show ((course_Apply (cA p A) (recO 5 (cA p A).2.2.2.2.2.1 kyZ 0)).bind _) = _
    refine (bind_of hap).trans ?_
    refine (bind_of hj).trans ?_
    show some (Sum.inl (((n : Int), ((), ((retry : Int), ((), (0, ((), IntKind.i64.wrap ((i : Int) + 1))))))), ((p, (q, (ks, ()))), (cA p A', (((), ()), (jA p A', ())))))) = _
    rw [succ_i64 (by omega), he']; rfl
  | false =>
    rw [hf] at hrr
    simp only [cond_false] at hrr
    rw [hrr]
    show (bif (r.1 : Int) == 9 then some (Sum.inr (crX (p, (q, (ks, ()))) p retry A)) else (course_Apply (cA p A) r).bind _) = _
    rw [he]
    cases e with
    | true => rfl
    | false =>
      simp only [cond_false]
      refine (bind_of hap).trans ?_
      rcases tr_isJ h with ⟨g1, -⟩ | ⟨g1, g2⟩
      · have hj := tr_japply P hW hid h g1
        unfold isJ at g1
        simp only [Bool.and_eq_true, decide_eq_true_eq] at g1
        show (bif decide (r.1 ≤ 7) then (journal_Journal_Apply () 0 r ((), ()) (jA p A)).bind _ else _) = _
        rw [dec_t g1.2, cond_true]
        refine (bind_of hj).trans ?_
        show some (Sum.inl (((n : Int), ((), ((retry : Int), ((), (0, ((), IntKind.i64.wrap ((i : Int) + 1))))))), ((p, (q, (ks, ()))), (cA p A', (((), ()), (jA p A', ())))))) = _
        rw [succ_i64 (by omega)]; rfl
      · unfold isJ at g1
        rw [dec_t h2, Bool.true_and] at g1
        show (bif decide (r.1 ≤ 7) then _ else some (Sum.inl (((n : Int), ((), ((retry : Int), ((), (0, ((), IntKind.i64.wrap ((i : Int) + 1))))))), ((p, (q, (ks, ()))), (cA p A', (((), ()), (jA p A, ()))))))) = _
        rw [g1, cond_false, succ_i64 (by omega), ← g2]; rfl
theorem crash_stop {x : PlayE} {i n : Nat} (hi : ¬ i < n) (hn255 : n < 256) : pledgelaw21_NeedCrash.l1 (crV x p (n : Int) retry i A) = some (Sum.inr (crX x p retry A)) := by
  unfold pledgelaw21_NeedCrash.l1
  show (bif decide ((i : Int) < IntKind.i64.wrap (n : Int)) then _ else _) = _
  rw [wrap_i64 (by omega) (by omega), dec_f (show ¬ (i : Int) < (n : Int) by omega)]; rfl
theorem crash_run (P : Pg p) {q : Int} {ks : List Bool} {n : Nat} (hr4 : retry ≤ 4) (hn255 : n < 256) : ∀ (m i : Nat) (A : AS), n - i < m → Wf p retry A → ∃ A', Wf p retry A' ∧ iterL pledgelaw21_NeedCrash.l1 m (crV (p, (q, (ks, ()))) p (n : Int) retry i A) = some (crX (p, (q, (ks, ()))) p retry A')
  | 0, i, A, hm, _ => absurd hm (Nat.not_lt_zero _)
  | m + 1, i, A, hm, hW => by
    by_cases hi : i < n
    · obtain ⟨r, A', e, h⟩ := tr_exists (id := ((i + 1 : Nat) : Int)) (kl := ks.getD i false) hW
      have hs := crash_step (q := q) P hr4 hi hn255 hW h
      cases e with
      | true => exact ⟨A, hW, iterL_done hs⟩
      | false =>
        obtain ⟨A2, g1, g2⟩ := crash_run P (q := q) (ks := ks) hr4 hn255 m (i + 1) A' (by omega) (tr_wf hW (by omega) h)
        exact ⟨A2, g1, (iterL_next hs).trans g2⟩
    · exact ⟨A, hW, iterL_done (crash_stop hi hn255)⟩

/-! ### What is undone -/
def uV (x : PlayE) (retry : Nat) (c : Crs) (opn : Bool) (held took size : Int) (j : Nat) (T : TxE) (jn : JnE) : (Unit × Int × Unit × Unit × Unit × Bool × Int × Int × Int × Int) × PlayE × Crs × (Unit × Unit) × TxE × JnE × Unit :=
  (((), ((retry : Int), ((), ((), ((), (opn, (held, (took, (size, (j : Int)))))))))), (x, (c, (((), ()), (T, (jn, ()))))))
def uX (x : PlayE) (retry : Nat) (c : Crs) (held took size : Int) : ((Unit × Int × Unit × Bool × Int × Int × Int) × PlayE × Crs × Unit) ⊕ Bool :=
  .inl (((), ((retry : Int), ((), (false, (held, (took, size)))))), (x, (c, ())))
theorem undo_end {x : PlayE} {c : Crs} {held took size : Int} {j : Nat} {T : TxE} {jn : JnE} (hj : j < 20) : pledgelaw21_NeedCrash.l2 (uV x retry c false held took size j T jn) = some (Sum.inr (uX x retry c held took size)) := by
  unfold pledgelaw21_NeedCrash.l2
  show (bif decide ((j : Int) < 20) then _ else _) = _
  rw [dec_t (by omega)]; rfl
theorem undo_last (P : Pg p) {x : PlayE} {b comp dead : Bool} {i tr : Nat} {st n held took size sz : Int} {j : Nat} (hj : j < 20) (hi : i ≤ nS p) (hn : 0 < n ∧ n < 1000) (ht : 0 ≤ took ∧ took ≤ 1000) :
    pledgelaw21_NeedCrash.l2 (uV x retry (cr p b (i : Int) tr n) true held took size j (tx n 1 st comp dead [] 0 sz) [(n, tx n 1 st comp dead [] 0 sz)]) = some (Sum.inl (uV x retry (cr p b (i : Int) tr 0) false held (took + 11) size (j + 1) txZ [])) := by
  have hg : rec_Good (recO 7 n kyZ 0) = some true := goodBare (.inr (.inr rfl)) (by omega)
  have hs : rec_Size (recO 7 n kyZ 0) = some 11 := sizeBare (.inr (.inr rfl)) (by omega) (by omega) (by omega)
  have hU : course_Undo (tx n 1 st comp dead [] 0 sz) = some (recO 7 n kyZ 0) := undo_none
  have hA := apply_gone (at_ := 0) (n := n) (saga := 1) (step := st) (comp := comp) (dead := dead) (first := 0) (size := sz) hg hs
  generalize tx n 1 st comp dead [] 0 sz = T at hU hA ⊢
  unfold pledgelaw21_NeedCrash.l2
  show (bif decide ((j : Int) < 20) then (course_Undo T).bind _ else _) = _
  rw [dec_t (by omega), cond_true]
  refine (bind_of hU).trans ?_
  refine (bind_of (capply_gone (back := b) (step := (i : Int)) (tries := (tr : Int)) P (by omega) (by unfold nS at hi; omega) (by omega) (by omega) hg)).trans ?_
  refine (bind_of hA).trans ?_
  show ((rec_Size (recO 7 n kyZ 0)).bind _) = _
  refine (bind_of hs).trans ?_
  refine (bind_of of_nil).trans ?_
  show some (Sum.inl (((), ((retry : Int), ((), ((), ((), (false, (held, (IntKind.i64.wrap (took + 11), (size, IntKind.i64.wrap ((j : Int) + 1)))))))))), (x, (cr p b (i : Int) tr 0, (((), ()), (txZ, ([], ()))))))) = _
  rw [wrap_i64 (by omega) (by omega), succ_i64 (by omega)]; rfl
theorem undo_next (P : Pg p) {x : PlayE} {b comp dead : Bool} {l : List OpE} {o : OpE} {i tr : Nat} {st n held took size sz : Int} {j : Nat} (hj : j < 20) (hi : i ≤ nS p) (hn : 0 < n ∧ n < 1000) (ht : 0 ≤ took ∧ took ≤ 1000) (hz : 0 ≤ sz ∧ sz ≤ 1000) (hl : l.length ≤ 6) (ho : OkO o.1 o.2.1) :
    pledgelaw21_NeedCrash.l2 (uV x retry (cr p b (i : Int) tr n) true held took size j (tx n 1 st comp dead (l ++ [(o.1, (o.2.1, ()))]) 0 sz) [(n, tx n 1 st comp dead (l ++ [(o.1, (o.2.1, ()))]) 0 sz)])
      = some (Sum.inl (uV x retry (cr p b (i : Int) tr n) true held (took + 22) size (j + 1) (tx n 1 st comp true l 0 (sz + 22)) [(n, tx n 1 st comp true l 0 (sz + 22))])) := by
  have hk := ho.neg
  have hg := good6 (n := n) (by omega) hk.2
  rw [← hk.1] at hg
  have hs := size6 (n := n) (k := o.1) (d := IntKind.i64.wrap (0 - o.2.1)) (by omega) (by omega) hg
  unfold pledgelaw21_NeedCrash.l2
  show (bif decide ((j : Int) < 20) then (course_Undo (tx n 1 st comp dead (l ++ [(o.1, (o.2.1, ()))]) 0 sz)).bind _ else _) = _
  rw [dec_t (by omega), cond_true]
  refine (bind_of (undo_one (by omega) ho.d1)).trans ?_
  refine (bind_of (capply_undo (back := b) (step := (i : Int)) (tries := (tr : Int)) P (by omega) (by unfold nS at hi; omega) (by omega) (by omega) hg)).trans ?_
  refine (bind_of (apply_undo (by omega) ho.d1 hg hs)).trans ?_
  rw [wrap_i64 (show -9223372036854775808 ≤ sz + 22 by omega) (by omega)]
  show ((rec_Size (recO 6 n o.1 (IntKind.i64.wrap (0 - o.2.1)))).bind _) = _
  refine (bind_of hs).trans ?_
  refine (bind_of (of_one (by omega))).trans ?_
  show some (Sum.inl (((), ((retry : Int), ((), ((), ((), (true, (held, (IntKind.i64.wrap (took + 22), (size, IntKind.i64.wrap ((j : Int) + 1)))))))))), (x, (cr p b (i : Int) tr n, (((), ()), (tx n 1 st comp true l 0 (sz + 22), ([(n, tx n 1 st comp true l 0 (sz + 22))], ()))))))) = _
  rw [wrap_i64 (by omega) (by omega), succ_i64 (by omega)]; rfl
theorem undo_run (P : Pg p) {x : PlayE} {b comp : Bool} {ops : List OpE} {i tr : Nat} {st n held size : Int} (hi : i ≤ nS p) (hn : 0 < n ∧ n < 1000) (hl : ops.length ≤ 6) (ho : ∀ o ∈ ops, OkO o.1 o.2.1) :
    ∀ (d : Nat) (dead : Bool) (took sz : Int) (j : Nat), d ≤ ops.length → j + d ≤ 10 → 0 ≤ took ∧ took + 22 * (d : Int) ≤ 900 → 0 ≤ sz ∧ sz + 22 * (d : Int) ≤ 900 →
    iterL pledgelaw21_NeedCrash.l2 (d + 2) (uV x retry (cr p b (i : Int) tr n) true held took size j (tx n 1 st comp dead (ops.take d) 0 sz) [(n, tx n 1 st comp dead (ops.take d) 0 sz)]) = some (uX x retry (cr p b (i : Int) tr 0) held (took + 22 * (d : Int) + 11) size)
  | 0, dead, took, sz, j, _, hj, ht, hz => by
    have h1 := undo_last (retry := retry) (x := x) (b := b) (comp := comp) (dead := dead) (tr := tr) (st := st) (held := held) (size := size) (sz := sz) P (show j < 20 by omega) hi hn (show 0 ≤ took ∧ took ≤ 1000 by omega)
    refine (iterL_next h1).trans ?_
    rw [show took + 22 * ((0 : Nat) : Int) + 11 = took + 11 by omega]
    exact iterL_done (undo_end (by omega))
  | d + 1, dead, took, sz, j, hd, hj, ht, hz => by
    have hgt : ops[d]? = some (ops[d]'(by omega)) := List.getElem?_eq_getElem (by omega)
    generalize ops[d]'(by omega) = o at hgt
    have htk : ops.take (d + 1) = ops.take d ++ [(o.1, (o.2.1, ()))] := by rw [List.take_add_one, hgt]; rfl
    have h1 := undo_next (retry := retry) (x := x) (b := b) (comp := comp) (dead := dead) (tr := tr) (st := st) (held := held) (size := size) (sz := sz) (l := ops.take d) (o := o) P (show j < 20 by omega) hi hn (show 0 ≤ took ∧ took ≤ 1000 by omega) (by omega) (by rw [List.length_take]; omega) (ho _ (get_mem hgt))
    rw [htk]
    refine (iterL_next h1).trans ?_
    rw [show took + 22 * ((d + 1 : Nat) : Int) + 11 = (took + 22) + 22 * (d : Int) + 11 by omega]
    exact undo_run P hi hn hl ho d true (took + 22) (sz + 22) (j + 1) (by omega) (by omega) (by omega) (by omega)

def szA : AS → Int | .idle _ _ _ => 0 | .opn _ _ _ _ d => 17 + 22 * (d : Int) | .dead _ _ _ m d => 17 + 22 * (m : Int) + 11 + 22 * ((m : Int) - (d : Int))
theorem undo_all (P : Pg p) {x : PlayE} (hr4 : retry ≤ 4) (hW : Wf p retry A) : ∃ (b : Bool) (i tr : Nat) (took : Int),
    iterL pledgelaw21_NeedCrash.l2 20 (uV x retry (cA p A) (okA A) (holdA p retry A) 0 (szA A) 0 (tA p A) (jA p A)) = some (uX x retry (cr p b (i : Int) tr 0) (holdA p retry A) took (szA A)) ∧ i ≤ nS p ∧ tr ≤ retry + 1 ∧ took ≤ holdA p retry A ∧ restV p retry b i tr + attA p ≤ holdA p retry A + szA A ∧ 0 ≤ szA A ∧ szA A ≤ 1000 := by
  obtain ⟨-, -, -, -, a1, a2⟩ := sums P 0
  have hnn := hold_nonneg P hr4 hW
  cases A with
  | idle b i tr =>
    obtain ⟨h1, h2, h3⟩ := hW
    refine ⟨b, i, tr, 0, iterL_mono (n := 1) (iterL_done (undo_end (by omega))) (by omega), h1, h2, hnn.1, ?_, by simp only [szA]; omega, by simp only [szA]; omega⟩
    simp only [holdA, szA, restV]; omega
  | opn b i tr n d =>
    obtain ⟨h1, h2, h3, h4, h5, h6⟩ := hW
    have hf := facts P h1
    have hm := mA_le P h1
    have hb := restV_bnd P hr4 h4 b (bif b then i + 1 else i)
    have hi' : (bif b then i + 1 else i) ≤ nS p := by cases b <;> simp only [cond_true, cond_false] <;> omega
    have hrun := undo_run (retry := retry) (x := x) (b := b) (comp := b) (ops := opsA p b i) (tr := tr) (st := i) (n := n) (held := holdA p retry (.opn b i tr n d)) (size := szA (.opn b i tr n d)) P hi' h3 (by rw [opsA_len]; omega) (opsA_ok P h1) d false 0 (17 + 22 * (d : Int)) 0 (by rw [opsA_len]; exact h2) (by omega) (by omega) (by omega)
    refine ⟨b, bif b then i + 1 else i, tr, _, iterL_mono hrun (by omega), hi', h4, ?_, ?_, by simp only [szA]; omega, by simp only [szA]; omega⟩
    · cases b with
      | true =>
        obtain ⟨s1, s2, s3, s4, s5, s6⟩ := sums P i
        simp only [holdA, cond_true, backV]; omega
      | false =>
        have hw := wV_facts P hr4 h4
        obtain ⟨s1, s2, s3, s4, s5, s6⟩ := sums P (i + 1)
        simp only [holdA, cond_false, fwdV]; omega
    · cases b with
      | true => simp only [holdA, szA, restV, cond_true]; omega
      | false => simp only [holdA, szA, restV, cond_false]; omega
  | dead i tr n m d =>
    obtain ⟨h1, ⟨h2, h2'⟩, h3, h4, h5⟩ := hW
    have hf := facts P h1
    have hm := mA_le P h1
    have hb := restV_bnd P hr4 h5 false i
    have hrun := undo_run (retry := retry) (x := x) (b := false) (comp := false) (ops := opsA p false i) (tr := tr) (st := i) (n := n) (held := holdA p retry (.dead i tr n m d)) (size := szA (.dead i tr n m d)) P (Nat.le_of_lt h1) h3 (by rw [opsA_len]; omega) (opsA_ok P h1) d true 0 (17 + 22 * (m : Int) + 11 + 22 * ((m : Int) - (d : Int))) 0 (by rw [opsA_len]; omega) (by omega) (by omega) (by omega)
    refine ⟨false, i, tr, _, iterL_mono hrun (by omega), Nat.le_of_lt h1, h5, ?_, ?_, by simp only [szA]; omega, by simp only [szA]; omega⟩
    · simp only [restV, cond_false] at hb
      simp only [holdA]; omega
    · simp only [holdA, szA, restV, cond_false]; omega
theorem size_A : (tA p A).2.2.2.2.2.2.2.1 = szA A := by cases A <;> rfl

theorem crash (p : Prg) (q : Int) (ks : List Bool) (n : Int) (hw : WfE kProgram p) (hq0 : 0 ≤ q ∧ q < 256) (hn0 : 0 ≤ n ∧ n < 256) : pledgelaw21_NeedCrash (p, (q, (ks, ()))) n = some true := by
  obtain ⟨retry, hr4, hq⟩ := tmod5 hq0
  obtain ⟨n, rfl⟩ : ∃ m : Nat, n = (m : Int) := ⟨n.toNat, by omega⟩
  unfold pledgelaw21_NeedCrash
  rcases few13_cases p hw with e | ⟨e, hf, hT0, hT, hT1⟩
  · exact (bind_of e).trans (by rw [works21]; rfl)
  refine (bind_of e).trans ?_
  show (bif decide ((ks.length : Int) > 60) then _ else _) = _
  rw [works21]
  by_cases h60 : (ks.length : Int) > 60
  · rw [dec_t h60]; rfl
  rw [dec_f h60, cond_false]
  refine (bind_of (refGoodP_val 4 4 p hf)).trans ?_
  cases hg : goodP 4 4 p with
  | false => rfl
  | true =>
    have P : Pg p := ⟨hf, hg⟩
    obtain ⟨hz, s1, s2⟩ := sizeS_val P hT
    have hst := startN_val P hr4 hT
    obtain ⟨A, hW, g1⟩ := crash_run P (q := q) (ks := ks) (n := n) hr4 (by omega) 257 0 (.idle false 0 0) (by omega) ⟨Nat.zero_le _, by omega, fun q => by cases q⟩
    obtain ⟨b, i, tr, took, u1, u2, u3, u4, u5, u6, u7⟩ := undo_all (x := (p, (q, (ks, ())))) P hr4 hW
    have hnn := hold_nonneg P hr4 hW
    have hb := restV_bnd P hr4 u3 b i
    obtain ⟨-, -, -, -, a1, a2⟩ := sums P 0
    refine (bind_of (start_val P)).trans ?_
    refine (bind_of new_val).trans ?_
    rw [hq]
    refine (bind_of (iterL_mono (m := loopN) g1 (by rw [loopN_eq]; omega))).trans ?_
    refine (bind_of (of_A P hW)).trans ?_
    refine (bind_of (hold_val P hr4 hW)).trans ?_
    rw [show (((tA p A, (okA A, ())), jOf (jA p A)).1.1.2.2.2.2.2.2.2.1 : Int) = szA A from size_A]
    refine (bind_of (iterL_mono (m := loopN) u1 (by rw [loopN_eq]; omega))).trans ?_
    show ((need_Hold (cr p b (i : Int) tr 0) txZ (retry : Int)).bind _) = _
    refine (bind_of (hold_idle P hr4 u2 u3 txZ)).trans ?_
    show (bif decide (took ≤ holdA p retry A) then bif decide (restV p retry b i tr + attA p ≤ IntKind.i64.wrap (holdA p retry A + szA A)) then (need_Start p (retry : Int)).bind _ else _ else _) = _
    rw [dec_t u4, wrap_i64 (by omega) (by omega), dec_t u5, cond_true, cond_true]
    refine (bind_of hst).trans ?_
    show (bif decide (restV p retry b i tr + attA p ≤ sizeS p + (fwdV p retry 0 0 + attA p)) then _ else _) = _
    rw [dec_t (by omega)]; rfl
end
theorem NeedCrash (x : El kPlay) (n : Int) (h : WfE kPlay x) (hn : WfE (.int .u8) n) : pledgelaw21_NeedCrash x n = some true := crash x.1 x.2.1 x.2.2.1 n h.1 (wf_u8 h.2.1) (wf_u8 hn)
end Go.Proofs.Pure
