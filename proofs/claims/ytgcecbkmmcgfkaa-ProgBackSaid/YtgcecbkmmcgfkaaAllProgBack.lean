/- What is encoded is decoded as it was, and what is decoded is encoded so: the plain law and all that it leans on. -/
import Derived.Test.YtgcecbkmmcgfkaaFnPby
import Derived.Test.YtgcecbkmmcgfkaaPLib
import Derived.Test.YtgcecbkmmcgfkaaDOpen
set_option linter.unusedVariables false
set_option linter.unusedSimpArgs false
set_option maxRecDepth 100000

/- Programs: which may be, which are the same (texts of P in one). -/

/- Lists of lines, of takes: which are the same. -/
namespace Go.Proofs.Pure
open Go.Proofs.D Go.Proofs.F

abbrev Ln := Int × Int × Unit
abbrev Stp := Int × Int × List Ln × Unit
def ln0 : Ln := (0, (0, ()))
def at0 (l : List Ln) (i : Nat) : Ln := l.getD i ln0
theorem at_get {l : List Ln} {i : Nat} (h : i < l.length) : l[i]? = some (at0 l i) := by
  unfold at0; rw [List.getD_eq_getElem?_getD, List.getElem?_eq_getElem h]; rfl

def sameL (x y : List Ln) : Bool := (x.length == y.length) && allFrom (fun i => eqE kLine (at0 x i) (at0 y i)) 0 x.length

theorem equal_val (x y : List Ln) (hx : x.length < 1000) : slices_Equal_api_Line_api_Line x y = some (sameL x y) := by
  unfold slices_Equal_api_Line_api_Line sameL
  by_cases h : x.length = y.length
  · have e : (((x.length : Int) : Int) != (y.length : Int)) = false := by simp [h]
    rw [e]
    simp only [cond_false]
    have := loop_all (step := slices_Equal_api_Line_api_Line.l1) (fun i => (x, (y, ((x.length : Int), (i : Int))))) (fun i => eqE kLine (at0 x i) (at0 y i)) (.inl ()) (.inr false) x.length (by omega) (fun i hi => by
      unfold slices_Equal_api_Line_api_Line.l1
      simp only [dec_t (show (i : Int) < (x.length : Int) by omega), cond_true]
      rw [nthK_get (at_get hi), nthK_get (at_get (by omega : i < y.length))]
      cases eqE kLine (at0 x i) (at0 y i) with
      | true => simp only [Bool.not_true, cond_false, cond_true]; rw [succ_i64 (by omega)]
      | false => rfl) (by
      unfold slices_Equal_api_Line_api_Line.l1
      simp only [dec_f (show ¬ (x.length : Int) < (x.length : Int) by omega), cond_false])
    rw [show (((0 : Nat) : Int)) = 0 from rfl] at this
    rw [this, Option.bind_some]
    rw [show (x.length == y.length) = true by simp [h], Bool.true_and]
    cases allFrom (fun i => eqE kLine (at0 x i) (at0 y i)) 0 x.length <;> rfl
  · have e : (((x.length : Int) : Int) != (y.length : Int)) = true := by simp; omega
    rw [e, show (x.length == y.length) = false by simp [h]]
    rfl

theorem ref_equal_val (x y : List Ln) (hx : x.length < 1000) : pledgeref12_SameLines x y = some (sameL x y) := by
  unfold pledgeref12_SameLines sameL
  by_cases h : x.length = y.length
  · have e : (((x.length : Int) : Int) != (y.length : Int)) = false := by simp [h]
    rw [e]
    simp only [cond_false]
    have := loop_all (step := pledgeref12_SameLines.l1) (fun i => (x, (y, (i : Int)))) (fun i => eqE kLine (at0 x i) (at0 y i)) (.inl ()) (.inr false) x.length (by omega) (fun i hi => by
      unfold pledgeref12_SameLines.l1
      simp only [dec_t (show (i : Int) < (x.length : Int) by omega), cond_true]
      rw [nthK_get (at_get hi), nthK_get (at_get (by omega : i < y.length))]
      cases eqE kLine (at0 x i) (at0 y i) with
      | true => simp only [Bool.not_true, cond_false, cond_true]; rw [succ_i64 (by omega)]
      | false => rfl) (by
      unfold pledgeref12_SameLines.l1
      simp only [dec_f (show ¬ (x.length : Int) < (x.length : Int) by omega), cond_false])
    rw [show (((0 : Nat) : Int)) = 0 from rfl] at this
    rw [this, Option.bind_some]
    rw [show (x.length == y.length) = true by simp [h], Bool.true_and]
    cases allFrom (fun i => eqE kLine (at0 x i) (at0 y i)) 0 x.length <;> rfl
  · have e : (((x.length : Int) : Int) != (y.length : Int)) = true := by simp; omega
    rw [e, show (x.length == y.length) = false by simp [h]]
    rfl

theorem eqLine_refl (a : Ln) : eqE kLine a a = true := by
  show ((a.1 == a.1) && ((a.2.1 == a.2.1) && true)) = true
  simp

theorem sameL_refl (x : List Ln) : sameL x x = true := by
  unfold sameL
  rw [show (x.length == x.length) = true by simp, Bool.true_and, allFrom_iff]
  exact fun j _ _ => eqLine_refl _


abbrev Tk := Int × Int × Int × Int × Unit
def tk0 : Tk := (0, (0, (0, (0, ()))))
def at1 (l : List Tk) (i : Nat) : Tk := l.getD i tk0
theorem at1_get {l : List Tk} {i : Nat} (h : i < l.length) : l[i]? = some (at1 l i) := by
  unfold at1; rw [List.getD_eq_getElem?_getD, List.getElem?_eq_getElem h]; rfl

def sameT (x y : List Tk) : Bool := (x.length == y.length) && allFrom (fun i => eqE kTake (at1 x i) (at1 y i)) 0 x.length

theorem equalT_val (x y : List Tk) (hx : x.length < 1000) : slices_Equal_api_Take_api_Take x y = some (sameT x y) := by
  unfold slices_Equal_api_Take_api_Take sameT
  by_cases h : x.length = y.length
  · have e : (((x.length : Int) : Int) != (y.length : Int)) = false := by simp [h]
    rw [e]
    simp only [cond_false]
    have := loop_all (step := slices_Equal_api_Take_api_Take.l1) (fun i => (x, (y, ((x.length : Int), (i : Int))))) (fun i => eqE kTake (at1 x i) (at1 y i)) (.inl ()) (.inr false) x.length (by omega) (fun i hi => by
      unfold slices_Equal_api_Take_api_Take.l1
      simp only [dec_t (show (i : Int) < (x.length : Int) by omega), cond_true]
      rw [nthK_get (at1_get hi), nthK_get (at1_get (by omega : i < y.length))]
      cases eqE kTake (at1 x i) (at1 y i) with
      | true => simp only [Bool.not_true, cond_false, cond_true]; rw [succ_i64 (by omega)]
      | false => rfl) (by
      unfold slices_Equal_api_Take_api_Take.l1
      simp only [dec_f (show ¬ (x.length : Int) < (x.length : Int) by omega), cond_false])
    rw [show (((0 : Nat) : Int)) = 0 from rfl] at this
    rw [this, Option.bind_some]
    rw [show (x.length == y.length) = true by simp [h], Bool.true_and]
    cases allFrom (fun i => eqE kTake (at1 x i) (at1 y i)) 0 x.length <;> rfl
  · have e : (((x.length : Int) : Int) != (y.length : Int)) = true := by simp; omega
    rw [e, show (x.length == y.length) = false by simp [h]]
    rfl

theorem ref_equalT_val (x y : List Tk) (hx : x.length < 1000) : pledgeref13_SameTakes x y = some (sameT x y) := by
  unfold pledgeref13_SameTakes sameT
  by_cases h : x.length = y.length
  · have e : (((x.length : Int) : Int) != (y.length : Int)) = false := by simp [h]
    rw [e]
    simp only [cond_false]
    have := loop_all (step := pledgeref13_SameTakes.l1) (fun i => (x, (y, (i : Int)))) (fun i => eqE kTake (at1 x i) (at1 y i)) (.inl ()) (.inr false) x.length (by omega) (fun i hi => by
      unfold pledgeref13_SameTakes.l1
      simp only [dec_t (show (i : Int) < (x.length : Int) by omega), cond_true]
      rw [nthK_get (at1_get hi), nthK_get (at1_get (by omega : i < y.length))]
      cases eqE kTake (at1 x i) (at1 y i) with
      | true => simp only [Bool.not_true, cond_false, cond_true]; rw [succ_i64 (by omega)]
      | false => rfl) (by
      unfold pledgeref13_SameTakes.l1
      simp only [dec_f (show ¬ (x.length : Int) < (x.length : Int) by omega), cond_false])
    rw [show (((0 : Nat) : Int)) = 0 from rfl] at this
    rw [this, Option.bind_some]
    rw [show (x.length == y.length) = true by simp [h], Bool.true_and]
    cases allFrom (fun i => eqE kTake (at1 x i) (at1 y i)) 0 x.length <;> rfl
  · have e : (((x.length : Int) : Int) != (y.length : Int)) = true := by simp; omega
    rw [e, show (x.length == y.length) = false by simp [h]]
    rfl

theorem eqTake_refl (a : Tk) : eqE kTake a a = true := by
  show ((a.1 == a.1) && ((a.2.1 == a.2.1) && ((a.2.2.1 == a.2.2.1) && ((a.2.2.2.1 == a.2.2.2.1) && true)))) = true
  simp

theorem sameT_refl (x : List Tk) : sameT x x = true := by
  unfold sameT
  rw [show (x.length == x.length) = true by simp, Bool.true_and, allFrom_iff]
  exact fun j _ _ => eqTake_refl _

end Go.Proofs.Pure

/- Lines, takes: which may be. -/
namespace Go.Proofs.Pure
open Go.Proofs.D Go.Proofs.F

abbrev Prg := Int × Int × Int × List Ln × List Tk × List Ln × Int × Int × Int × Int × Unit

theorem wfL {l : List Ln} (h : ∀ x ∈ l, WfE kLine x) {i : Nat} (hi : i < l.length) : (0 ≤ (at0 l i).1 ∧ (at0 l i).1 < 256) ∧ -9223372036854775808 ≤ (at0 l i).2.1 ∧ (at0 l i).2.1 < 9223372036854775808 := by
  have := h (at0 l i) (get_mem (at_get hi))
  exact ⟨wf_u8 this.1, wf_i64 this.2.1⟩
theorem wfT {l : List Tk} (h : ∀ x ∈ l, WfE kTake x) {i : Nat} (hi : i < l.length) : (0 ≤ (at1 l i).2.1 ∧ (at1 l i).2.1 < 256) ∧ (0 ≤ (at1 l i).2.2.1 ∧ (at1 l i).2.2.1 < 256) ∧ -9223372036854775808 ≤ (at1 l i).2.2.2.1 ∧ (at1 l i).2.2.2.1 < 9223372036854775808 := by
  have := h (at1 l i) (get_mem (at1_get hi))
  exact ⟨wf_u8 this.2.1, wf_u8 this.2.2.1, wf_i64 this.2.2.2.1⟩

/-! ### Lines -/
def lineR (s : Int) (l : List Ln) (i : Nat) : Bool := !decide ((at0 l i).1 ≥ s) && (!decide ((at0 l i).2.1 < 1) && (Nat.beq i 0 || !decide ((at0 l (i - 1)).1 ≥ (at0 l i).1)))
def linesB (s : Int) (l : List Ln) : Bool := allFrom (lineR s l) 0 l.length && decide ((l.length : Int) ≤ 3)

def lineBody {R : Type} (g : Int → Int) (l : List Ln) (s i : Int) (no yes : Option R) : Option R :=
  nthK l i fun e => bif decide (g e.1 ≥ s) then no else bif decide (e.2.1 < 1) then no else bif decide (i > 0) then nthK l (IntKind.i64.wrap (i - 1)) fun e' => bif decide (e'.1 ≥ e.1) then no else yes else yes

theorem lineBody_val {R : Type} (g : Int → Int) (l : List Ln) (s : Int) (i : Nat) (no yes : Option R) (hi : i < l.length) (hl : l.length < 1000) (hg : g (at0 l i).1 = (at0 l i).1) : lineBody g l s i no yes = bif lineR s l i then yes else no := by
  unfold lineBody lineR
  rw [nthK_get (at_get hi), hg]
  cases decide ((at0 l i).1 ≥ s) with
  | true => rfl
  | false =>
    cases decide ((at0 l i).2.1 < 1) with
    | true => rfl
    | false =>
      cases i with
      | zero => rfl
      | succ i =>
        rw [dec_t (by omega : ((i + 1 : Nat) : Int) > 0), pred_i64 (by omega)]
        simp only [cond_true, cond_false]
        rw [nthK_get (at_get (by omega : i < l.length)), show Nat.beq (i + 1) 0 = false from rfl, Nat.add_sub_cancel]
        cases decide ((at0 l i).1 ≥ (at0 l (i + 1)).1) <;> rfl

theorem wrapL {l : List Ln} (h : ∀ x ∈ l, WfE kLine x) {i : Nat} (hi : i < l.length) : IntKind.i64.wrap (at0 l i).1 = (at0 l i).1 := by
  have := wfL h hi
  exact wrap_i64 (by omega) (by omega)

theorem progLines_val (s : Int) (l : List Ln) (hl : l.length < 1000) (hw : ∀ x ∈ l, WfE kLine x) : prog_lines s l = some (linesB s l) := by
  unfold prog_lines linesB
  have := loop_all (step := prog_lines.l1) (fun i => (s, (l, (l, ((l.length : Int), (i : Int)))))) (lineR s l) (.inl l) (.inr false) l.length (by omega) (fun i hi => by
    have e : prog_lines.l1 (s, (l, (l, ((l.length : Int), (i : Int))))) = bif decide ((i : Int) < (l.length : Int)) then lineBody IntKind.i64.wrap l s i (some (.inr (.inr false))) (some (.inl (s, (l, (l, ((l.length : Int), IntKind.i64.wrap ((i : Int) + 1))))))) else some (.inr (.inl l)) := rfl
    rw [e, dec_t (show (i : Int) < (l.length : Int) by omega), lineBody_val _ l s i _ _ hi hl (wrapL hw hi), succ_i64 (by omega)]
    rfl) (by
    unfold prog_lines.l1
    simp only [dec_f (show ¬ (l.length : Int) < (l.length : Int) by omega), cond_false])
  rw [show (((0 : Nat) : Int)) = 0 from rfl] at this
  rw [this, Option.bind_some]
  cases allFrom (lineR s l) 0 l.length <;> rfl

theorem refLines_val (s : Int) (l : List Ln) (hl : l.length < 1000) (hw : ∀ x ∈ l, WfE kLine x) : pledgeref12_Lines s l = some (linesB s l) := by
  unfold pledgeref12_Lines linesB
  have := loop_all (step := pledgeref12_Lines.l1) (fun i => (s, (l, (i : Int)))) (lineR s l) (.inl l) (.inr false) l.length (by omega) (fun i hi => by
    unfold pledgeref12_Lines.l1
    simp only [dec_t (show (i : Int) < (l.length : Int) by omega), cond_true]
    have e : ∀ (no yes : Option ((Int × List Ln × Int) ⊕ (List Ln ⊕ Bool))), (nthK l (i : Int) fun e6 => bif decide ((IntKind.i64.wrap e6.1) ≥ s) then no else nthK l (i : Int) fun e7 => bif decide (e7.2.1 < 1) then no else bif decide ((i : Int) > 0) then nthK l (IntKind.i64.wrap ((i : Int) - 1)) fun e8 => nthK l (i : Int) fun e9 => bif decide (e8.1 ≥ e9.1) then no else yes else yes) = lineBody IntKind.i64.wrap l s i no yes := by
      intro no yes
      unfold lineBody
      rw [nthK_get (at_get hi), nthK_get (at_get hi), nthK_get (at_get hi)]
      congr 1
      congr 1
      cases i with
      | zero => rfl
      | succ i =>
        rw [dec_t (by omega : ((i + 1 : Nat) : Int) > 0), pred_i64 (by omega)]
        simp only [cond_true]
        rw [nthK_get (at_get (by omega : i < l.length)), nthK_get (at_get (by omega : i < l.length)), nthK_get (at_get hi)]
    rw [e, lineBody_val _ l s i _ _ hi hl (wrapL hw hi), succ_i64 (by omega)]) (by
    unfold pledgeref12_Lines.l1
    simp only [dec_f (show ¬ (l.length : Int) < (l.length : Int) by omega), cond_false])
  rw [show (((0 : Nat) : Int)) = 0 from rfl] at this
  rw [this, Option.bind_some]
  cases allFrom (lineR s l) 0 l.length <;> rfl

/-! ### Takes -/
def tkBase (s w id : Int) (x : Tk) : Bool := !(x.1 != id) && (!decide (x.2.1 ≥ s) && (!decide (x.2.2.1 ≥ w) && !decide (x.2.2.2.1 < 1)))
def tkPrev (y x : Tk) : Bool := !decide (y.2.2.1 > x.2.2.1) && !((y.2.2.1 == x.2.2.1) && decide (y.2.1 ≥ x.2.1))
def takeQ (s w id : Int) (l : List Tk) (i : Nat) : Bool := tkBase s w id (at1 l i) && (Nat.beq i 0 || tkPrev (at1 l (i - 1)) (at1 l i))
def takeR (s w id : Int) (l : List Tk) (i : Nat) : Bool := takeQ s w id l i && (Nat.ble i 2 || !((at1 l (i - 3)).2.2.1 == (at1 l i).2.2.1))
def takesB (s w id : Int) (l : List Tk) : Bool := allFrom (takeR s w id l) 0 l.length && decide ((l.length : Int) ≤ 12)

theorem wrapT {l : List Tk} (h : ∀ x ∈ l, WfE kTake x) {i : Nat} (hi : i < l.length) : IntKind.i64.wrap (at1 l i).2.1 = (at1 l i).2.1 ∧ IntKind.i64.wrap (at1 l i).2.2.1 = (at1 l i).2.2.1 := by
  have := wfT h hi
  exact ⟨wrap_i64 (by omega) (by omega), wrap_i64 (by omega) (by omega)⟩

theorem progTakes_val (s w : Int) (p : Prg) (hl : p.2.2.2.2.1.length < 1000) (hw : ∀ x ∈ p.2.2.2.2.1, WfE kTake x) : prog_takes s w p = some (takesB s w p.2.1 p.2.2.2.2.1) := by
  obtain ⟨kind, id, pol, lines, l, owes, rest⟩ := p
  simp only at hl hw ⊢
  unfold prog_takes takesB
  have := loop_all (step := prog_takes.l1) (fun i => ((s, (w, ((), (l, ((l.length : Int), (i : Int)))))), ((kind, id, pol, lines, l, owes, rest), ()))) (takeR s w id l) (.inl ((), ((kind, id, pol, lines, l, owes, rest), ()))) (.inr false) l.length (by omega) (fun i hi => by
    obtain ⟨w1, w2⟩ := wrapT hw hi
    unfold prog_takes.l1 takeR takeQ tkBase
    simp only [dec_t (show (i : Int) < (l.length : Int) by omega), cond_true]
    have w3 := succ_i64 (show i < 9223372036854775807 by omega)
    rw [nthK_get (at1_get hi), w1, w2]
    cases ((at1 l i).1 != id) with
    | true => rfl
    | false =>
      cases decide ((at1 l i).2.1 ≥ s) with
      | true => rfl
      | false =>
        cases decide ((at1 l i).2.2.1 ≥ w) with
        | true => rfl
        | false =>
          cases decide ((at1 l i).2.2.2.1 < 1) with
          | true => rfl
          | false =>
            simp only [cond_false, Bool.not_false, Bool.true_and]
            -- the one ahead
            have prev : ∀ (no yes : Option (((Int × Int × Unit × List Tk × Int × Int) × Prg × Unit) ⊕ ((Unit × Prg × Unit) ⊕ Bool))), (bif decide ((i : Int) > 0) then nthK l (IntKind.i64.wrap ((i : Int) - 1)) fun e33 => bif decide (e33.2.2.1 > (at1 l i).2.2.1) then no else nthK l (IntKind.i64.wrap ((i : Int) - 1)) fun e34 => bif e34.2.2.1 == (at1 l i).2.2.1 then nthK l (IntKind.i64.wrap ((i : Int) - 1)) fun e35 => bif decide (e35.2.1 ≥ (at1 l i).2.1) then no else yes else yes else yes) =
                bif (Nat.beq i 0 || tkPrev (at1 l (i - 1)) (at1 l i)) then yes else no := by
              intro no yes
              cases i with
              | zero => rfl
              | succ i =>
                rw [dec_t (by omega : ((i + 1 : Nat) : Int) > 0), pred_i64 (by omega)]
                have hi' := at1_get (by omega : i < l.length)
                simp only [cond_true]
                rw [nthK_get hi', nthK_get hi', nthK_get hi', show Nat.beq (i + 1) 0 = false from rfl, Nat.add_sub_cancel]
                unfold tkPrev
                cases decide ((at1 l i).2.2.1 > (at1 l (i + 1)).2.2.1) <;> cases ((at1 l i).2.2.1 == (at1 l (i + 1)).2.2.1) <;> cases decide ((at1 l i).2.1 ≥ (at1 l (i + 1)).2.1) <;> rfl
            by_cases h3 : i ≤ 2
            · rw [dec_f (by omega : ¬ (i : Int) ≥ 3), Nat.ble_eq_true_of_le h3]
              simp only [cond_false, Option.bind_some, w3]
              rw [prev]
              cases (Nat.beq i 0 || tkPrev (at1 l (i - 1)) (at1 l i)) <;> rfl
            · have hw3 : IntKind.i64.wrap ((i : Int) - 3) = ((i - 3 : Nat) : Int) := by rw [wrap_i64 (by omega) (by omega)]; omega
              have hb : Nat.ble i 2 = false := by cases hq : Nat.ble i 2 with
                | false => rfl
                | true => exact absurd (Nat.le_of_ble_eq_true hq) h3
              rw [dec_t (by omega : (i : Int) ≥ 3), hw3, hb]
              simp only [cond_true]
              rw [nthK_get (at1_get (by omega : i - 3 < l.length))]
              cases ((at1 l (i - 3)).2.2.1 == (at1 l i).2.2.1) with
              | true => simp only [cond_true, Option.bind_some]; cases (Nat.beq i 0 || tkPrev (at1 l (i - 1)) (at1 l i)) <;> rfl
              | false =>
                simp only [cond_false, Option.bind_some, w3]
                rw [prev]
                cases (Nat.beq i 0 || tkPrev (at1 l (i - 1)) (at1 l i)) <;> rfl) (by
    unfold prog_takes.l1
    simp only [dec_f (show ¬ (l.length : Int) < (l.length : Int) by omega), cond_false])
  rw [show (((0 : Nat) : Int)) = 0 from rfl] at this
  rw [this, Option.bind_some]
  cases allFrom (takeR s w id l) 0 l.length <;> rfl

theorem refTakes_val (s w : Int) (p : Prg) (hl : p.2.2.2.2.1.length < 1000) (hw : ∀ x ∈ p.2.2.2.2.1, WfE kTake x) : pledgeref13_takes s w p = some (takesB s w p.2.1 p.2.2.2.2.1) := by
  obtain ⟨kind, id, pol, lines, l, owes, rest⟩ := p
  simp only at hl hw ⊢
  unfold pledgeref13_takes takesB
  have := loop_all (step := pledgeref13_takes.l1) (fun i => ((s, (w, ((), (l, (i : Int))))), ((kind, id, pol, lines, l, owes, rest), ()))) (takeR s w id l) (.inl l) (.inr false) l.length (by omega) (fun i hi => by
    obtain ⟨w1, w2⟩ := wrapT hw hi
    have hg := at1_get hi
    unfold pledgeref13_takes.l1 takeR takeQ tkBase
    simp only [dec_t (show (i : Int) < (l.length : Int) by omega), cond_true]
    have w3 := succ_i64 (show i < 9223372036854775807 by omega)
    rw [nthK_get hg, nthK_get hg, nthK_get hg, nthK_get hg, w1, w2]
    cases ((at1 l i).1 != id) with
    | true => rfl
    | false =>
      cases decide ((at1 l i).2.1 ≥ s) with
      | true => rfl
      | false =>
        cases decide ((at1 l i).2.2.1 ≥ w) with
        | true => rfl
        | false =>
          cases decide ((at1 l i).2.2.2.1 < 1) with
          | true => rfl
          | false =>
            simp only [cond_false, Bool.not_false, Bool.true_and]
            -- the one ahead
            have prev : ∀ (R : Type) (no yes : Option R), (bif decide ((i : Int) > 0) then nthK l (IntKind.i64.wrap ((i : Int) - 1)) fun e43 => nthK l (i : Int) fun e44 => bif decide (e43.2.2.1 > e44.2.2.1) then no else nthK l (IntKind.i64.wrap ((i : Int) - 1)) fun e45 => nthK l (i : Int) fun e46 => bif e45.2.2.1 == e46.2.2.1 then nthK l (IntKind.i64.wrap ((i : Int) - 1)) fun e47 => nthK l (i : Int) fun e48 => bif decide (e47.2.1 ≥ e48.2.1) then no else yes else yes else yes) =
                bif (Nat.beq i 0 || tkPrev (at1 l (i - 1)) (at1 l i)) then yes else no := by
              intro R no yes
              cases i with
              | zero => rfl
              | succ i =>
                rw [dec_t (by omega : ((i + 1 : Nat) : Int) > 0), pred_i64 (by omega)]
                have hi' := at1_get (by omega : i < l.length)
                simp only [cond_true]
                rw [nthK_get hi', nthK_get hg, nthK_get hi', nthK_get hg, nthK_get hi', nthK_get hg, show Nat.beq (i + 1) 0 = false from rfl, Nat.add_sub_cancel]
                unfold tkPrev
                cases decide ((at1 l i).2.2.1 > (at1 l (i + 1)).2.2.1) <;> cases ((at1 l i).2.2.1 == (at1 l (i + 1)).2.2.1) <;> cases decide ((at1 l i).2.1 ≥ (at1 l (i + 1)).2.1) <;> rfl
            rw [prev]
            cases (Nat.beq i 0 || tkPrev (at1 l (i - 1)) (at1 l i)) with
            | false => rfl
            | true =>
              simp only [cond_true, Option.bind_some, Bool.true_and]
              by_cases h3 : i ≤ 2
              · rw [dec_f (by omega : ¬ (i : Int) ≥ 3), Nat.ble_eq_true_of_le h3]
                simp only [cond_false, w3, Bool.true_or, cond_true]
              · have hw3 : IntKind.i64.wrap ((i : Int) - 3) = ((i - 3 : Nat) : Int) := by rw [wrap_i64 (by omega) (by omega)]; omega
                have hb : Nat.ble i 2 = false := by cases hq : Nat.ble i 2 with
                  | false => rfl
                  | true => exact absurd (Nat.le_of_ble_eq_true hq) h3
                rw [dec_t (by omega : (i : Int) ≥ 3), hw3, hb]
                simp only [cond_true]
                rw [nthK_get (at1_get (by omega : i - 3 < l.length)), nthK_get hg, w3]
                cases ((at1 l (i - 3)).2.2.1 == (at1 l i).2.2.1) <;> rfl) (by
    unfold pledgeref13_takes.l1
    simp only [dec_f (show ¬ (l.length : Int) < (l.length : Int) by omega), cond_false])
  rw [show (((0 : Nat) : Int)) = 0 from rfl] at this
  rw [this, Option.bind_some]
  cases allFrom (takeR s w id l) 0 l.length <;> rfl
end Go.Proofs.Pure

/- What calc.Sum answers. -/
namespace Go.Proofs.Pure
open Go.Proofs.D Go.Proofs.F

def total : List Int → Int | [] => 0 | x :: l => x + total l
theorem total_append : ∀ (a b : List Int), total (a ++ b) = total a + total b
  | [], b => by simp [total]
  | x :: a, b => by simp only [List.cons_append, total, total_append a b]; omega

theorem wrap_u64 (n : Int) : IntKind.u64.wrap n = n % 18446744073709551616 := by
  simp only [IntKind.wrap, IntKind.bits, IntKind.signed, Bool.false_and, Bool.false_eq_true, if_false, show (2 : Int) ^ 64 = 18446744073709551616 by decide]

theorem add64_val {a b c : Int} (ha : 0 ≤ a) (hb : 0 ≤ b) (hc : c = 0 ∨ c = 1) : add64 a b c = some ((a + b + c) % 18446744073709551616, ((a + b + c) / 18446744073709551616, ())) := by
  obtain ⟨a, rfl⟩ := Int.eq_ofNat_of_zero_le ha
  obtain ⟨b, rfl⟩ := Int.eq_ofNat_of_zero_le hb
  rcases hc with e | e <;> subst e <;> rfl

theorem fdiv63 {e : Int} (h1 : -9223372036854775808 ≤ e) (h2 : e < 9223372036854775808) : Int.fdiv e (2 ^ 63) = if e < 0 then -1 else 0 := by
  rw [show (2 : Int) ^ 63 = 9223372036854775808 by decide, Int.fdiv_eq_ediv_of_nonneg _ (by omega)]
  split <;> omega

/-- One number more, in two halves. -/
theorem sum_step {s e : Int} (h1 : -9223372036854775808 ≤ e) (h2 : e < 9223372036854775808) :
    ((s % 18446744073709551616 + e % 18446744073709551616 + 0) % 18446744073709551616 = (s + e) % 18446744073709551616) ∧
    (((s / 18446744073709551616) % 18446744073709551616 + (if e < 0 then -1 else 0) % 18446744073709551616 + (s % 18446744073709551616 + e % 18446744073709551616 + 0) / 18446744073709551616) % 18446744073709551616 = ((s + e) / 18446744073709551616) % 18446744073709551616) ∧
    ((s % 18446744073709551616 + e % 18446744073709551616 + 0) / 18446744073709551616 = 0 ∨ (s % 18446744073709551616 + e % 18446744073709551616 + 0) / 18446744073709551616 = 1) := by
  split <;> omega

theorem sum_loop (l : List Int) (hl : l.length < 9223372036854775807) (hx : ∀ x ∈ l, -9223372036854775808 ≤ x ∧ x < 9223372036854775808) : ∀ (k j : Nat), j + k = l.length →
    iterL calc_Sum.l1 (k + 1) ((total (l.take j) / 18446744073709551616) % 18446744073709551616, (total (l.take j) % 18446744073709551616, (l, ((l.length : Int), (j : Int))))) =
      some ((total l / 18446744073709551616) % 18446744073709551616, total l % 18446744073709551616)
  | 0, j, h => by
    have e : l.take j = l := List.take_of_length_le (by omega)
    rw [e]
    refine iterL_done ?_
    unfold calc_Sum.l1
    simp only [dec_f (show ¬ (j : Int) < (l.length : Int) by omega), cond_false]
  | k + 1, j, h => by
    have hj : j < l.length := by omega
    have hget : l[j]? = some l[j] := List.getElem?_eq_getElem hj
    obtain ⟨b1, b2⟩ := hx l[j] (List.getElem_mem hj)
    have htake : total (l.take (j + 1)) = total (l.take j) + l[j] := by
      rw [List.take_add_one, hget, total_append]; simp [total]
    obtain ⟨s1, s2, s3⟩ := sum_step (s := total (l.take j)) b1 b2
    have hstep : calc_Sum.l1 ((total (l.take j) / 18446744073709551616) % 18446744073709551616, (total (l.take j) % 18446744073709551616, (l, ((l.length : Int), (j : Int))))) =
        some (.inl ((total (l.take (j + 1)) / 18446744073709551616) % 18446744073709551616, (total (l.take (j + 1)) % 18446744073709551616, (l, ((l.length : Int), ((j + 1 : Nat) : Int)))))) := by
      unfold calc_Sum.l1
      simp only [dec_t (show (j : Int) < (l.length : Int) by omega), cond_true]
      rw [nthK_get hget, fdiv63 b1 b2, wrap_u64, wrap_u64, add64_val (by omega) (by omega) (.inl rfl), Option.bind_some]
      simp only []
      rw [add64_val (by omega) (by omega) s3, Option.bind_some, succ_i64 (by omega), s1, s2, htake]
    rw [iterL_next hstep]
    exact sum_loop l hl hx k (j + 1) (by omega)

/-- All numbers together, if that fits. -/
theorem sum_val (l : List Int) (hl : l.length < 4611686018427387904) (hx : ∀ x ∈ l, -9223372036854775808 ≤ x ∧ x < 9223372036854775808) (h1 : -9223372036854775808 ≤ total l) (h2 : total l < 9223372036854775808) : calc_Sum l = some (total l, (true, ())) := by
  unfold calc_Sum
  have := iterL_mono (sum_loop l (by omega) hx l.length 0 (by omega)) (m := loopN) (by rw [loopN_eq]; omega)
  simp only [List.take_zero, total, show (0 : Int) / 18446744073709551616 % 18446744073709551616 = 0 by decide, show (0 : Int) % 18446744073709551616 = 0 by decide] at this
  rw [show (((0 : Nat) : Int)) = 0 from rfl] at this
  rw [this, Option.bind_some]
  have hw : IntKind.i64.wrap (total l % 18446744073709551616) = total l := by
    unfold IntKind.wrap
    simp only [IntKind.bits, IntKind.signed, Bool.true_and, decide_eq_true_eq, show (2 : Int) ^ 64 = 18446744073709551616 by decide, show (2 : Int) ^ (64 - 1) = 9223372036854775808 by decide]
    split <;> omega
  simp only [hw]
  rw [fdiv63 h1 h2, wrap_u64]
  have : (((if total l < 0 then -1 else 0 : Int) % 18446744073709551616 : Int) == total l / 18446744073709551616 % 18446744073709551616) = true := by
    rw [beq_iff_eq]
    split <;> omega
  rw [this]
  rfl

theorem total_bound : ∀ (l : List Int), (∀ x ∈ l, -9223372036854775808 ≤ x ∧ x < 9223372036854775808) → -9223372036854775808 * (l.length : Int) ≤ total l ∧ total l ≤ 9223372036854775808 * (l.length : Int)
  | [], _ => by simp [total]
  | x :: l, h => by
    have h1 := h x List.mem_cons_self
    have h2 := total_bound l fun y hy => h y (List.mem_cons_of_mem _ hy)
    simp only [total, List.length_cons, Int.natCast_add, Int.natCast_one]
    omega

def fitsI (n : Int) : Bool := decide (-9223372036854775808 ≤ n) && decide (n < 9223372036854775808)
/-- All numbers together, or that they do not fit. -/
def sumOf (l : List Int) : Int × Bool × Unit := if fitsI (total l) = true then (total l, (true, ())) else (0, (false, ()))

theorem sum_all (l : List Int) (hl : l.length < 1000000) (hx : ∀ x ∈ l, -9223372036854775808 ≤ x ∧ x < 9223372036854775808) : calc_Sum l = some (sumOf l) := by
  by_cases hf : fitsI (total l) = true
  · have h := hf
    unfold fitsI at h
    simp only [Bool.and_eq_true, decide_eq_true_eq] at h
    unfold sumOf
    rw [if_pos hf]
    exact sum_val l (by omega) hx h.1 h.2
  · unfold sumOf
    rw [if_neg hf]
    have hb := total_bound l hx
    have hlen : (l.length : Int) < 1000000 := by omega
    unfold calc_Sum
    have := iterL_mono (sum_loop l (by omega) hx l.length 0 (by omega)) (m := loopN) (by rw [loopN_eq]; omega)
    simp only [List.take_zero, total, show (0 : Int) / 18446744073709551616 % 18446744073709551616 = 0 by decide, show (0 : Int) % 18446744073709551616 = 0 by decide] at this
    rw [show (((0 : Nat) : Int)) = 0 from rfl] at this
    rw [this, Option.bind_some]
    have hnf : ¬ (-9223372036854775808 ≤ total l ∧ total l < 9223372036854775808) := fun q => hf (by unfold fitsI; simp [q.1, q.2])
    generalize hw : IntKind.i64.wrap (total l % 18446744073709551616) = r
    have hr : -9223372036854775808 ≤ r ∧ r < 9223372036854775808 ∧ ((r = total l % 18446744073709551616 ∧ total l % 18446744073709551616 < 9223372036854775808) ∨ (r = total l % 18446744073709551616 - 18446744073709551616 ∧ 9223372036854775808 ≤ total l % 18446744073709551616)) := by
      rw [← hw]
      unfold IntKind.wrap
      simp only [IntKind.bits, IntKind.signed, Bool.true_and, decide_eq_true_eq, show (2 : Int) ^ 64 = 18446744073709551616 by decide, show (2 : Int) ^ (64 - 1) = 9223372036854775808 by decide]
      split <;> omega
    rw [fdiv63 hr.1 hr.2.1, wrap_u64]
    have : (((if r < 0 then -1 else 0 : Int) % 18446744073709551616 : Int) == total l / 18446744073709551616 % 18446744073709551616) = false := by
      rw [beq_eq_false_iff_ne]
      split <;> omega
    rw [this]
    rfl
end Go.Proofs.Pure

/- What the reference's sum answers: the same. -/
namespace Go.Proofs.Pure
open Go.Proofs.D Go.Proofs.F

theorem halves_val {a : Int} (h1 : -9223372036854775808 ≤ a) (h2 : a < 9223372036854775808) : pledgeref01_halves a = some (a / 4294967296, (a % 4294967296, ())) := by
  unfold pledgeref01_halves pledgeref01_halves_v2
  by_cases h : a < 0
  · rw [dec_t h]
    have e1 : IntKind.i64.wrap (a + 1) = a + 1 := wrap_i64 (by omega) (by omega)
    have e2 : IntKind.i64.wrap (0 - (a + 1)) = -(a + 1) := by rw [wrap_i64 (by omega) (by omega)]; omega
    simp only [cond_true, e1, e2]
    rw [dec_f (by omega : ¬ -(a + 1) < 0)]
    simp only [cond_false, Option.bind_some]
    have e3 : Int.tdiv (-(a + 1)) 4294967296 = -(a + 1) / 4294967296 := Int.tdiv_eq_ediv_of_nonneg (by omega)
    have e4 : Int.tmod (-(a + 1)) 4294967296 = -(a + 1) % 4294967296 := Int.tmod_eq_emod_of_nonneg (by omega)
    have w1 : IntKind.i64.wrap (-(a + 1) / 4294967296) = -(a + 1) / 4294967296 := wrap_i64 (by omega) (by omega)
    have w2 : IntKind.i64.wrap (-1 - -(a + 1) / 4294967296) = -1 - -(a + 1) / 4294967296 := wrap_i64 (by omega) (by omega)
    have w3 : IntKind.i64.wrap (4294967295 - -(a + 1) % 4294967296) = 4294967295 - -(a + 1) % 4294967296 := wrap_i64 (by omega) (by omega)
    simp only [e3, e4, w1, w2, w3]
    have g1 : -1 - -(a + 1) / 4294967296 = a / 4294967296 := by omega
    have g2 : 4294967295 - -(a + 1) % 4294967296 = a % 4294967296 := by omega
    rw [g1, g2]
  · rw [dec_f h]
    have e3 : Int.tdiv a 4294967296 = a / 4294967296 := Int.tdiv_eq_ediv_of_nonneg (by omega)
    have e4 : Int.tmod a 4294967296 = a % 4294967296 := Int.tmod_eq_emod_of_nonneg (by omega)
    simp only [cond_false, e3, e4]
    rw [wrap_i64 (by omega) (by omega)]

theorem total_take (l : List Int) {j : Nat} (hj : j < l.length) : total (l.take (j + 1)) = total (l.take j) + l[j] := by
  rw [List.take_add_one, List.getElem?_eq_getElem hj, total_append]; simp [total]

theorem refsum_loop (l : List Int) (hl : l.length < 1000000) (hx : ∀ x ∈ l, -9223372036854775808 ≤ x ∧ x < 9223372036854775808) : ∀ (k j : Nat), j + k = l.length →
    iterL pledgeref01_Sum.l1 (k + 1) ((l, ((), (j : Int))), ((total (l.take j) / 4294967296, (total (l.take j) % 4294967296, ())), ())) = some ((), ((total l / 4294967296, (total l % 4294967296, ())), ()))
  | 0, j, h => by
    have e : l.take j = l := List.take_of_length_le (by omega)
    rw [e]
    refine iterL_done ?_
    unfold pledgeref01_Sum.l1
    simp only [dec_f (show ¬ (j : Int) < (l.length : Int) by omega), cond_false]
  | k + 1, j, h => by
    have hj : j < l.length := by omega
    have hget : l[j]? = some l[j] := List.getElem?_eq_getElem hj
    obtain ⟨b1, b2⟩ := hx l[j] (List.getElem_mem hj)
    have htake := total_take l hj
    have hb := total_bound (l.take j) fun x hx' => hx x (List.mem_of_mem_take hx')
    have hlen : ((l.take j).length : Int) < 1000000 := by rw [List.length_take]; omega
    generalize hT : total (l.take j) = t at hb htake
    have hstep : pledgeref01_Sum.l1 ((l, ((), (j : Int))), ((t / 4294967296, (t % 4294967296, ())), ())) = some (.inl ((l, ((), ((j + 1 : Nat) : Int))), ((total (l.take (j + 1)) / 4294967296, (total (l.take (j + 1)) % 4294967296, ())), ()))) := by
      unfold pledgeref01_Sum.l1
      simp only [dec_t (show (j : Int) < (l.length : Int) by omega), cond_true]
      rw [nthK_get hget, halves_val b1 b2, Option.bind_some, succ_i64 (by omega), htake]
      have e1 : IntKind.i64.wrap (t % 4294967296 + l[j] % 4294967296) = t % 4294967296 + l[j] % 4294967296 := wrap_i64 (by omega) (by omega)
      have e2 : IntKind.i64.wrap (t / 4294967296 + l[j] / 4294967296) = t / 4294967296 + l[j] / 4294967296 := wrap_i64 (by omega) (by omega)
      simp only [e1, e2]
      by_cases q : t % 4294967296 + l[j] % 4294967296 ≥ 4294967296
      · rw [dec_t q]
        simp only [cond_true]
        rw [wrap_i64 (n := t / 4294967296 + l[j] / 4294967296 + 1) (by omega) (by omega), wrap_i64 (n := t % 4294967296 + l[j] % 4294967296 - 4294967296) (by omega) (by omega)]
        rw [show t / 4294967296 + l[j] / 4294967296 + 1 = (t + l[j]) / 4294967296 by omega, show t % 4294967296 + l[j] % 4294967296 - 4294967296 = (t + l[j]) % 4294967296 by omega]
      · rw [dec_f q]
        simp only [cond_false]
        rw [show t / 4294967296 + l[j] / 4294967296 = (t + l[j]) / 4294967296 by omega, show t % 4294967296 + l[j] % 4294967296 = (t + l[j]) % 4294967296 by omega]
    rw [iterL_next hstep]
    exact refsum_loop l hl hx k (j + 1) (by omega)

theorem refsum_all (l : List Int) (hl : l.length < 1000000) (hx : ∀ x ∈ l, -9223372036854775808 ≤ x ∧ x < 9223372036854775808) : pledgeref01_Sum l = some (sumOf l) := by
  unfold pledgeref01_Sum sumOf fitsI
  have := iterL_mono (refsum_loop l hl hx l.length 0 (by omega)) (m := loopN) (by rw [loopN_eq]; omega)
  simp only [List.take_zero, total, show (0 : Int) / 4294967296 = 0 by decide, show (0 : Int) % 4294967296 = 0 by decide] at this
  rw [show (((0 : Nat) : Int)) = 0 from rfl] at this
  rw [this, Option.bind_some]
  have hb := total_bound l hx
  have hlen : (l.length : Int) < 1000000 := by omega
  simp only []
  by_cases h1 : total l / 4294967296 < -2147483648
  · rw [dec_t h1, dec_f (by omega : ¬ -9223372036854775808 ≤ total l)]; rfl
  · rw [dec_f h1]
    by_cases h2 : total l / 4294967296 > 2147483647
    · rw [dec_t h2, dec_f (by omega : ¬ total l < 9223372036854775808), Bool.and_false]; rfl
    · rw [dec_f h2, dec_t (by omega : -9223372036854775808 ≤ total l), dec_t (by omega : total l < 9223372036854775808)]
      simp only [cond_false, Bool.and_true, if_true]
      rw [wrap_i64 (n := total l / 4294967296 * 4294967296) (by omega) (by omega), wrap_i64 (by omega) (by omega), show total l / 4294967296 * 4294967296 + total l % 4294967296 = total l by omega]
end Go.Proofs.Pure

/- What takes and items name of an article. -/
namespace Go.Proofs.Pure
open Go.Proofs.D Go.Proofs.F

abbrev Ord := Int × Int × List Ln × List Tk × List Tk × List Ln × Unit

def ofTake (a : Int) (t : Tk) : List Int := bif t.2.1 == a then [t.2.2.2.1] else []
def ofLine (a : Int) (t : Ln) : List Int := bif t.1 == a then [t.2.1] else []
def namedOf (a : Int) (t : List Tk) (l : List Ln) : List Int := t.flatMap (ofTake a) ++ l.flatMap (ofLine a)

theorem ofTake_len (a : Int) (t : Tk) : (ofTake a t).length ≤ 1 := by unfold ofTake; cases (t.2.1 == a) <;> simp
theorem ofLine_len (a : Int) (t : Ln) : (ofLine a t).length ≤ 1 := by unfold ofLine; cases (t.1 == a) <;> simp
theorem flat_len {α B : Type} {g : α → List B} (h : ∀ x, (g x).length ≤ 1) : ∀ l : List α, (l.flatMap g).length ≤ l.length
  | [] => by simp
  | x :: l => by
    have := h x; have := flat_len h l
    simp only [List.flatMap_cons, List.length_append, List.length_cons]; omega

theorem ref_named_l1 (a : Int) (l : List Ln) (t : List Tk) (ht : t.length < 1000000) : iterL pledgeref13_Named.l1 loopN ((t, (l, (a, ((), 0)))), ([], ())) = some ((l, (a, ())), (t.flatMap (ofTake a), ())) := by
  have := loop_walk (step := pledgeref13_Named.l1) t (fun i (acc : List Int) => ((t, (l, (a, ((), (i : Int))))), (acc, ()))) (fun _ y acc => .inl (acc ++ ofTake a y)) (fun acc => ((l, (a, ())), (acc, ()))) (fun i acc => acc.length ≤ i) [] (by omega) (by simp) (fun i y acc hx hI => by
    have hi := get_lt hx
    refine ⟨?_, fun _ h => by cases h; have := ofTake_len a y; simp only [List.length_append]; omega⟩
    unfold pledgeref13_Named.l1 ofTake
    simp only [dec_t (show (i : Int) < (t.length : Int) by omega), cond_true]
    rw [nthK_get hx, nthK_get hx]
    cases (y.2.1 == a) with
    | true =>
      simp only [cond_true]
      rw [room_ok (by simp; omega), succ_i64 (by omega)]
    | false => simp only [cond_false, List.append_nil]; rw [succ_i64 (by omega)]) (fun acc _ => by
    unfold pledgeref13_Named.l1
    simp only [dec_f (show ¬ (t.length : Int) < (t.length : Int) by omega), cond_false])
  rw [show (((0 : Nat) : Int)) = 0 from rfl] at this
  rw [this, walk_gather, List.nil_append]

theorem ref_named_l2 (a : Int) (acc0 : List Int) (t : List Ln) (h0 : acc0.length < 1000000) (ht : t.length < 1000000) : iterL pledgeref13_Named.l2 loopN ((t, (a, ((), 0))), (acc0, ())) = some ((), (acc0 ++ t.flatMap (ofLine a), ())) := by
  have := loop_walk (step := pledgeref13_Named.l2) t (fun i (acc : List Int) => ((t, (a, ((), (i : Int)))), (acc, ()))) (fun _ y acc => .inl (acc ++ ofLine a y)) (fun acc => ((), (acc, ()))) (fun i acc => acc.length ≤ i + acc0.length) acc0 (by omega) (by simp) (fun i y acc hx hI => by
    have hi := get_lt hx
    refine ⟨?_, fun _ h => by cases h; have := ofLine_len a y; simp only [List.length_append]; omega⟩
    unfold pledgeref13_Named.l2 ofLine
    simp only [dec_t (show (i : Int) < (t.length : Int) by omega), cond_true]
    rw [nthK_get hx, nthK_get hx]
    cases (y.1 == a) with
    | true =>
      simp only [cond_true]
      rw [room_ok (by simp; omega), succ_i64 (by omega)]
    | false => simp only [cond_false, List.append_nil]; rw [succ_i64 (by omega)]) (fun acc _ => by
    unfold pledgeref13_Named.l2
    simp only [dec_f (show ¬ (t.length : Int) < (t.length : Int) by omega), cond_false])
  rw [show (((0 : Nat) : Int)) = 0 from rfl] at this
  rw [this, walk_gather]

theorem wfTake {t : Tk} (h : WfE kTake t) : -9223372036854775808 ≤ t.2.2.2.1 ∧ t.2.2.2.1 < 9223372036854775808 := wf_i64 h.2.2.2.1
theorem wfLine {t : Ln} (h : WfE kLine t) : -9223372036854775808 ≤ t.2.1 ∧ t.2.1 < 9223372036854775808 := wf_i64 h.2.1

theorem named_fit (a : Int) (t : List Tk) (l : List Ln) (ht : ∀ x ∈ t, WfE kTake x) (hl : ∀ x ∈ l, WfE kLine x) : ∀ n ∈ namedOf a t l, -9223372036854775808 ≤ n ∧ n < 9223372036854775808 := by
  intro n hn
  unfold namedOf at hn
  rcases List.mem_append.mp hn with h | h
  · obtain ⟨x, hx, h2⟩ := List.mem_flatMap.mp h
    unfold ofTake at h2
    cases e : (x.2.1 == a) <;> rw [e] at h2
    · exact absurd h2 List.not_mem_nil
    · rw [List.mem_singleton.mp h2]; exact wfTake (ht x hx)
  · obtain ⟨x, hx, h2⟩ := List.mem_flatMap.mp h
    unfold ofLine at h2
    cases e : (x.1 == a) <;> rw [e] at h2
    · exact absurd h2 List.not_mem_nil
    · rw [List.mem_singleton.mp h2]; exact wfLine (hl x hx)

theorem named_len (a : Int) (t : List Tk) (l : List Ln) : (namedOf a t l).length ≤ t.length + l.length := by
  unfold namedOf
  have := flat_len (ofTake_len a) t
  have := flat_len (ofLine_len a) l
  simp only [List.length_append]; omega

theorem sumOf_eta (l : List Int) : some ((sumOf l).1, ((sumOf l).2.1, ())) = some (sumOf l) := rfl

theorem refNamed_val (a : Int) (t : List Tk) (l : List Ln) (h1 : t.length < 400000) (h2 : l.length < 400000) (ht : ∀ x ∈ t, WfE kTake x) (hl : ∀ x ∈ l, WfE kLine x) : pledgeref13_Named t l a = some (sumOf (namedOf a t l)) := by
  unfold pledgeref13_Named
  have := flat_len (ofTake_len a) t
  rw [ref_named_l1 a l t (by omega), Option.bind_some]
  simp only []
  rw [ref_named_l2 a _ l (by omega) (by omega), Option.bind_some]
  have hn := named_len a t l
  rw [show t.flatMap (ofTake a) ++ l.flatMap (ofLine a) = namedOf a t l from rfl, refsum_all _ (by omega) (named_fit a t l ht hl)]
  rfl
end Go.Proofs.Pure

/- Takes and what is owed are just what is ordered: the program's way and the document's. -/
namespace Go.Proofs.Pure
open Go.Proofs.D Go.Proofs.F

abbrev P4 := List Int × List Int × List Int × List Int
theorem walk4 {α X : Type} (g0 g1 g2 g3 : α → List Int) (fin : P4 → X) : ∀ (l : List α) (i : Nat) (a : P4),
    walkL (fun _ x (a : P4) => .inl (a.1 ++ g0 x, a.2.1 ++ g1 x, a.2.2.1 ++ g2 x, a.2.2.2 ++ g3 x)) fin i l a = fin (a.1 ++ l.flatMap g0, a.2.1 ++ l.flatMap g1, a.2.2.1 ++ l.flatMap g2, a.2.2.2 ++ l.flatMap g3)
  | [], _, _ => by simp [walkL]
  | x :: l, i, a => by simp only [walkL, walk4 g0 g1 g2 g3 fin l (i + 1), List.flatMap_cons, List.append_assoc]

abbrev U5 := Unit × Unit × Unit × Unit × Unit
def u5 : U5 := ((), ((), ((), ((), ()))))
def put4 (a : P4) : List Int × List Int × List Int × List Int × Unit := (a.1, (a.2.1, (a.2.2.1, (a.2.2.2, ()))))

theorem four {n : Int} (h : 0 ≤ n ∧ n < 4) : n = 0 ∨ n = 1 ∨ n = 2 ∨ n = 3 := by omega

theorem covered_l1 (p : Prg) (t : List Tk) (ht : t.length < 100000) (hs : ∀ x ∈ t, 0 ≤ x.2.1 ∧ x.2.1 < 4) :
    iterL prog_covered.l1 loopN (((), ((), (t, ((t.length : Int), 0)))), (p, (u5, put4 ([], [], [], [])))) = some (((), ()), (p, (u5, put4 (t.flatMap (ofTake 0), t.flatMap (ofTake 1), t.flatMap (ofTake 2), t.flatMap (ofTake 3))))) := by
  have := loop_walk (step := prog_covered.l1) t (fun i (a : P4) => (((), ((), (t, ((t.length : Int), (i : Int))))), (p, (u5, put4 a)))) (fun _ x a => .inl (a.1 ++ ofTake 0 x, a.2.1 ++ ofTake 1 x, a.2.2.1 ++ ofTake 2 x, a.2.2.2 ++ ofTake 3 x))
    (fun a => (((), ()), (p, (u5, put4 a)))) (fun i a => a.1.length ≤ i ∧ a.2.1.length ≤ i ∧ a.2.2.1.length ≤ i ∧ a.2.2.2.length ≤ i) ([], [], [], []) (by omega) (by simp) (fun i x a hx hI => by
    have hi := get_lt hx
    have h0 := hs x (get_mem hx)
    obtain ⟨i1, i2, i3, i4⟩ := hI
    refine ⟨?_, fun _ h => by
      cases h
      have q0 := ofTake_len 0 x; have q1 := ofTake_len 1 x; have q2 := ofTake_len 2 x; have q3 := ofTake_len 3 x
      simp only [List.length_append]; omega⟩
    unfold prog_covered.l1 put4
    simp only [dec_t (show (i : Int) < (t.length : Int) by omega), cond_true]
    rw [nthK_get hx, succ_i64 (by omega)]
    obtain ⟨id, sku, ware, qty, u⟩ := x
    simp only at h0 ⊢
    rcases four h0 with e | e | e | e <;> subst e
    · show room (a.1.length + [qty].length) _ = _
      rw [room_ok (by simp; omega)]
      unfold ofTake
      simp only [show ((0 : Int) == 0) = true by decide, show ((0 : Int) == 1) = false by decide, show ((0 : Int) == 2) = false by decide, show ((0 : Int) == 3) = false by decide, cond_true, cond_false, List.append_nil]
    · show room (a.2.1.length + [qty].length) _ = _
      rw [room_ok (by simp; omega)]
      unfold ofTake
      simp only [show ((1 : Int) == 0) = false by decide, show ((1 : Int) == 1) = true by decide, show ((1 : Int) == 2) = false by decide, show ((1 : Int) == 3) = false by decide, cond_true, cond_false, List.append_nil]
    · show room (a.2.2.1.length + [qty].length) _ = _
      rw [room_ok (by simp; omega)]
      unfold ofTake
      simp only [show ((2 : Int) == 0) = false by decide, show ((2 : Int) == 1) = false by decide, show ((2 : Int) == 2) = true by decide, show ((2 : Int) == 3) = false by decide, cond_true, cond_false, List.append_nil]
    · show room (a.2.2.2.length + [qty].length) _ = _
      rw [room_ok (by simp; omega)]
      unfold ofTake
      simp only [show ((3 : Int) == 0) = false by decide, show ((3 : Int) == 1) = false by decide, show ((3 : Int) == 2) = false by decide, show ((3 : Int) == 3) = true by decide, cond_true, cond_false, List.append_nil]) (fun a _ => by
    unfold prog_covered.l1
    simp only [dec_f (show ¬ (t.length : Int) < (t.length : Int) by omega), cond_false])
  rw [show (((0 : Nat) : Int)) = 0 from rfl] at this
  rw [this, walk4]
  simp only [List.nil_append]

theorem covered_l2 (p : Prg) (t : List Ln) (a0 : P4) (h0 : a0.1.length < 100000 ∧ a0.2.1.length < 100000 ∧ a0.2.2.1.length < 100000 ∧ a0.2.2.2.length < 100000) (ht : t.length < 100000) (hs : ∀ x ∈ t, 0 ≤ x.1 ∧ x.1 < 4) :
    iterL prog_covered.l2 loopN (((), ((), (t, ((t.length : Int), 0)))), (p, (u5, put4 a0))) = some (((), ()), (p, (u5, put4 (a0.1 ++ t.flatMap (ofLine 0), a0.2.1 ++ t.flatMap (ofLine 1), a0.2.2.1 ++ t.flatMap (ofLine 2), a0.2.2.2 ++ t.flatMap (ofLine 3))))) := by
  have := loop_walk (step := prog_covered.l2) t (fun i (a : P4) => (((), ((), (t, ((t.length : Int), (i : Int))))), (p, (u5, put4 a)))) (fun _ x a => .inl (a.1 ++ ofLine 0 x, a.2.1 ++ ofLine 1 x, a.2.2.1 ++ ofLine 2 x, a.2.2.2 ++ ofLine 3 x))
    (fun a => (((), ()), (p, (u5, put4 a)))) (fun i a => a.1.length ≤ i + 100000 ∧ a.2.1.length ≤ i + 100000 ∧ a.2.2.1.length ≤ i + 100000 ∧ a.2.2.2.length ≤ i + 100000) a0 (by omega) (by omega) (fun i x a hx hI => by
    have hi := get_lt hx
    have h0 := hs x (get_mem hx)
    obtain ⟨i1, i2, i3, i4⟩ := hI
    refine ⟨?_, fun _ h => by
      cases h
      have q0 := ofLine_len 0 x; have q1 := ofLine_len 1 x; have q2 := ofLine_len 2 x; have q3 := ofLine_len 3 x
      simp only [List.length_append]; omega⟩
    unfold prog_covered.l2 put4
    simp only [dec_t (show (i : Int) < (t.length : Int) by omega), cond_true]
    rw [nthK_get hx, succ_i64 (by omega)]
    obtain ⟨sku, qty, u⟩ := x
    simp only at h0 ⊢
    rcases four h0 with e | e | e | e <;> subst e
    · show room (a.1.length + [qty].length) _ = _
      rw [room_ok (by simp; omega)]
      unfold ofLine
      simp only [show ((0 : Int) == 0) = true by decide, show ((0 : Int) == 1) = false by decide, show ((0 : Int) == 2) = false by decide, show ((0 : Int) == 3) = false by decide, cond_true, cond_false, List.append_nil]
    · show room (a.2.1.length + [qty].length) _ = _
      rw [room_ok (by simp; omega)]
      unfold ofLine
      simp only [show ((1 : Int) == 0) = false by decide, show ((1 : Int) == 1) = true by decide, show ((1 : Int) == 2) = false by decide, show ((1 : Int) == 3) = false by decide, cond_true, cond_false, List.append_nil]
    · show room (a.2.2.1.length + [qty].length) _ = _
      rw [room_ok (by simp; omega)]
      unfold ofLine
      simp only [show ((2 : Int) == 0) = false by decide, show ((2 : Int) == 1) = false by decide, show ((2 : Int) == 2) = true by decide, show ((2 : Int) == 3) = false by decide, cond_true, cond_false, List.append_nil]
    · show room (a.2.2.2.length + [qty].length) _ = _
      rw [room_ok (by simp; omega)]
      unfold ofLine
      simp only [show ((3 : Int) == 0) = false by decide, show ((3 : Int) == 1) = false by decide, show ((3 : Int) == 2) = false by decide, show ((3 : Int) == 3) = true by decide, cond_true, cond_false, List.append_nil]) (fun a _ => by
    unfold prog_covered.l2
    simp only [dec_f (show ¬ (t.length : Int) < (t.length : Int) by omega), cond_false])
  rw [show (((0 : Nat) : Int)) = 0 from rfl] at this
  rw [this, walk4]

def wantOf (l : List Ln) : List Int := l.foldl (fun a x => a.set x.1.toNat x.2.1) (List.replicate 4 0)
theorem walk_fold {α A X : Type} (h : A → α → A) (fin : A → X) : ∀ (l : List α) (i : Nat) (a : A), walkL (fun _ x a => .inl (h a x)) fin i l a = fin (l.foldl h a)
  | [], _, _ => rfl
  | x :: l, i, a => by simp only [walkL, walk_fold h fin l (i + 1), List.foldl_cons]

theorem covered_l3 (t : List Ln) (a0 : P4) (ht : t.length < 100000) (hs : ∀ x ∈ t, 0 ≤ x.1 ∧ x.1 < 4) :
    iterL prog_covered.l3 loopN (((), ((), (t, ((t.length : Int), 0)))), (u5, (List.replicate 4 0, put4 a0))) = some (((), ()), (u5, (wantOf t, put4 a0))) := by
  have := loop_walk (step := prog_covered.l3) t (fun i (a : List Int) => (((), ((), (t, ((t.length : Int), (i : Int))))), (u5, (a, put4 a0)))) (fun _ x a => .inl (a.set x.1.toNat x.2.1))
    (fun a => (((), ()), (u5, (a, put4 a0)))) (fun i a => a.length = 4) (List.replicate 4 0) (by omega) (by simp) (fun i x a hx hI => by
    have hi := get_lt hx
    have h0 := hs x (get_mem hx)
    refine ⟨?_, fun _ h => by cases h; simpa using hI⟩
    unfold prog_covered.l3
    simp only [dec_t (show (i : Int) < (t.length : Int) by omega), cond_true]
    rw [nthK_get hx, succ_i64 (by omega), chk_true (by rw [dec_t h0.1, dec_t h0.2]; rfl)]
    obtain ⟨sku, qty, u⟩ := x
    obtain ⟨n, rfl⟩ := Int.eq_ofNat_of_zero_le h0.1
    simp only at h0
    show nthN a n _ = _
    rw [nthN_get (List.getElem?_eq_getElem (by omega : n < a.length))]
    rfl) (fun a _ => by
    unfold prog_covered.l3
    simp only [dec_f (show ¬ (t.length : Int) < (t.length : Int) by omega), cond_false])
  rw [show (((0 : Nat) : Int)) = 0 from rfl] at this
  rw [this, walk_fold]
  rfl

/-- Of one article: the parts come to what is wanted. -/
def coverK (a : List Int) (n : Int) : Bool := (sumOf a).2.1 && !((sumOf a).1 != n)
def coverP (a : P4) (w : List Int) : Bool := coverK a.1 (w.getD 0 0) && (coverK a.2.1 (w.getD 1 0) && (coverK a.2.2.1 (w.getD 2 0) && coverK a.2.2.2 (w.getD 3 0)))

theorem covered_step (a : P4) (w : List Int) (hw : w.length = 4) (k : Nat) (hk : k < 4) (q : List Int) (hq : q = [a.1, a.2.1, a.2.2.1, a.2.2.2].getD k []) (hl : q.length < 1000000) (hf : ∀ n ∈ q, -9223372036854775808 ≤ n ∧ n < 9223372036854775808) :
    prog_covered.l4 (((), (u5, (k : Int))), (w, put4 a)) = bif coverK q (w.getD k 0) then some (.inl (((), (u5, ((k + 1 : Nat) : Int))), (w, put4 a))) else some (.inr (.inr false)) := by
  have hs := sum_all q hl hf
  have hget : w[k]? = some (w.getD k 0) := by rw [List.getD_eq_getElem?_getD, List.getElem?_eq_getElem (by omega)]; rfl
  have fin : ∀ (x : (Unit × U5 × Int) × List Int × List Int × List Int × List Int × List Int × Unit), ((calc_Sum q).bind fun r50 => bif !r50.2.1 then some (Sum.inr (Sum.inr false)) else chk (decide (0 ≤ (k : Int)) && decide ((k : Int) < 4)) (nthK w (k : Int) fun e51 => bif (r50.1 : Int) != e51 then some (Sum.inr (Sum.inr false)) else some (Sum.inl x))) =
      (bif coverK q (w.getD k 0) then some (Sum.inl x) else some (Sum.inr (Sum.inr false)) : Option (_ ⊕ (Unit ⊕ Bool))) := by
    intro x
    rw [hs, Option.bind_some, chk_true (by rw [dec_t (by omega : 0 ≤ (k : Int)), dec_t (by omega : (k : Int) < 4)]; rfl), nthK_get hget]
    unfold coverK
    cases (sumOf q).2.1 <;> cases ((sumOf q).1 != w.getD k 0) <;> rfl
  have hw1 := succ_i64 (show k < 9223372036854775807 by omega)
  rw [← hw1, ← fin]
  subst hq
  match k, hk with
  | 0, _ => rfl
  | 1, _ => rfl
  | 2, _ => rfl
  | 3, _ => rfl

theorem covered_l4 (a : P4) (w : List Int) (hw : w.length = 4) (hl : ∀ q ∈ [a.1, a.2.1, a.2.2.1, a.2.2.2], q.length < 1000000 ∧ ∀ n ∈ q, -9223372036854775808 ≤ n ∧ n < 9223372036854775808) :
    iterL prog_covered.l4 loopN (((), (u5, 0)), (w, put4 a)) = some (bif coverP a w then .inl () else .inr false) := by
  have h0 := hl a.1 (by simp)
  have h1 := hl a.2.1 (by simp)
  have h2 := hl a.2.2.1 (by simp)
  have h3 := hl a.2.2.2 (by simp)
  have s0 := covered_step a w hw 0 (by omega) a.1 rfl h0.1 h0.2
  have s1 := covered_step a w hw 1 (by omega) a.2.1 rfl h1.1 h1.2
  have s2 := covered_step a w hw 2 (by omega) a.2.2.1 rfl h2.1 h2.2
  have s3 := covered_step a w hw 3 (by omega) a.2.2.2 rfl h3.1 h3.2
  have s4 : prog_covered.l4 (((), (u5, ((4 : Nat) : Int))), (w, put4 a)) = some (.inr (.inl ())) := rfl
  refine iterL_mono (n := 5) ?_ (by rw [loopN_eq]; omega)
  unfold coverP
  rw [show (0 : Int) = ((0 : Nat) : Int) from rfl]
  cases c0 : coverK a.1 (w.getD 0 0) with
  | false => rw [c0] at s0; exact iterL_done s0
  | true =>
    rw [c0] at s0
    rw [iterL_next s0]
    cases c1 : coverK a.2.1 (w.getD 1 0) with
    | false => rw [c1] at s1; exact iterL_done s1
    | true =>
      rw [c1] at s1
      rw [iterL_next s1]
      cases c2 : coverK a.2.2.1 (w.getD 2 0) with
      | false => rw [c2] at s2; exact iterL_done s2
      | true =>
        rw [c2] at s2
        rw [iterL_next s2]
        cases c3 : coverK a.2.2.2 (w.getD 3 0) with
        | false => rw [c3] at s3; exact iterL_done s3
        | true =>
          rw [c3] at s3
          rw [iterL_next s3]
          exact iterL_done s4

/-- The parts of each article, what is wanted of it. -/
def partsOf (t : List Tk) (l : List Ln) : P4 := (namedOf 0 t l, namedOf 1 t l, namedOf 2 t l, namedOf 3 t l)
def coveredB (t : List Tk) (owes lines : List Ln) : Bool := coverP (partsOf t owes) (wantOf lines)

theorem wantOf_len : ∀ (l : List Ln) (a : List Int), a.length = 4 → (l.foldl (fun a x => a.set x.1.toNat x.2.1) a).length = 4
  | [], a, h => h
  | x :: l, a, h => by rw [List.foldl_cons]; exact wantOf_len l _ (by simpa using h)

theorem progCovered_val (p : Prg) (h1 : p.2.2.2.1.length < 100000) (h2 : p.2.2.2.2.1.length < 100000) (h3 : p.2.2.2.2.2.1.length < 100000) (w2 : ∀ x ∈ p.2.2.2.2.1, WfE kTake x) (w3 : ∀ x ∈ p.2.2.2.2.2.1, WfE kLine x)
    (g1 : ∀ x ∈ p.2.2.2.1, 0 ≤ x.1 ∧ x.1 < 4) (g2 : ∀ x ∈ p.2.2.2.2.1, 0 ≤ x.2.1 ∧ x.2.1 < 4) (g3 : ∀ x ∈ p.2.2.2.2.2.1, 0 ≤ x.1 ∧ x.1 < 4) : prog_covered p = some (coveredB p.2.2.2.2.1 p.2.2.2.2.2.1 p.2.2.2.1) := by
  have e0 := flat_len (ofTake_len 0) p.2.2.2.2.1
  have e1 := flat_len (ofTake_len 1) p.2.2.2.2.1
  have e2 := flat_len (ofTake_len 2) p.2.2.2.2.1
  have e3 := flat_len (ofTake_len 3) p.2.2.2.2.1
  have l1 := covered_l1 p p.2.2.2.2.1 h2 g2
  have l2 := covered_l2 p p.2.2.2.2.2.1 (p.2.2.2.2.1.flatMap (ofTake 0), p.2.2.2.2.1.flatMap (ofTake 1), p.2.2.2.2.1.flatMap (ofTake 2), p.2.2.2.2.1.flatMap (ofTake 3)) (by simp only []; omega) h3 g3
  have l3 := covered_l3 p.2.2.2.1 (partsOf p.2.2.2.2.1 p.2.2.2.2.2.1) h1 g1
  have fit : ∀ k : Int, (namedOf k p.2.2.2.2.1 p.2.2.2.2.2.1).length < 1000000 ∧ ∀ n ∈ namedOf k p.2.2.2.2.1 p.2.2.2.2.2.1, -9223372036854775808 ≤ n ∧ n < 9223372036854775808 := fun k => ⟨by have := named_len k p.2.2.2.2.1 p.2.2.2.2.2.1; omega, named_fit k _ _ w2 w3⟩
  have l4 := covered_l4 (partsOf p.2.2.2.2.1 p.2.2.2.2.2.1) (wantOf p.2.2.2.1) (wantOf_len _ _ (by simp)) (fun q hq => by
    unfold partsOf at hq
    simp only [List.mem_cons, List.not_mem_nil, or_false] at hq
    rcases hq with e | e | e | e <;> subst e <;> exact fit _)
  unfold prog_covered
  unfold put4 u5 at l1 l2 l3 l4
  rw [l1, Option.bind_some]
  simp only []
  rw [l2, Option.bind_some]
  simp only []
  unfold partsOf namedOf at l3 l4
  rw [l3, Option.bind_some]
  simp only []
  rw [l4, Option.bind_some]
  unfold coveredB partsOf namedOf
  cases coverP _ (wantOf p.2.2.2.1) <;> rfl

/-! ### The document's way -/
theorem allFrom_at {p : Nat → Bool} {k : Nat} (h : allFrom p 0 k = true) {j : Nat} (hj : j < k) : p j = true := (allFrom_iff.1 h) j (by omega) (by omega)

theorem linesB_lt {s : Int} {l : List Ln} (h : linesB s l = true) : ∀ x ∈ l, x.1 < s ∧ 1 ≤ x.2.1 := by
  unfold linesB at h
  simp only [Bool.and_eq_true, decide_eq_true_eq] at h
  intro x hx
  obtain ⟨i, hi, e⟩ := List.getElem_of_mem hx
  have := allFrom_at h.1 hi
  unfold lineR at this
  have ea : at0 l i = x := by unfold at0; rw [List.getD_eq_getElem?_getD, List.getElem?_eq_getElem hi, e]; rfl
  rw [ea] at this
  simp only [Bool.and_eq_true, Bool.not_eq_true', decide_eq_false_iff_not] at this
  omega

theorem linesB_shape {s : Int} {l : List Ln} (h : linesB s l = true) : l = [] ∨ (∃ a, l = [a]) ∨ (∃ a b, l = [a, b] ∧ a.1 < b.1) ∨ (∃ a b c, l = [a, b, c] ∧ a.1 < b.1 ∧ b.1 < c.1) := by
  have h0 := h
  unfold linesB at h
  simp only [Bool.and_eq_true, decide_eq_true_eq] at h
  obtain ⟨ha, hl⟩ := h
  match l, ha, hl with
  | [], _, _ => exact .inl rfl
  | [a], _, _ => exact .inr (.inl ⟨a, rfl⟩)
  | [a, b], ha, _ =>
    have h1 := allFrom_at ha (show 1 < 2 by omega)
    simp only [lineR, Bool.and_eq_true, Bool.or_eq_true, Bool.not_eq_true', decide_eq_false_iff_not] at h1
    have h2 : ¬ a.1 ≥ b.1 := by rcases h1.2.2 with q | q; cases q; exact q
    exact .inr (.inr (.inl ⟨a, b, rfl, by omega⟩))
  | [a, b, c], ha, _ =>
    have h1 := allFrom_at ha (show 1 < 3 by omega)
    have h3 := allFrom_at ha (show 2 < 3 by omega)
    simp only [lineR, Bool.and_eq_true, Bool.or_eq_true, Bool.not_eq_true', decide_eq_false_iff_not] at h1 h3
    have h2 : ¬ a.1 ≥ b.1 := by rcases h1.2.2 with q | q; cases q; exact q
    have h4 : ¬ b.1 ≥ c.1 := by rcases h3.2.2 with q | q; cases q; exact q
    exact .inr (.inr (.inr ⟨a, b, c, rfl, by omega, by omega⟩))
  | a :: b :: c :: d :: l, _, hl => simp only [List.length_cons] at hl; omega

theorem sumOf_nil : sumOf [] = (0, (true, ())) := rfl
theorem sumOf_one {q : Int} (h : -9223372036854775808 ≤ q ∧ q < 9223372036854775808) : sumOf [q] = (q, (true, ())) := by
  unfold sumOf fitsI total total
  rw [Int.add_zero, dec_t h.1, dec_t h.2]; rfl

theorem set_at (l : List Int) (n k : Nat) (q : Int) (hl : l.length = 4) (hn : n < 4) : (l.set n q).getD k 0 = if n = k then q else l.getD k 0 := by
  rw [List.getD_eq_getElem?_getD, List.getElem?_set]
  by_cases h : n = k
  · subst h; simp [hl, hn]
  · simp [h]

theorem want_line {s : Int} {l : List Ln} (h : linesB s l = true) (hs : s ≤ 4) (hw : ∀ x ∈ l, WfE kLine x) (k : Nat) (hk : k < 4) : sumOf (l.flatMap (ofLine k)) = ((wantOf l).getD k 0, (true, ())) := by
  have hlt := linesB_lt h
  have hz : (List.replicate 4 (0 : Int)).getD k 0 = 0 := by
    match k, hk with
    | 0, _ => rfl
    | 1, _ => rfl
    | 2, _ => rfl
    | 3, _ => rfl
  have hb : ∀ x ∈ l, (0 ≤ x.1 ∧ x.1 < 4) ∧ -9223372036854775808 ≤ x.2.1 ∧ x.2.1 < 9223372036854775808 := fun x hx => by
    have q1 := hlt x hx
    have q2 := wf_u8 (hw x hx).1
    exact ⟨⟨q2.1, by omega⟩, wf_i64 (hw x hx).2.1⟩
  have eqk : ∀ x : Ln, 0 ≤ x.1 → ((x.1 == (k : Int)) = decide (x.1.toNat = k)) := fun x h0 => by
    by_cases q : x.1 = (k : Int)
    · rw [dec_t (by omega), beq_iff_eq]; exact q
    · rw [dec_f (by omega), beq_eq_false_iff_ne]; exact q
  rcases linesB_shape h with e | ⟨a, e⟩ | ⟨a, b, e, h1⟩ | ⟨a, b, c, e, h1, h2⟩ <;> subst e
  · show sumOf [] = ((List.replicate 4 (0 : Int)).getD k 0, (true, ()))
    rw [hz]; rfl
  · have ha := hb a (by simp)
    simp only [wantOf, List.foldl_cons, List.foldl_nil, List.flatMap_cons, List.flatMap_nil, List.append_nil]
    rw [set_at _ _ _ _ (by simp) (by omega), hz]
    unfold ofLine
    rw [eqk a ha.1.1]
    by_cases q : a.1.toNat = k
    · rw [dec_t q, if_pos q]; exact sumOf_one ha.2
    · rw [dec_f q, if_neg q]; rfl
  · have ha := hb a (by simp)
    have hb' := hb b (by simp)
    simp only [wantOf, List.foldl_cons, List.foldl_nil, List.flatMap_cons, List.flatMap_nil, List.append_nil]
    rw [set_at _ _ _ _ (by simp) (by omega), set_at _ _ _ _ (by simp) (by omega), hz]
    unfold ofLine
    rw [eqk a ha.1.1, eqk b hb'.1.1]
    by_cases q : a.1.toNat = k
    · rw [dec_t q, if_pos q, dec_f (by omega : ¬ b.1.toNat = k), if_neg (by omega)]; exact sumOf_one ha.2
    · rw [dec_f q, if_neg q]
      by_cases r : b.1.toNat = k
      · rw [dec_t r, if_pos r]; exact sumOf_one hb'.2
      · rw [dec_f r, if_neg r]; rfl
  · have ha := hb a (by simp)
    have hb' := hb b (by simp)
    have hc := hb c (by simp)
    simp only [wantOf, List.foldl_cons, List.foldl_nil, List.flatMap_cons, List.flatMap_nil, List.append_nil]
    rw [set_at _ _ _ _ (by simp) (by omega), set_at _ _ _ _ (by simp) (by omega), set_at _ _ _ _ (by simp) (by omega), hz]
    unfold ofLine
    rw [eqk a ha.1.1, eqk b hb'.1.1, eqk c hc.1.1]
    by_cases q : a.1.toNat = k
    · rw [dec_t q, if_pos q, dec_f (by omega : ¬ b.1.toNat = k), if_neg (by omega), dec_f (by omega : ¬ c.1.toNat = k), if_neg (by omega)]; exact sumOf_one ha.2
    · rw [dec_f q, if_neg q]
      by_cases r : b.1.toNat = k
      · rw [dec_t r, if_pos r, dec_f (by omega : ¬ c.1.toNat = k), if_neg (by omega)]; exact sumOf_one hb'.2
      · rw [dec_f r, if_neg r]
        by_cases t : c.1.toNat = k
        · rw [dec_t t, if_pos t]; exact sumOf_one hc.2
        · rw [dec_f t, if_neg t]; rfl

theorem refCovered_val (p : Prg) {s : Int} (hs : s ≤ 4) (hL : linesB s p.2.2.2.1 = true) (h1 : p.2.2.2.1.length < 100000) (h2 : p.2.2.2.2.1.length < 100000) (h3 : p.2.2.2.2.2.1.length < 100000)
    (w1 : ∀ x ∈ p.2.2.2.1, WfE kLine x) (w2 : ∀ x ∈ p.2.2.2.2.1, WfE kTake x) (w3 : ∀ x ∈ p.2.2.2.2.2.1, WfE kLine x) : pledgeref13_covered p = some (coveredB p.2.2.2.2.1 p.2.2.2.2.2.1 p.2.2.2.1) := by
  have step : ∀ k : Nat, k < 4 → pledgeref13_covered.l1 (((), (k : Int)), (p, ())) = bif coverK (namedOf k p.2.2.2.2.1 p.2.2.2.2.2.1) ((wantOf p.2.2.2.1).getD k 0) then some (.inl (((), ((k + 1 : Nat) : Int)), (p, ()))) else some (.inr (.inr false)) := by
    intro k hk
    unfold pledgeref13_covered.l1
    have e : IntKind.u8.wrap (k : Int) = (k : Int) := wrap_u8 (by omega) (by omega)
    simp only [dec_t (by omega : (k : Int) < 4), cond_true, e]
    rw [refNamed_val _ _ _ (by omega) (by omega) w2 w3, Option.bind_some, refNamed_val _ _ _ (by simp) (by omega) (by simp) w1, Option.bind_some]
    have en : namedOf (k : Int) [] p.2.2.2.1 = p.2.2.2.1.flatMap (ofLine k) := rfl
    rw [en, want_line hL hs w1 k hk, succ_i64 (by omega)]
    unfold coverK
    cases (sumOf (namedOf (k : Int) p.2.2.2.2.1 p.2.2.2.2.2.1)).2.1 <;> cases ((sumOf (namedOf (k : Int) p.2.2.2.2.1 p.2.2.2.2.2.1)).1 != (wantOf p.2.2.2.1).getD k 0) <;> rfl
  have run := loop_all (step := pledgeref13_covered.l1) (fun k => (((), (k : Int)), (p, ()))) (fun k => coverK (namedOf k p.2.2.2.2.1 p.2.2.2.2.2.1) ((wantOf p.2.2.2.1).getD k 0)) (.inl ()) (.inr false) 4 (by omega) (fun k hk => step k hk) rfl
  rw [show (((0 : Nat) : Int)) = 0 from rfl] at run
  have ec : allFrom (fun k => coverK (namedOf k p.2.2.2.2.1 p.2.2.2.2.2.1) ((wantOf p.2.2.2.1).getD k 0)) 0 4 = coveredB p.2.2.2.2.1 p.2.2.2.2.2.1 p.2.2.2.1 := by
    unfold coveredB coverP partsOf
    simp only [allFrom, Bool.and_true]
    rfl
  rw [ec] at run
  unfold pledgeref13_covered
  rw [run, Option.bind_some]
  cases coveredB p.2.2.2.2.1 p.2.2.2.2.2.1 p.2.2.2.1 <;> rfl
end Go.Proofs.Pure

/- Which takes of a restock may be: the program's way and the document's. -/
namespace Go.Proofs.Pure
open Go.Proofs.D Go.Proofs.F

abbrev Seen := List (Int × Int)
abbrev gM (m : Seen) (o : Int) : Int := getM (.int .u32) (.int .i64) m o
abbrev pM (m : Seen) (o v : Int) : Seen := putM (.int .u32) (.int .i64) m o v

theorem gM_same (o v : Int) : ∀ m : Seen, gM (pM m o v) o = v
  | [] => by
    show (bif eqE (.int .u32) o o then v else _) = v
    rw [show eqE (.int .u32) o o = true by simp [eqE]]; rfl
  | e :: m => by
    show gM (bif eqE (.int .u32) o e.1 then (o, v) :: m else e :: pM m o v) o = v
    cases h : eqE (.int .u32) o e.1 with
    | true =>
      show (bif eqE (.int .u32) o o then v else _) = v
      rw [show eqE (.int .u32) o o = true by simp [eqE]]; rfl
    | false =>
      show (bif eqE (.int .u32) o e.1 then e.2 else gM (pM m o v) o) = v
      rw [h]; exact gM_same o v m
theorem gM_other {o q : Int} (v : Int) (hne : o ≠ q) : ∀ m : Seen, gM (pM m o v) q = gM m q
  | [] => by
    show (bif eqE (.int .u32) q o then v else _) = _
    rw [show eqE (.int .u32) q o = false by simp [eqE]; exact fun h => hne h.symm]; rfl
  | e :: m => by
    show gM (bif eqE (.int .u32) o e.1 then (o, v) :: m else e :: pM m o v) q = (bif eqE (.int .u32) q e.1 then e.2 else gM m q)
    cases h : eqE (.int .u32) o e.1 with
    | true =>
      have he : o = e.1 := by simpa [eqE] using h
      show (bif eqE (.int .u32) q o then v else gM m q) = _
      rw [← he, show eqE (.int .u32) q o = false by simp [eqE]; exact fun h => hne h.symm]; rfl
    | false =>
      show (bif eqE (.int .u32) q e.1 then e.2 else gM (pM m o v) q) = _
      rw [gM_other v hne m]

def seenAt (l : List Tk) : Nat → Seen
  | 0 => [] | i + 1 => pM (seenAt l i) (at1 l i).1 (IntKind.i64.wrap (gM (seenAt l i) (at1 l i).1 + 1))
def cnt (l : List Tk) (o : Int) : Nat → Nat
  | 0 => 0 | i + 1 => cnt l o i + bif (at1 l i).1 == o then 1 else 0
theorem cnt_le (l : List Tk) (o : Int) : ∀ i, cnt l o i ≤ i
  | 0 => Nat.le_refl _ | i + 1 => by have := cnt_le l o i; simp only [cnt]; cases ((at1 l i).1 == o) <;> simp <;> omega

theorem seen_cnt (l : List Tk) : ∀ (i : Nat), i < 1000 → ∀ o, gM (seenAt l i) o = (cnt l o i : Int)
  | 0, _, o => rfl
  | i + 1, h, o => by
    have ih := seen_cnt l i (by omega)
    simp only [seenAt, cnt]
    by_cases q : (at1 l i).1 = o
    · rw [q, gM_same, ih o, show (o == o) = true by simp, wrap_i64 (by have := cnt_le l o i; omega) (by have := cnt_le l o i; omega)]
      simp
    · rw [gM_other _ q, ih o, show ((at1 l i).1 == o) = false by rw [beq_eq_false_iff_ne]; exact q]
      simp

/-- None ahead is of the same order. -/
def alone (l : List Tk) (i : Nat) : Bool := allFrom (fun k => !((at1 l k).1 == (at1 l i).1)) 0 i
theorem cnt_zero (l : List Tk) (o : Int) : ∀ i, cnt l o i = 0 ↔ ∀ k, k < i → ((at1 l k).1 == o) = false
  | 0 => by simp [cnt]
  | i + 1 => by
    simp only [cnt]
    constructor
    · intro h k hk
      have h1 : cnt l o i = 0 := by omega
      by_cases e : k = i
      · subst e
        cases q : ((at1 l k).1 == o) with
        | false => rfl
        | true => rw [q] at h; simp at h
      · exact (cnt_zero l o i).1 h1 k (by omega)
    · intro h
      rw [(cnt_zero l o i).2 fun k hk => h k (by omega), h i (by omega)]
      rfl
theorem alone_cnt (l : List Tk) (i : Nat) : alone l i = decide (cnt l (at1 l i).1 i = 0) := boolEq (by
  unfold alone
  rw [allFrom_iff, decide_eq_true_eq, cnt_zero]
  constructor
  · intro h k hk; have := h k (by omega) (by omega); simpa using this
  · intro h k _ hk; have := h k (by omega); simpa using this)

def fillR (p : Prg) (l : List Tk) (i : Nat) : Bool := alone l i && (!((at1 l i).1 == 0) && (!((at1 l i).2.1 != p.2.2.2.2.2.2.1) && (!((at1 l i).2.2.1 != p.2.2.2.2.2.2.2.2.1) && !decide ((at1 l i).2.2.2.1 < 1))))
def qtyOf (t : Tk) : Int := t.2.2.2.1
def fillsB (p : Prg) : Bool := allFrom (fillR p p.2.2.2.2.1) 0 p.2.2.2.2.1.length && (decide ((p.2.2.2.2.1.length : Int) ≤ 12) && ((sumOf (p.2.2.2.2.1.map qtyOf)).2.1 && decide ((sumOf (p.2.2.2.2.1.map qtyOf)).1 ≤ p.2.2.2.2.2.2.2.2.2.1)))

theorem flat_single : ∀ t : List Tk, t.flatMap (fun y => [qtyOf y]) = t.map qtyOf
  | [] => rfl
  | a :: t => by rw [List.flatMap_cons, flat_single t]; rfl
theorem flat_same {k : Int} : ∀ {t : List Tk}, (∀ x ∈ t, x.2.1 = k) → t.flatMap (ofTake k) = t.map qtyOf
  | [], _ => rfl
  | a :: t, h => by
    rw [List.flatMap_cons, flat_same fun x hx => h x (List.mem_cons_of_mem _ hx)]
    have h1 : ofTake k a = [qtyOf a] := by
      unfold ofTake
      rw [h a List.mem_cons_self, show (k == k) = true by simp]; rfl
    rw [h1]; rfl

theorem together_val (t : List Tk) (ht : t.length < 1000) (hw : ∀ x ∈ t, WfE kTake x) : prog_together t = some (sumOf (t.map qtyOf)) := by
  unfold prog_together
  have := loop_walk (step := prog_together.l1) t (fun i (acc : List Int) => (((), (t, ((t.length : Int), (i : Int)))), (acc, ()))) (fun _ y acc => .inl (acc ++ [qtyOf y])) (fun acc => ((), (acc, ()))) (fun i acc => acc.length ≤ i) [] (by omega) (by simp) (fun i y acc hx hI => by
    have hi := get_lt hx
    refine ⟨?_, fun _ h => by cases h; simp only [List.length_append, List.length_singleton]; omega⟩
    unfold prog_together.l1
    simp only [dec_t (show (i : Int) < (t.length : Int) by omega), cond_true]
    rw [nthK_get hx, room_ok (by simp; omega), succ_i64 (by omega)]
    rfl) (fun acc _ => by
    unfold prog_together.l1
    simp only [dec_f (show ¬ (t.length : Int) < (t.length : Int) by omega), cond_false])
  rw [show (((0 : Nat) : Int)) = 0 from rfl] at this
  rw [this, walk_gather, List.nil_append, Option.bind_some]
  simp only [flat_single]
  rw [sum_all _ (by simp; omega) (fun n hn => by
    obtain ⟨x, hx, e⟩ := List.mem_map.1 hn
    subst e; exact wfTake (hw x hx))]
  rfl

theorem progFills_val (p : Prg) (hl : p.2.2.2.2.1.length < 1000) (hw : ∀ x ∈ p.2.2.2.2.1, WfE kTake x) : prog_fills p = some (fillsB p) := by
  unfold prog_fills fillsB
  generalize hL : p.2.2.2.2.1 = l at *
  have := loop_all (step := prog_fills.l1) (fun i => (((), ((), (l, ((l.length : Int), (i : Int))))), (p, (seenAt l i, ())))) (fillR p l) (.inl ((), (p, ()))) (.inr false) l.length (by omega) (fun i hi => by
    unfold prog_fills.l1 fillR
    simp only [dec_t (show (i : Int) < (l.length : Int) by omega), cond_true]
    rw [nthK_get (at1_get hi), succ_i64 (by omega)]
    have hc := seen_cnt l i (by omega) (at1 l i).1
    have hle := cnt_le l (at1 l i).1 i
    have e1 : getM (.int .u32) (.int .i64) (seenAt l (i + 1)) (at1 l i).1 = (cnt l (at1 l i).1 i : Int) + 1 := by
      show gM (pM (seenAt l i) (at1 l i).1 (IntKind.i64.wrap (gM (seenAt l i) (at1 l i).1 + 1))) (at1 l i).1 = _
      rw [gM_same, hc, wrap_i64 (by omega) (by omega)]
    show (bif decide (getM (.int .u32) (.int .i64) (seenAt l (i + 1)) (at1 l i).1 > 1) then _ else _) = _
    rw [e1, alone_cnt]
    by_cases q : cnt l (at1 l i).1 i = 0
    · rw [dec_t q, dec_f (by omega : ¬ (cnt l (at1 l i).1 i : Int) + 1 > 1)]
      cases ((at1 l i).1 == 0) <;> cases ((at1 l i).2.1 != p.2.2.2.2.2.2.1) <;> cases ((at1 l i).2.2.1 != p.2.2.2.2.2.2.2.2.1) <;> cases decide ((at1 l i).2.2.2.1 < 1) <;> rfl
    · rw [dec_f q, dec_t (by omega : (cnt l (at1 l i).1 i : Int) + 1 > 1)]; rfl) (by
    unfold prog_fills.l1
    simp only [dec_f (show ¬ (l.length : Int) < (l.length : Int) by omega), cond_false])
  rw [show (((0 : Nat) : Int)) = 0 from rfl] at this
  have this' : iterL prog_fills.l1 loopN (((), ((), (l, ((l.length : Int), 0)))), (p, ([], ()))) = _ := this
  rw [this', Option.bind_some]
  cases allFrom (fillR p l) 0 l.length with
  | false => rfl
  | true =>
    simp only [cond_true, hL, Bool.true_and]
    rw [together_val l hl hw, Option.bind_some]
    cases decide ((l.length : Int) ≤ 12) <;> cases (sumOf (l.map qtyOf)).2.1 <;> rfl

theorem refFills_val (p : Prg) (hl : p.2.2.2.2.1.length < 1000) (hw : ∀ x ∈ p.2.2.2.2.1, WfE kTake x) : pledgeref13_fills p = some (fillsB p) := by
  unfold pledgeref13_fills fillsB
  generalize hL : p.2.2.2.2.1 = l at *
  have := loop_all (step := pledgeref13_fills.l1) (fun i => (((), (l, (i : Int))), (p, ()))) (fillR p l) (.inl (((), l), (p, ()))) (.inr false) l.length (by omega) (fun i hi => by
    have hg := at1_get hi
    unfold pledgeref13_fills.l1 fillR
    simp only [dec_t (show (i : Int) < (l.length : Int) by omega), cond_true]
    rw [nthK_get hg, nthK_get hg, nthK_get hg, nthK_get hg]
    have inner := loop_all (step := pledgeref13_fills.l2) (fun k => (((), (l, ((i : Int), (k : Int)))), (p, ()))) (fun k => !((at1 l k).1 == (at1 l i).1)) (.inl (((), (l, (i : Int))), (p, ()))) (.inr false) i (by omega) (fun k hk => by
      unfold pledgeref13_fills.l2
      simp only [dec_t (show (k : Int) < (i : Int) by omega), cond_true]
      rw [nthK_get (at1_get (by omega : k < l.length)), nthK_get hg, succ_i64 (by omega)]
      cases ((at1 l k).1 == (at1 l i).1) <;> rfl) (by
      unfold pledgeref13_fills.l2
      simp only [dec_f (show ¬ (i : Int) < (i : Int) by omega), cond_false])
    rw [show (((0 : Nat) : Int)) = 0 from rfl] at inner
    rw [inner, Option.bind_some]
    have w3 := succ_i64 (show i < 9223372036854775807 by omega)
    unfold alone
    cases ((at1 l i).1 == 0) with
    | true => simp
    | false =>
      cases ((at1 l i).2.1 != p.2.2.2.2.2.2.1) with
      | true => simp
      | false =>
        cases ((at1 l i).2.2.1 != p.2.2.2.2.2.2.2.2.1) with
        | true => simp
        | false =>
          cases decide ((at1 l i).2.2.2.1 < 1) with
          | true => simp
          | false =>
            cases allFrom (fun k => !((at1 l k).1 == (at1 l i).1)) 0 i with
            | false => rfl
            | true => simp only [cond_true, cond_false, w3, Bool.not_false, Bool.and_true]) (by
    unfold pledgeref13_fills.l1
    simp only [dec_f (show ¬ (l.length : Int) < (l.length : Int) by omega), cond_false])
  rw [show (((0 : Nat) : Int)) = 0 from rfl] at this
  rw [this, Option.bind_some]
  cases ha : allFrom (fillR p l) 0 l.length with
  | false => rfl
  | true =>
    simp only [cond_true, Bool.true_and]
    have hsku : ∀ x ∈ l, x.2.1 = p.2.2.2.2.2.2.1 := by
      intro x hx
      obtain ⟨i, hi, e⟩ := List.getElem_of_mem hx
      have h1 := (allFrom_iff.1 ha) i (by omega) (by omega)
      have ea : at1 l i = x := by unfold at1; rw [List.getD_eq_getElem?_getD, List.getElem?_eq_getElem hi, e]; rfl
      unfold fillR at h1
      rw [ea] at h1
      simp only [Bool.and_eq_true, Bool.not_eq_true', bne_eq_false_iff_eq] at h1
      exact h1.2.2.1
    have en : namedOf p.2.2.2.2.2.2.1 l [] = l.map qtyOf := by
      unfold namedOf
      rw [List.flatMap_nil, List.append_nil]
      exact flat_same hsku
    rw [refNamed_val _ l [] (by omega) (by simp) hw (by simp), Option.bind_some, en]
    cases decide ((l.length : Int) ≤ 12) <;> cases (sumOf (l.map qtyOf)).2.1 <;> rfl
end Go.Proofs.Pure

/- Which programs may be. -/
namespace Go.Proofs.Pure
open Go.Proofs.D Go.Proofs.F

def stillB (p : Prg) : Bool := (p.2.2.2.2.2.2.1 == 0) && ((p.2.2.2.2.2.2.2.1 == 0) && ((p.2.2.2.2.2.2.2.2.1 == 0) && (p.2.2.2.2.2.2.2.2.2.1 == 0)))
def bareB (p : Prg) : Bool := (p.2.2.1 == 0) && ((p.2.2.2.1.length : Int) == 0)
theorem still_val (p : Prg) : prog_still p = some (stillB p) := by
  unfold prog_still stillB
  cases (p.2.2.2.2.2.2.1 == 0) <;> cases (p.2.2.2.2.2.2.2.1 == 0) <;> cases (p.2.2.2.2.2.2.2.2.1 == 0) <;> rfl
theorem bare_val (p : Prg) : prog_bare p = some (bareB p) := by
  unfold prog_bare bareB
  cases (p.2.2.1 == 0) <;> rfl

def orderedB (p : Prg) : Bool := (p.2.1 != 0) && stillB p
def movedB (s w : Int) (p : Prg) : Bool := (p.2.1 == 0) && (bareB p && (((p.2.2.2.2.2.1.length : Int) == 0) && (decide (p.2.2.2.2.2.2.1 < s) && (decide (p.2.2.2.2.2.2.2.2.1 < w) && decide (p.2.2.2.2.2.2.2.2.2.1 ≥ 1)))))

def goodKind (s w : Int) (p : Prg) : Bool :=
  bif p.1 == 1 then orderedB p && (decide (p.2.2.1 ≤ 1) && (decide ((p.2.2.2.1.length : Int) > 0) && (linesB s p.2.2.2.1 && (takesB s w p.2.1 p.2.2.2.2.1 && (linesB s p.2.2.2.2.2.1 && (coveredB p.2.2.2.2.1 p.2.2.2.2.2.1 p.2.2.2.1 && ((p.2.2.1 == 0) || ((p.2.2.2.2.2.1.length : Int) == 0))))))))
  else bif p.1 == 2 then orderedB p && (bareB p && (takesB s w p.2.1 p.2.2.2.2.1 && (linesB s p.2.2.2.2.2.1 && decide ((p.2.2.2.2.1.length : Int) + (p.2.2.2.2.2.1.length : Int) > 0))))
  else bif (p.1 == 3) || (p.1 == 4) then orderedB p && (bareB p && (takesB s w p.2.1 p.2.2.2.2.1 && (decide ((p.2.2.2.2.1.length : Int) > 0) && ((p.2.2.2.2.2.1.length : Int) == 0))))
  else bif p.1 == 5 then movedB s w p && ((p.2.2.2.2.2.2.2.1 == 0) && fillsB p)
  else bif p.1 == 6 then movedB s w p && (((p.2.2.2.2.1.length : Int) == 0) && (decide (p.2.2.2.2.2.2.2.1 < w) && (p.2.2.2.2.2.2.2.1 != p.2.2.2.2.2.2.2.2.1)))
  else false
def fineB (s w : Int) : Bool := !decide (s < 1) && (!decide (s > 4) && (!decide (w < 1) && !decide (w > 4)))
def goodP (s w : Int) (p : Prg) : Bool := fineB s w && goodKind s w p

structure Few (p : Prg) : Prop where
  wf : WfE kProgram p
  lines : p.2.2.2.1.length ≤ 100
  takes : p.2.2.2.2.1.length ≤ 100
  owes : p.2.2.2.2.2.1.length ≤ 100

theorem takesB_lt {s w id : Int} {l : List Tk} (h : takesB s w id l = true) : ∀ x ∈ l, x.1 = id ∧ x.2.1 < s ∧ x.2.2.1 < w ∧ 1 ≤ x.2.2.2.1 := by
  unfold takesB at h
  simp only [Bool.and_eq_true, decide_eq_true_eq] at h
  intro x hx
  obtain ⟨i, hi, e⟩ := List.getElem_of_mem hx
  have := allFrom_at h.1 hi
  have ea : at1 l i = x := by unfold at1; rw [List.getD_eq_getElem?_getD, List.getElem?_eq_getElem hi, e]; rfl
  unfold takeR takeQ tkBase at this
  rw [ea] at this
  simp only [Bool.and_eq_true, Bool.not_eq_true', decide_eq_false_iff_not, bne_eq_false_iff_eq] at this
  obtain ⟨⟨⟨h1, h2, h3, h4⟩, _⟩, _⟩ := this
  exact ⟨h1, by omega, by omega, by omega⟩

theorem Few.w1 {p : Prg} (h : Few p) : ∀ x ∈ p.2.2.2.1, WfE kLine x := h.wf.2.2.2.1.2
theorem Few.w2 {p : Prg} (h : Few p) : ∀ x ∈ p.2.2.2.2.1, WfE kTake x := h.wf.2.2.2.2.1.2
theorem Few.w3 {p : Prg} (h : Few p) : ∀ x ∈ p.2.2.2.2.2.1, WfE kLine x := h.wf.2.2.2.2.2.1.2
theorem Few.k {p : Prg} (h : Few p) : (0 ≤ p.2.2.2.2.2.2.1 ∧ p.2.2.2.2.2.2.1 < 256) ∧ (0 ≤ p.2.2.2.2.2.2.2.1 ∧ p.2.2.2.2.2.2.2.1 < 256) ∧ (0 ≤ p.2.2.2.2.2.2.2.2.1 ∧ p.2.2.2.2.2.2.2.2.1 < 256) :=
  ⟨wf_u8 h.wf.2.2.2.2.2.2.1, wf_u8 h.wf.2.2.2.2.2.2.2.1, wf_u8 h.wf.2.2.2.2.2.2.2.2.1⟩

theorem covered_of {s w : Int} {p : Prg} (h : Few p) (hs : s ≤ 4) (h1 : linesB s p.2.2.2.1 = true) (h2 : takesB s w p.2.1 p.2.2.2.2.1 = true) (h3 : linesB s p.2.2.2.2.2.1 = true) :
    prog_covered p = some (coveredB p.2.2.2.2.1 p.2.2.2.2.2.1 p.2.2.2.1) := by
  have l1 := h.lines; have l2 := h.takes; have l3 := h.owes
  exact progCovered_val p (by omega) (by omega) (by omega) h.w2 h.w3
    (fun x hx => ⟨(wf_u8 (h.w1 x hx).1).1, by have := (linesB_lt h1 x hx).1; omega⟩) (fun x hx => ⟨(wf_u8 (h.w2 x hx).2.1).1, by have := (takesB_lt h2 x hx).2.1; omega⟩) (fun x hx => ⟨(wf_u8 (h.w3 x hx).1).1, by have := (linesB_lt h3 x hx).1; omega⟩)

theorem progGood_val (s w : Int) (p : Prg) (h : Few p) : prog_Good s w p = some (goodP s w p) := by
  have l1 := h.lines; have l2 := h.takes; have l3 := h.owes
  obtain ⟨k1, k2, k3⟩ := h.k
  unfold prog_Good goodP fineB
  cases hs1 : decide (s < 1) with
  | true => rfl
  | false =>
  cases hs2 : decide (s > 4) with
  | true => rfl
  | false =>
  cases hw1 : decide (w < 1) with
  | true => rfl
  | false =>
  cases hw2 : decide (w > 4) with
  | true => rfl
  | false =>
  have hs : s ≤ 4 := by simpa using hs2
  simp only [cond_false, Bool.not_false, Bool.true_and, still_val, bare_val, progLines_val s _ (show p.2.2.2.1.length < 1000 by omega) h.w1, progLines_val s _ (show p.2.2.2.2.2.1.length < 1000 by omega) h.w3, progTakes_val s w p (by omega) h.w2, progFills_val p (by omega) h.w2,
    wrap_i64 (show -9223372036854775808 ≤ p.2.2.2.2.2.2.1 by omega) (by omega), wrap_i64 (show -9223372036854775808 ≤ p.2.2.2.2.2.2.2.1 by omega) (by omega), wrap_i64 (show -9223372036854775808 ≤ p.2.2.2.2.2.2.2.2.1 by omega) (by omega),
    Option.bind_some, cond_some, fst_cond, snd_cond, Bool.cond_self, cond_no]
  have e34 : (bif p.1 == 3 then p.1 == 3 else p.1 == 4) = ((p.1 == 3) || (p.1 == 4)) := by cases (p.1 == 3) <;> rfl
  have hwr : IntKind.i64.wrap ((p.2.2.2.2.1.length : Int) + (p.2.2.2.2.2.1.length : Int)) = (p.2.2.2.2.1.length : Int) + (p.2.2.2.2.2.1.length : Int) := wrap_i64 (by omega) (by omega)
  unfold goodKind orderedB movedB
  rw [e34, hwr]
  cases p.1 == 1 with
  | false => simp only [cond_false, cond_no]
  | true =>
    simp only [cond_true]
    cases ((p.2.1 != 0) && stillB p) with
    | false => rfl
    | true =>
    cases decide (p.2.2.1 ≤ 1) with
    | false => rfl
    | true =>
    cases decide ((p.2.2.2.1.length : Int) > 0) with
    | false => rfl
    | true =>
    cases c1 : linesB s p.2.2.2.1 with
    | false => rfl
    | true =>
    cases c2 : takesB s w p.2.1 p.2.2.2.2.1 with
    | false => rfl
    | true =>
    cases c3 : linesB s p.2.2.2.2.2.1 with
    | false => rfl
    | true =>
    simp only [cond_true, Bool.true_and]
    rw [covered_of h hs c1 c2 c3, Option.bind_some, cond_yes]
end Go.Proofs.Pure

/- Which programs may be, by the document: the same. -/
namespace Go.Proofs.Pure
open Go.Proofs.D Go.Proofs.F

def sameP (x y : Prg) : Bool := (x.1 == y.1) && ((x.2.1 == y.2.1) && ((x.2.2.1 == y.2.2.1) && (sameL x.2.2.2.1 y.2.2.2.1 && (sameT x.2.2.2.2.1 y.2.2.2.2.1 && (sameL x.2.2.2.2.2.1 y.2.2.2.2.2.1 && ((x.2.2.2.2.2.2.1 == y.2.2.2.2.2.2.1) && ((x.2.2.2.2.2.2.2.1 == y.2.2.2.2.2.2.2.1) && ((x.2.2.2.2.2.2.2.2.1 == y.2.2.2.2.2.2.2.2.1) && (x.2.2.2.2.2.2.2.2.2.1 == y.2.2.2.2.2.2.2.2.2.1)))))))))
theorem sameP_refl (x : Prg) : sameP x x = true := by unfold sameP; simp [sameL_refl, sameT_refl]

theorem refSameP_val (x y : Prg) (h1 : x.2.2.2.1.length < 1000) (h2 : x.2.2.2.2.1.length < 1000) (h3 : x.2.2.2.2.2.1.length < 1000) : pledgeref13_Same x y = some (sameP x y) := by
  unfold pledgeref13_Same sameP
  rw [ref_equal_val _ _ h1, ref_equalT_val _ _ h2, ref_equal_val _ _ h3]
  simp only [Option.bind_some, cond_some, cond_no]

theorem sameL_nil (x : List Ln) : sameL x [] = ((x.length : Int) == 0) := by
  unfold sameL
  cases x with
  | nil => rfl
  | cons a x => rw [show ((a :: x).length == ([] : List Ln).length) = false by simp, show (((a :: x).length : Int) == 0) = false by rw [beq_eq_false_iff_ne]; simp only [List.length_cons]; omega]; rfl
theorem sameT_nil (x : List Tk) : sameT x [] = ((x.length : Int) == 0) := by
  unfold sameT
  cases x with
  | nil => rfl
  | cons a x => rw [show ((a :: x).length == ([] : List Tk).length) = false by simp, show (((a :: x).length : Int) == 0) = false by rw [beq_eq_false_iff_ne]; simp only [List.length_cons]; omega]; rfl

theorem refCovered_of {s : Int} {p : Prg} (h : Few p) (hs : s ≤ 4) (h1 : linesB s p.2.2.2.1 = true) : pledgeref13_covered p = some (coveredB p.2.2.2.2.1 p.2.2.2.2.2.1 p.2.2.2.1) := by
  have l1 := h.lines; have l2 := h.takes; have l3 := h.owes
  exact refCovered_val p hs h1 (by omega) (by omega) (by omega) h.w1 h.w2 h.w3

theorem refGoodP_val (s w : Int) (p : Prg) (h : Few p) : pledgeref13_Good s w p = some (goodP s w p) := by
  have l1 := h.lines; have l2 := h.takes; have l3 := h.owes
  obtain ⟨k1, k2, k3⟩ := h.k
  unfold pledgeref13_Good goodP fineB
  cases hs1 : decide (s < 1) with
  | true => rfl
  | false =>
  cases hs2 : decide (s > 4) with
  | true => rfl
  | false =>
  cases hw1 : decide (w < 1) with
  | true => rfl
  | false =>
  cases hw2 : decide (w > 4) with
  | true => rfl
  | false =>
  have hs : s ≤ 4 := by simpa using hs2
  simp only [cond_false, Bool.not_false, Bool.true_and, refLines_val s _ (show p.2.2.2.1.length < 1000 by omega) h.w1, refLines_val s _ (show p.2.2.2.2.2.1.length < 1000 by omega) h.w3, refTakes_val s w p (by omega) h.w2, refFills_val p (by omega) h.w2,
    wrap_i64 (show -9223372036854775808 ≤ p.2.2.2.2.2.2.1 by omega) (by omega), wrap_i64 (show -9223372036854775808 ≤ p.2.2.2.2.2.2.2.1 by omega) (by omega), wrap_i64 (show -9223372036854775808 ≤ p.2.2.2.2.2.2.2.2.1 by omega) (by omega),
    Option.bind_some, cond_some, fst_cond, snd_cond, Bool.cond_self]
  have e34 : (bif p.1 == 3 then p.1 == 3 else p.1 == 4) = ((p.1 == 3) || (p.1 == 4)) := by cases (p.1 == 3) <;> rfl
  have hwr : IntKind.i64.wrap ((p.2.2.2.2.1.length : Int) + (p.2.2.2.2.2.1.length : Int)) = (p.2.2.2.2.1.length : Int) + (p.2.2.2.2.2.1.length : Int) := wrap_i64 (by omega) (by omega)
  have hsame : ∀ q : Prg, pledgeref13_Same p q = some (sameP p q) := fun q => refSameP_val p q (by omega) (by omega) (by omega)
  have fin : ∀ (x : (Unit × Unit × Bool) × Prg × Prg × Unit), x.2.1 = p → ((some x).bind fun y47 => bif y47.1.2.2 then (pledgeref13_Same y47.2.1 y47.2.2.1).bind fun r48 => some r48 else some false) = some (x.1.2.2 && sameP p x.2.2.1) := by
    intro x hx
    rw [Option.bind_some, hx, hsame, Option.bind_some]
    cases x.1.2.2 <;> rfl
  unfold goodKind orderedB movedB
  by_cases c1 : p.1 = 1
  · simp only [show (p.1 == 1) = true by rw [beq_iff_eq]; exact c1, cond_true]
    cases (p.2.1 != 0) with
    | false => rfl
    | true =>
    cases decide (p.2.2.1 ≤ 1) with
    | false => rw [Bool.and_comm]; rfl
    | true =>
    cases decide ((p.2.2.2.1.length : Int) > 0) with
    | false => rw [Bool.and_comm]; rfl
    | true =>
    cases c2 : linesB s p.2.2.2.1 with
    | false => rw [Bool.and_comm]; rfl
    | true =>
    cases takesB s w p.2.1 p.2.2.2.2.1 with
    | false => rw [Bool.and_comm]; rfl
    | true =>
    cases linesB s p.2.2.2.2.2.1 with
    | false => rw [Bool.and_comm]; rfl
    | true =>
    simp only [cond_true, Bool.true_and]
    rw [refCovered_of h hs c2, Option.bind_some]
    cases coveredB p.2.2.2.2.1 p.2.2.2.2.2.1 p.2.2.2.1 with
    | false => rw [Bool.and_comm]; rfl
    | true =>
    have hst : sameP p (p.1, p.2.1, p.2.2.1, p.2.2.2.1, p.2.2.2.2.1, p.2.2.2.2.2.1, 0, 0, 0, 0, ()) = stillB p := by
      unfold sameP stillB
      simp only [beq_self_eq_true, sameL_refl, sameT_refl, Bool.true_and]
    simp only [cond_true, Bool.true_and]
    cases (p.2.2.1 == 0) with
    | true => simp only [cond_true]; refine (fin _ rfl).trans ?_; simp only [hst, Bool.true_or, Bool.true_and, Bool.and_true]
    | false => simp only [cond_false]; refine (fin _ rfl).trans ?_; simp only [hst, Bool.false_or, Bool.and_comm]
  simp only [show (p.1 == 1) = false by rw [beq_eq_false_iff_ne]; exact c1, cond_false, e34, hwr]
  by_cases c2 : p.1 = 2
  · simp only [show (p.1 == 2) = true by rw [beq_iff_eq]; exact c2, cond_true]
    have hst : sameP p (p.1, p.2.1, 0, [], p.2.2.2.2.1, p.2.2.2.2.2.1, 0, 0, 0, 0, ()) = (bareB p && stillB p) := by
      unfold sameP stillB bareB
      simp only [beq_self_eq_true, sameL_refl, sameT_refl, sameL_nil, Bool.true_and, Bool.and_assoc]
    cases (p.2.1 != 0) with
    | false => rfl
    | true =>
    cases takesB s w p.2.1 p.2.2.2.2.1 with
    | false => simp
    | true =>
    cases linesB s p.2.2.2.2.2.1 with
    | false => simp
    | true =>
    simp only [cond_true]
    refine (fin _ rfl).trans ?_
    simp only [hst, Bool.true_and]
    cases decide ((p.2.2.2.2.1.length : Int) + (p.2.2.2.2.2.1.length : Int) > 0) <;> cases bareB p <;> cases stillB p <;> rfl
  simp only [show (p.1 == 2) = false by rw [beq_eq_false_iff_ne]; exact c2, cond_false]
  cases c34 : ((p.1 == 3) || (p.1 == 4)) with
  | true =>
    simp only [cond_true]
    have hst : sameP p (p.1, p.2.1, 0, [], p.2.2.2.2.1, [], 0, 0, 0, 0, ()) = (bareB p && (((p.2.2.2.2.2.1.length : Int) == 0) && stillB p)) := by
      unfold sameP stillB bareB
      simp only [beq_self_eq_true, sameT_refl, sameL_nil, Bool.true_and, Bool.and_assoc]
    cases (p.2.1 != 0) with
    | false => rfl
    | true =>
    cases takesB s w p.2.1 p.2.2.2.2.1 with
    | false => simp
    | true =>
    simp only [cond_true]
    refine (fin _ rfl).trans ?_
    simp only [hst, Bool.true_and]
    cases decide ((p.2.2.2.2.1.length : Int) > 0) <;> cases bareB p <;> cases stillB p <;> cases ((p.2.2.2.2.2.1.length : Int) == 0) <;> rfl
  | false =>
    simp only [cond_false]
    by_cases c5 : p.1 = 5
    · simp only [show (p.1 == 5) = true by rw [beq_iff_eq]; exact c5, cond_true]
      have hst : sameP p (p.1, 0, 0, [], p.2.2.2.2.1, [], p.2.2.2.2.2.2.1, 0, p.2.2.2.2.2.2.2.2.1, p.2.2.2.2.2.2.2.2.2.1, ()) = ((p.2.1 == 0) && (bareB p && (((p.2.2.2.2.2.1.length : Int) == 0) && (p.2.2.2.2.2.2.2.1 == 0)))) := by
        unfold sameP bareB
        simp only [beq_self_eq_true, sameT_refl, sameL_nil, Bool.true_and, Bool.and_assoc, Bool.and_true]
      cases decide (p.2.2.2.2.2.2.1 < s) with
      | false => simp
      | true =>
      cases decide (p.2.2.2.2.2.2.2.2.1 < w) with
      | false => simp
      | true =>
      cases decide (p.2.2.2.2.2.2.2.2.2.1 ≥ 1) with
      | false => simp
      | true =>
      simp only [cond_true]
      refine (fin _ rfl).trans ?_
      simp only [hst]
      cases fillsB p <;> cases (p.2.1 == 0) <;> cases bareB p <;> cases ((p.2.2.2.2.2.1.length : Int) == 0) <;> cases (p.2.2.2.2.2.2.2.1 == 0) <;> rfl
    simp only [show (p.1 == 5) = false by rw [beq_eq_false_iff_ne]; exact c5, cond_false]
    by_cases c6 : p.1 = 6
    · simp only [show (p.1 == 6) = true by rw [beq_iff_eq]; exact c6, cond_true]
      have hst : sameP p (6, 0, 0, [], [], [], p.2.2.2.2.2.2.1, p.2.2.2.2.2.2.2.1, p.2.2.2.2.2.2.2.2.1, p.2.2.2.2.2.2.2.2.2.1, ()) = ((p.2.1 == 0) && (bareB p && (((p.2.2.2.2.1.length : Int) == 0) && ((p.2.2.2.2.2.1.length : Int) == 0)))) := by
        unfold sameP bareB
        simp only [show (p.1 == 6) = true by rw [beq_iff_eq]; exact c6, beq_self_eq_true, sameT_nil, sameL_nil, Bool.true_and, Bool.and_assoc, Bool.and_true]
      cases decide (p.2.2.2.2.2.2.1 < s) with
      | false => simp
      | true =>
      cases decide (p.2.2.2.2.2.2.2.1 < w) with
      | false => simp
      | true =>
      cases decide (p.2.2.2.2.2.2.2.2.1 < w) with
      | false => simp
      | true =>
      cases (p.2.2.2.2.2.2.2.1 != p.2.2.2.2.2.2.2.2.1) with
      | false => simp
      | true =>
      simp only [cond_true]
      refine (fin _ rfl).trans ?_
      simp only [hst]
      cases decide (p.2.2.2.2.2.2.2.2.2.1 ≥ 1) <;> cases (p.2.1 == 0) <;> cases bareB p <;> cases ((p.2.2.2.2.2.1.length : Int) == 0) <;> cases ((p.2.2.2.2.1.length : Int) == 0) <;> rfl
    simp only [show (p.1 == 6) = false by rw [beq_eq_false_iff_ne]; exact c6, cond_false]
    rfl
end Go.Proofs.Pure

/- Numbers in bytes, the least first. -/
namespace Go.Proofs.Pure
open Go.Proofs.D Go.Proofs.F

def leN : Nat → Int → List Int
  | 0, _ => []
  | n + 1, x => x % 256 :: leN n (x / 256)
def leVal : List Int → Int
  | [] => 0
  | b :: l => b + 256 * leVal l
def BytesOk (l : List Int) : Prop := ∀ b ∈ l, 0 ≤ b ∧ b < 256
theorem leN_len : ∀ (n : Nat) (x : Int), (leN n x).length = n
  | 0, _ => rfl
  | n + 1, x => by simp [leN, leN_len n]
theorem leN_ok : ∀ (n : Nat) (x : Int), BytesOk (leN n x)
  | 0, _, b, h => by cases h
  | n + 1, x, b, h => by
    rcases List.mem_cons.1 h with e | e
    · rw [e]; omega
    · exact leN_ok n _ b e
theorem leVal_leN : ∀ (n : Nat) (x : Int), 0 ≤ x → x < 256 ^ n → leVal (leN n x) = x
  | 0, x, h0, h => by simp at h; simp [leN, leVal]; omega
  | n + 1, x, h0, h => by
    have hd : x / 256 < 256 ^ n := by
      rw [Int.pow_succ] at h
      exact Int.ediv_lt_of_lt_mul (by omega) h
    simp only [leN, leVal, leVal_leN n (x / 256) (by omega) hd]
    omega
theorem leVal_bnd : ∀ (l : List Int), BytesOk l → 0 ≤ leVal l ∧ leVal l < 256 ^ l.length
  | [], _ => by simp [leVal]
  | b :: l, h => by
    have hb := h b List.mem_cons_self
    have ih := leVal_bnd l fun c hc => h c (List.mem_cons_of_mem _ hc)
    simp only [leVal, List.length_cons, Int.pow_succ]
    omega
theorem leN_leVal : ∀ (l : List Int), BytesOk l → leN l.length (leVal l) = l
  | [], _ => rfl
  | b :: l, h => by
    have hb := h b List.mem_cons_self
    have ih := leN_leVal l fun c hc => h c (List.mem_cons_of_mem _ hc)
    simp only [List.length_cons, leN, leVal]
    rw [show (b + 256 * leVal l) % 256 = b by omega, show (b + 256 * leVal l) / 256 = leVal l by omega, ih]

/-! ### One byte of a number -/
def byteAt (x : Int) (i : Nat) : Int := x / 256 ^ i % 256
theorem leN_get : ∀ (n : Nat) (x : Int) (i : Nat), i < n → (leN n x)[i]? = some (byteAt x i)
  | 0, _, _, h => absurd h (Nat.not_lt_zero _)
  | n + 1, x, 0, _ => by simp [leN, byteAt]
  | n + 1, x, i + 1, h => by
    simp only [leN, List.getElem?_cons_succ]
    rw [leN_get n (x / 256) i (by omega)]
    unfold byteAt
    rw [Int.pow_succ, Int.mul_comm, Int.ediv_ediv_of_nonneg (by omega)]
theorem pow8 (i : Nat) : (2 : Int) ^ (8 * i) = 256 ^ i := by rw [Int.pow_mul]; rfl
theorem shift_byte (x : Int) (i : Nat) (h0 : 0 ≤ x) (hi : i < 8) : IntKind.u8.wrap (Int.fdiv x (2 ^ (min (IntKind.i64.wrap (8 * (i : Int)) : Int).toNat 64))) = byteAt x i := by
  have e1 : IntKind.i64.wrap (8 * (i : Int)) = 8 * (i : Int) := wrap_i64 (by omega) (by omega)
  have e2 : (8 * (i : Int)).toNat = 8 * i := by omega
  rw [e1, e2, Nat.min_eq_left (by omega), pow8, Int.fdiv_eq_ediv_of_nonneg _ (Int.pow_nonneg (by omega))]
  rfl

/-! ### A byte put above a number -/
theorem or_add (a c : Int) (k : Nat) (ha0 : 0 ≤ a) (ha : a < 2 ^ k) (hc0 : 0 ≤ c) (hb : a + c * 2 ^ k < 2 ^ 64) : bitsOr .u64 a (c * 2 ^ k) = a + c * 2 ^ k := by
  obtain ⟨x, rfl⟩ : ∃ x : Nat, a = x := ⟨a.toNat, by omega⟩
  obtain ⟨y, rfl⟩ : ∃ y : Nat, c = y := ⟨c.toNat, by omega⟩
  have hx : x < 2 ^ k := by exact_mod_cast ha
  have hb' : x + y * 2 ^ k < 2 ^ 64 := by exact_mod_cast hb
  have hor : x ||| y * 2 ^ k = x + y * 2 ^ k := by
    have := Nat.shiftLeft_add_eq_or_of_lt hx y
    rw [Nat.shiftLeft_eq] at this
    rw [Nat.or_comm, ← this, Nat.add_comm]
  have hcast : ((y : Int) * 2 ^ k) = ((y * 2 ^ k : Nat) : Int) := by push_cast; rfl
  unfold bitsOr
  rw [hcast]
  show ((((BitVec.ofInt 64 (x : Int)) ||| (BitVec.ofInt 64 ((y * 2 ^ k : Nat) : Int))).toNat : Int)) % 18446744073709551616 = _
  rw [BitVec.ofInt_natCast, BitVec.ofInt_natCast, BitVec.toNat_or, BitVec.toNat_ofNat, BitVec.toNat_ofNat, Nat.mod_eq_of_lt (show x < 2 ^ 64 by omega), Nat.mod_eq_of_lt (show y * 2 ^ k < 2 ^ 64 by omega), hor]
  omega
end Go.Proofs.Pure

/- What the writer writes of a program, byte by byte; what the document writes. -/
namespace Go.Proofs.Pure
open Go.Proofs.D Go.Proofs.F

theorem bind_of {α β : Type} {o : Option α} {x : α} {f : α → Option β} (h : o = some x) : o.bind f = f x := by rw [h]; rfl
def le8 (x : Int) : List Int := leN 8 (IntKind.u64.wrap x)
def lineV (x : Ln) : List Int := leN 1 x.1 ++ le8 x.2.1
def linesV (l : List Ln) : List Int := leN 1 (l.length : Int) ++ l.flatMap lineV
def takeV (x : Tk) : List Int := leN 4 x.1 ++ ([x.2.1, x.2.2.1] ++ le8 x.2.2.2.1)
def takesV (l : List Tk) : List Int := leN 1 (l.length : Int) ++ l.flatMap takeV
def encV (p : Prg) : List Int := leN 1 p.1 ++ (leN 4 p.2.1 ++ (leN 1 p.2.2.1 ++ (linesV p.2.2.2.1 ++ (takesV p.2.2.2.2.1 ++ (linesV p.2.2.2.2.2.1 ++ ([p.2.2.2.2.2.2.1, p.2.2.2.2.2.2.2.1, p.2.2.2.2.2.2.2.2.1] ++ le8 p.2.2.2.2.2.2.2.2.2.1))))))
theorem le8_len (x : Int) : (le8 x).length = 8 := leN_len 8 _
theorem lineV_len (x : Ln) : (lineV x).length = 9 := by unfold lineV; rw [List.length_append, leN_len, le8_len]
theorem takeV_len (x : Tk) : (takeV x).length = 14 := by unfold takeV; simp only [List.length_append, leN_len, le8_len, List.length_cons, List.length_nil]
theorem flatB_len {α : Type} {f : α → List Int} {n : Nat} (h : ∀ x, (f x).length = n) : ∀ l : List α, (l.flatMap f).length = n * l.length
  | [] => rfl
  | x :: l => by rw [List.flatMap_cons, List.length_append, h, flatB_len h l, List.length_cons, Nat.mul_add]; omega
theorem linesV_len (l : List Ln) : (linesV l).length = 1 + 9 * l.length := by unfold linesV; rw [List.length_append, leN_len, flatB_len lineV_len]
theorem takesV_len (l : List Tk) : (takesV l).length = 1 + 14 * l.length := by unfold takesV; rw [List.length_append, leN_len, flatB_len takeV_len]
theorem leN1 (x : Int) (h0 : 0 ≤ x) (h : x < 256) : leN 1 x = [x] := by
  show [x % 256] = [x]
  rw [Int.emod_eq_of_lt h0 h]
theorem walk_foldl {α A X : Type} (g : A → α → A) (fin : A → X) : ∀ (l : List α) (i : Nat) (acc : A), walkL (fun _ x a => .inl (g a x)) fin i l acc = fin (l.foldl g acc)
  | [], i, acc => rfl
  | x :: l, i, acc => by
    rw [walkL]
    exact walk_foldl g fin l (i + 1) (g acc x)
theorem fold_flat {α : Type} (f : α → List Int) : ∀ (l : List α) (a : List Int), l.foldl (fun a x => a ++ f x) a = a ++ l.flatMap f
  | [], a => by simp
  | x :: l, a => by rw [List.foldl_cons, fold_flat f l, List.flatMap_cons, List.append_assoc]

/-! ### The writer -/
abbrev Wr := (Int × Unit) × Unit × Int × Unit
def wr0 : Wr := ((0, ()), ((), (512, ())))
abbrev WrOut := Unit × Wr × Unit × List Int × Unit
def wOut (b : List Int) : WrOut := ((), (wr0, ((), (b, ()))))
theorem raw_val (x b : List Int) (h : b.length + x.length ≤ 512) : wire_Writer_Raw () x wr0 b = some (wOut (b ++ x)) := by
  have e1 : IntKind.i64.wrap (512 - (b.length : Int)) = 512 - (b.length : Int) := wrap_i64 (by omega) (by omega)
  show (bif !((0 : Int) == 0) then some ((), (((0, ()), ((), (512, ()))), ((), (b, ())))) else bif decide ((x.length : Int) > (IntKind.i64.wrap (512 - (b.length : Int)))) then _ else room (b.length + x.length) (some ((), (((0, ()), ((), (512, ()))), ((), (b ++ x, ())))))) = _
  rw [e1, dec_f (show ¬ (x.length : Int) > 512 - (b.length : Int) by omega), room_ok (by omega)]
  rfl
theorem pow256 (n : Nat) : (256 : Int) ^ n = 2 ^ (8 * n) := (pow8 n).symm
theorem set_take (arr : List Int) (i : Nat) (v : Int) (h : i < arr.length) : (arr.set i v).take (i + 1) = arr.take i ++ [v] := by
  rw [List.take_add_one, List.getElem?_set_self h, List.take_set_of_le (Nat.le_refl i)]; rfl
theorem num_val (x : Int) (n : Nat) (b : List Int) (h1 : 1 ≤ n) (h8 : n ≤ 8) (h0 : 0 ≤ x) (hx : x < 256 ^ n) (hb : b.length + n ≤ 512) : wire_Writer_Num () x (n : Int) wr0 b = some (wOut (b ++ leN n x)) := by
  have hz : n < 8 → Int.fdiv x (2 ^ (min (IntKind.i64.wrap (8 * (n : Int)) : Int).toNat 64)) = 0 := fun h => by
    have e1 : IntKind.i64.wrap (8 * (n : Int)) = 8 * (n : Int) := wrap_i64 (by omega) (by omega)
    rw [e1, show (8 * (n : Int)).toNat = 8 * n by omega, Nat.min_eq_left (by omega), Int.fdiv_eq_ediv_of_nonneg _ (Int.pow_nonneg (by omega)), pow8]
    exact Int.ediv_eq_zero_of_lt h0 hx
  unfold wire_Writer_Num
  have hchk : decide (0 ≤ (IntKind.i64.wrap (8 * (n : Int)))) = true := by rw [wrap_i64 (by omega) (by omega)]; simp; omega
  have hpre : (bif decide ((n : Int) < 1) then some ((((), (x, ((n : Int), true))), ((wr0.1, ((), wr0.2.2)), (b, ())))) else bif decide ((n : Int) > 8) then some ((((), (x, ((n : Int), true))), ((wr0.1, ((), wr0.2.2)), (b, ())))) else bif decide ((n : Int) < 8) then chk (decide (0 ≤ (IntKind.i64.wrap (8 * (n : Int))))) (some ((((), (x, ((n : Int), (Int.fdiv x (2 ^ (min (IntKind.i64.wrap (8 * (n : Int)) : Int).toNat 64)) : Int) != 0))), ((wr0.1, ((), wr0.2.2)), (b, ()))))) else some ((((), (x, ((n : Int), false))), ((wr0.1, ((), wr0.2.2)), (b, ())))) : Option ((Unit × Int × Int × Bool) × Wr × List Int × Unit)) = some ((((), (x, ((n : Int), false))), (wr0, (b, ())))) := by
    rw [dec_f (show ¬ (n : Int) < 1 by omega), dec_f (show ¬ (n : Int) > 8 by omega)]
    by_cases h : n < 8
    · rw [dec_t (show (n : Int) < 8 by omega), chk_true hchk, hz h]; rfl
    · rw [dec_f (show ¬ (n : Int) < 8 by omega)]; rfl
  have key : ∀ (k i : Nat) (arr : List Int) (m : Nat), i + k = n → k < m → arr.length = 8 → arr.take i = (leN n x).take i → ∃ arr' : List Int, arr'.length = 8 ∧ arr'.take n = leN n x ∧ iterL wire_Writer_Num.l1 m (((), (x, ((n : Int), ((), ((n : Int), (i : Int)))))), (wr0, (b, (arr, ())))) = some (((), ((n : Int), ())), (wr0, (b, (arr', ())))) := by
    intro k
    induction k with
    | zero =>
      intro i arr m hi hm ha ht
      obtain ⟨m, rfl⟩ : ∃ q, m = q + 1 := ⟨m - 1, by omega⟩
      refine ⟨arr, ha, ?_, iterL_done ?_⟩
      · rw [show n = i by omega] at ht ⊢
        rw [ht, List.take_of_length_le (by rw [leN_len]; omega)]
      · unfold wire_Writer_Num.l1
        simp only [dec_f (show ¬ (i : Int) < (n : Int) by omega), cond_false]
    | succ k ih =>
      intro i arr m hi hm ha ht
      obtain ⟨m, rfl⟩ : ∃ q, m = q + 1 := ⟨m - 1, by omega⟩
      have hs : wire_Writer_Num.l1 (((), (x, ((n : Int), ((), ((n : Int), (i : Int)))))), (wr0, (b, (arr, ())))) = some (.inl (((), (x, ((n : Int), ((), ((n : Int), ((i + 1 : Nat) : Int)))))), (wr0, (b, (arr.set i (byteAt x i), ()))))) := by
        obtain ⟨z, hz⟩ : ∃ z, arr[i]? = some z := ⟨_, List.getElem?_eq_getElem (by omega)⟩
        unfold wire_Writer_Num.l1
        simp only [dec_t (show (i : Int) < (n : Int) by omega), cond_true]
        rw [chk_true (by rw [wrap_i64 (by omega) (by omega)]; simp; omega), chk_true (by simp; omega)]
        show nthN arr i (fun e25 => _) = _
        rw [nthN_get hz, succ_i64 (by omega), shift_byte x i h0 (by omega)]
      obtain ⟨a', g1, g2, g3⟩ := ih (i + 1) (arr.set i (byteAt x i)) m (by omega) (by omega) (by rw [List.length_set]; exact ha) (by rw [set_take _ _ _ (by omega), List.take_add_one, ht, leN_get n x i (by omega)]; rfl)
      exact ⟨a', g1, g2, (iterL_next hs).trans g3⟩
  obtain ⟨arr', g1, g2, g3⟩ := key n 0 (List.replicate 8 0) loopN (by omega) (by rw [loopN_eq]; omega) (by simp) rfl
  refine (bind_of hpre).trans ?_
  show ((iterL wire_Writer_Num.l1 loopN (((), (x, ((n : Int), ((), ((n : Int), 0))))), (wr0, (b, (List.replicate 8 0, ()))))).bind _) = _
  refine (bind_of g3).trans ?_
  show chk (decide (0 ≤ (n : Int)) && decide ((n : Int) ≤ 8)) ((wire_Writer_Raw () ((arr'.take (n : Int).toNat).drop 0) wr0 b).bind fun r27 => some ((), ((r27.2.1.1, ((), r27.2.1.2.2)), ((), (r27.2.2.2.1, ()))))) = _
  rw [chk_true (by simp; omega), Int.toNat_natCast, List.drop_zero, g2, raw_val _ _ (by rw [leN_len]; omega)]
  rfl
theorem u64_of {x : Int} (h0 : 0 ≤ x) (h : x < 18446744073709551616) : IntKind.u64.wrap x = x := by
  show x % 18446744073709551616 = x
  omega
theorem u64_bnd (x : Int) : 0 ≤ IntKind.u64.wrap x ∧ IntKind.u64.wrap x < 256 ^ 8 := by
  show 0 ≤ x % 18446744073709551616 ∧ x % 18446744073709551616 < 18446744073709551616
  omega
theorem num1_val (x : Int) (b : List Int) (h0 : 0 ≤ x) (h : x < 256) (hb : b.length + 1 ≤ 512) : wire_Writer_Num () (IntKind.u64.wrap x) 1 wr0 b = some (wOut (b ++ leN 1 x)) := by
  rw [u64_of h0 (by omega)]; exact num_val x 1 b (by omega) (by omega) h0 (by omega) hb
theorem num4_val (x : Int) (b : List Int) (h0 : 0 ≤ x) (h : x < 4294967296) (hb : b.length + 4 ≤ 512) : wire_Writer_Num () (IntKind.u64.wrap x) 4 wr0 b = some (wOut (b ++ leN 4 x)) := by
  rw [u64_of h0 (by omega)]; exact num_val x 4 b (by omega) (by omega) h0 (by omega) hb
theorem int_val (x : Int) (b : List Int) (hb : b.length + 8 ≤ 512) : wire_Writer_Int () x wr0 b = some (wOut (b ++ le8 x)) := by
  have h2 := num_val (IntKind.u64.wrap x) 8 b (by omega) (by omega) (u64_bnd x).1 (u64_bnd x).2 hb
  unfold wire_Writer_Int
  exact (bind_of h2).trans rfl
theorem putLines_val (l : List Ln) (b : List Int) (hw : ∀ x ∈ l, WfE kLine x) (hl : l.length < 256) (hb : b.length + 1 + 9 * l.length ≤ 512) : prog_putLines () l wr0 b = some (wOut (b ++ linesV l)) := by
  unfold prog_putLines
  refine (bind_of (num1_val (l.length : Int) b (by omega) (by omega) (by omega))).trans ?_
  have h := loop_walk (step := prog_putLines.l1) l (fun i (a : List Int) => (((), (l, ((l.length : Int), (i : Int)))), (wr0, ((), (a, ()))))) (fun _ e a => .inl (a ++ lineV e)) (fun a => ((), (wr0, ((), (a, ()))))) (fun i a => a.length = b.length + 1 + 9 * i) (b ++ leN 1 (l.length : Int)) (by omega) (by rw [List.length_append, leN_len]) (fun i e a he ha => by
    have hlt := get_lt he
    have hwe := wf_u8 (hw e (get_mem he)).1
    refine ⟨?_, fun c hc => by cases hc; rw [List.length_append, lineV_len]; omega⟩
    have b2 := num1_val e.1 a (by omega) (by omega) (by omega)
    have c2 := int_val e.2.1 (a ++ leN 1 e.1) (by rw [List.length_append, leN_len]; omega)
    unfold prog_putLines.l1
    simp only [dec_t (show (i : Int) < (l.length : Int) by omega), cond_true]
    rw [nthK_get he]
    refine (bind_of b2).trans ?_
    refine (bind_of c2).trans ?_
    rw [succ_i64 (by omega)]
    show some (Sum.inl (((), (l, ((l.length : Int), ((i + 1 : Nat) : Int)))), (wr0, ((), (a ++ leN 1 e.1 ++ le8 e.2.1, ()))))) = _
    rw [List.append_assoc]; rfl) (fun a _ => by
    unfold prog_putLines.l1
    simp only [dec_f (show ¬ (l.length : Int) < (l.length : Int) by omega), cond_false])
  rw [walk_foldl (fun (a : List Int) (e : Ln) => a ++ lineV e), fold_flat, List.append_assoc] at h
  exact (bind_of h).trans rfl
theorem takes_val (p : Prg) (l : List Tk) (b : List Int) (hw : ∀ x ∈ l, WfE kTake x) (hl : l.length < 256) (hb : b.length + 14 * l.length ≤ 512) : iterL prog_Encode.l1 loopN (((), ((), (l, ((l.length : Int), 0)))), (p, (wr0, (b, ())))) = some (((), ()), (p, (wr0, (b ++ l.flatMap takeV, ())))) := by
  have h := loop_walk (step := prog_Encode.l1) l (fun i (a : List Int) => (((), ((), (l, ((l.length : Int), (i : Int))))), (p, (wr0, (a, ()))))) (fun _ e a => .inl (a ++ takeV e)) (fun a => (((), ()), (p, (wr0, (a, ()))))) (fun i a => a.length = b.length + 14 * i) b (by omega) (by omega) (fun i e a he ha => by
    have hlt := get_lt he
    have hwe := wf_u32 (hw e (get_mem he)).1
    refine ⟨?_, fun c hc => by cases hc; rw [List.length_append, takeV_len]; omega⟩
    have b2 := num4_val e.1 a (by omega) (by omega) (by omega)
    have c2 := raw_val [e.2.1, e.2.2.1] (a ++ leN 4 e.1) (by simp only [List.length_append, List.length_cons, List.length_nil, leN_len, linesV_len, flatB_len takeV_len, le8_len]; omega)
    have d2 := int_val e.2.2.2.1 (a ++ leN 4 e.1 ++ [e.2.1, e.2.2.1]) (by simp only [List.length_append, List.length_cons, List.length_nil, leN_len, linesV_len, flatB_len takeV_len, le8_len]; omega)
    unfold prog_Encode.l1
    simp only [dec_t (show (i : Int) < (l.length : Int) by omega), cond_true]
    rw [nthK_get he]
    refine (bind_of b2).trans ?_
    refine (bind_of c2).trans ?_
    refine (bind_of d2).trans ?_
    rw [succ_i64 (by omega)]
    show some (Sum.inl (((), ((), (l, ((l.length : Int), ((i + 1 : Nat) : Int))))), (p, (wr0, (a ++ leN 4 e.1 ++ [e.2.1, e.2.2.1] ++ le8 e.2.2.2.1, ()))))) = _
    rw [List.append_assoc, List.append_assoc]; rfl) (fun a _ => by
    unfold prog_Encode.l1
    simp only [dec_f (show ¬ (l.length : Int) < (l.length : Int) by omega), cond_false])
  rw [walk_foldl (fun (a : List Int) (e : Tk) => a ++ takeV e), fold_flat] at h
  exact h
theorem done_val (b : List Int) (hb : b.length ≤ 512) : wire_Writer_Done () wr0 b = some ((b, (0, ())), (wr0, (b, ()))) := by
  show room (0 + b.length) (some (([] ++ b, (0, ())), (wr0, (b, ())))) = _
  rw [room_ok (by omega)]; rfl
theorem encode_val (p : Prg) (hf : Few p) (hg : goodP 4 4 p = true) (hn : 20 + 9 * p.2.2.2.1.length + 14 * p.2.2.2.2.1.length + 9 * p.2.2.2.2.2.1.length ≤ 500) : prog_Encode p = some (encV p, (0, ())) := by
  have l1 := hf.lines; have l2 := hf.takes; have l3 := hf.owes
  have w0 := wf_u8 hf.wf.1
  have w1 := wf_u32 hf.wf.2.1
  have w2 := wf_u8 hf.wf.2.2.1
  have e1 := num1_val p.1 [] (by omega) (by omega) (by simp)
  have e2 := num4_val p.2.1 (leN 1 p.1) (by omega) (by omega) (by rw [leN_len]; omega)
  have e3 := num1_val p.2.2.1 (leN 1 p.1 ++ leN 4 p.2.1) (by omega) (by omega) (by simp only [List.length_append, List.length_cons, List.length_nil, leN_len, linesV_len, flatB_len takeV_len, le8_len]; omega)
  have e4 := putLines_val p.2.2.2.1 (leN 1 p.1 ++ leN 4 p.2.1 ++ leN 1 p.2.2.1) hf.wf.2.2.2.1.2 (by omega) (by simp only [List.length_append, List.length_cons, List.length_nil, leN_len, linesV_len, flatB_len takeV_len, le8_len]; omega)
  have e5 := num1_val (p.2.2.2.2.1.length : Int) (leN 1 p.1 ++ leN 4 p.2.1 ++ leN 1 p.2.2.1 ++ linesV p.2.2.2.1) (by omega) (by omega) (by simp only [List.length_append, List.length_cons, List.length_nil, leN_len, linesV_len, flatB_len takeV_len, le8_len]; omega)
  have e6 := takes_val p p.2.2.2.2.1 (leN 1 p.1 ++ leN 4 p.2.1 ++ leN 1 p.2.2.1 ++ linesV p.2.2.2.1 ++ leN 1 (p.2.2.2.2.1.length : Int)) hf.wf.2.2.2.2.1.2 (by omega) (by simp only [List.length_append, List.length_cons, List.length_nil, leN_len, linesV_len, flatB_len takeV_len, le8_len]; omega)
  have e7 := putLines_val p.2.2.2.2.2.1 (leN 1 p.1 ++ leN 4 p.2.1 ++ leN 1 p.2.2.1 ++ linesV p.2.2.2.1 ++ leN 1 (p.2.2.2.2.1.length : Int) ++ p.2.2.2.2.1.flatMap takeV) hf.wf.2.2.2.2.2.1.2 (by omega) (by simp only [List.length_append, List.length_cons, List.length_nil, leN_len, linesV_len, flatB_len takeV_len, le8_len]; omega)
  have e8 := raw_val [p.2.2.2.2.2.2.1, p.2.2.2.2.2.2.2.1, p.2.2.2.2.2.2.2.2.1] (leN 1 p.1 ++ leN 4 p.2.1 ++ leN 1 p.2.2.1 ++ linesV p.2.2.2.1 ++ leN 1 (p.2.2.2.2.1.length : Int) ++ p.2.2.2.2.1.flatMap takeV ++ linesV p.2.2.2.2.2.1) (by simp only [List.length_append, List.length_cons, List.length_nil, leN_len, linesV_len, flatB_len takeV_len, le8_len]; omega)
  have e9 := int_val p.2.2.2.2.2.2.2.2.2.1 (leN 1 p.1 ++ leN 4 p.2.1 ++ leN 1 p.2.2.1 ++ linesV p.2.2.2.1 ++ leN 1 (p.2.2.2.2.1.length : Int) ++ p.2.2.2.2.1.flatMap takeV ++ linesV p.2.2.2.2.2.1 ++ [p.2.2.2.2.2.2.1, p.2.2.2.2.2.2.2.1, p.2.2.2.2.2.2.2.2.1]) (by simp only [List.length_append, List.length_cons, List.length_nil, leN_len, linesV_len, flatB_len takeV_len, le8_len]; omega)
  have e10 := done_val (leN 1 p.1 ++ leN 4 p.2.1 ++ leN 1 p.2.2.1 ++ linesV p.2.2.2.1 ++ leN 1 (p.2.2.2.2.1.length : Int) ++ p.2.2.2.2.1.flatMap takeV ++ linesV p.2.2.2.2.2.1 ++ [p.2.2.2.2.2.2.1, p.2.2.2.2.2.2.2.1, p.2.2.2.2.2.2.2.2.1] ++ le8 p.2.2.2.2.2.2.2.2.2.1) (by simp only [List.length_append, List.length_cons, List.length_nil, leN_len, linesV_len, flatB_len takeV_len, le8_len]; omega)
  have hE : leN 1 p.1 ++ leN 4 p.2.1 ++ leN 1 p.2.2.1 ++ linesV p.2.2.2.1 ++ leN 1 (p.2.2.2.2.1.length : Int) ++ p.2.2.2.2.1.flatMap takeV ++ linesV p.2.2.2.2.2.1 ++ [p.2.2.2.2.2.2.1, p.2.2.2.2.2.2.2.1, p.2.2.2.2.2.2.2.2.1] ++ le8 p.2.2.2.2.2.2.2.2.2.1 = encV p := by unfold encV takesV; simp only [List.append_assoc]
  rw [hE] at e10
  rw [hE] at e9
  unfold prog_Encode
  rw [progGood_val 4 4 p hf, hg]
  refine (bind_of e1).trans ?_
  refine (bind_of e2).trans ?_
  refine (bind_of e3).trans ?_
  refine (bind_of e4).trans ?_
  refine (bind_of e5).trans ?_
  refine (bind_of e6).trans ?_
  refine (bind_of e7).trans ?_
  refine (bind_of e8).trans ?_
  refine (bind_of e9).trans ?_
  refine (bind_of e10).trans ?_
  rfl
theorem encode_bad (p : Prg) (hf : Few p) (hg : goodP 4 4 p = false) : prog_Encode p = some ([], (1, ())) := by
  unfold prog_Encode
  rw [progGood_val 4 4 p hf, hg]; rfl
end Go.Proofs.Pure

/- What the document writes of a program: the same bytes. -/
namespace Go.Proofs.Pure
open Go.Proofs.D Go.Proofs.F

theorem refNum_val (x : Int) (n : Nat) (hn : n ≤ 8) (h0 : 0 ≤ x) (h : x < 18446744073709551616) : pledgeref03_Num x (n : Int) = some ((), (leN n x, ())) := by
  have key : ∀ (k i : Nat) (y : Int) (acc : List Int) (m : Nat), i + k = n → k < m → 0 ≤ y → y < 18446744073709551616 → acc.length = i → iterL pledgeref03_Num.l1 m ((y, ((n : Int), ((), (i : Int)))), (acc, ())) = some ((), (acc ++ leN k y, ())) := by
    intro k
    induction k with
    | zero =>
      intro i y acc m hi hm h0 h1 ha
      obtain ⟨m, rfl⟩ : ∃ q, m = q + 1 := ⟨m - 1, by omega⟩
      refine iterL_done ?_
      unfold pledgeref03_Num.l1
      simp only [dec_f (show ¬ (i : Int) < (n : Int) by omega), cond_false]
      simp [leN]
    | succ k ih =>
      intro i y acc m hi hm h0 h1 ha
      obtain ⟨m, rfl⟩ : ∃ q, m = q + 1 := ⟨m - 1, by omega⟩
      have e1 : IntKind.u8.wrap (Int.tmod y 256) = y % 256 := by
        rw [Int.tmod_eq_emod_of_nonneg h0]
        show y % 256 % 256 = y % 256
        omega
      have e2 : IntKind.u64.wrap (Int.tdiv y 256) = y / 256 := by
        rw [Int.tdiv_eq_ediv_of_nonneg h0]
        exact u64_of (by omega) (by omega)
      have hs : pledgeref03_Num.l1 ((y, ((n : Int), ((), (i : Int)))), (acc, ())) = some (.inl ((y / 256, ((n : Int), ((), ((i + 1 : Nat) : Int)))), (acc ++ [y % 256], ()))) := by
        unfold pledgeref03_Num.l1
        simp only [dec_t (show (i : Int) < (n : Int) by omega), cond_true, e1, e2]
        rw [room_ok (by simp; omega), succ_i64 (by omega)]
      refine (iterL_next hs).trans ?_
      rw [ih (i + 1) (y / 256) (acc ++ [y % 256]) m (by omega) (by omega) (by omega) (by omega) (by simp [ha])]
      simp [leN]
  unfold pledgeref03_Num
  have := key n 0 x [] loopN (by omega) (by rw [loopN_eq]; omega) h0 h rfl
  exact (bind_of this).trans rfl
theorem refInt_val (x : Int) : pledgeref03_Int x = some (le8 x) := by
  have hb := u64_bnd x
  unfold pledgeref03_Int
  exact (bind_of (refNum_val (IntKind.u64.wrap x) 8 (by omega) hb.1 (by omega))).trans rfl
theorem refNum4_val (x : Int) (h0 : 0 ≤ x) (h : x < 4294967296) : pledgeref03_Num (IntKind.u64.wrap x) 4 = some ((), (leN 4 x, ())) := by
  rw [u64_of h0 (by omega)]; exact refNum_val x 4 (by omega) h0 (by omega)
theorem u8_of {x : Int} (h0 : 0 ≤ x) (h : x < 256) : IntKind.u8.wrap x = x := by
  show x % 256 = x
  omega
theorem refLinesB_val (l : List Ln) (hw : ∀ x ∈ l, WfE kLine x) (hl : l.length < 256) : pledgeref13_LinesBytes l = some (linesV l) := by
  unfold pledgeref13_LinesBytes
  have h := loop_walk (step := pledgeref13_LinesBytes.l1) l (fun i (a : List Int) => ((l, ((), (i : Int))), (a, ()))) (fun _ e a => .inl (a ++ lineV e)) (fun a => ((), (a, ()))) (fun i a => a.length = 1 + 9 * i) [IntKind.u8.wrap (l.length : Int)] (by omega) rfl (fun i e a he ha => by
    have hlt := get_lt he
    have hwe := wf_u8 (hw e (get_mem he)).1
    refine ⟨?_, fun c hc => by cases hc; rw [List.length_append, lineV_len]; omega⟩
    unfold pledgeref13_LinesBytes.l1
    simp only [dec_t (show (i : Int) < (l.length : Int) by omega), cond_true]
    rw [nthK_get he, nthK_get he, room_ok (by simp; omega), refInt_val, Option.bind_some, room_ok (by simp only [List.length_append, List.length_cons, List.length_nil, le8_len]; omega), succ_i64 (by omega)]
    show some (Sum.inl ((l, ((), ((i + 1 : Nat) : Int))), (a ++ [e.1] ++ le8 e.2.1, ()))) = _
    unfold lineV
    rw [leN1 e.1 (by omega) (by omega), List.append_assoc]) (fun a _ => by
    unfold pledgeref13_LinesBytes.l1
    simp only [dec_f (show ¬ (l.length : Int) < (l.length : Int) by omega), cond_false])
  rw [walk_foldl (fun (a : List Int) (e : Ln) => a ++ lineV e), fold_flat, u8_of (by omega) (by omega), show (((0 : Nat) : Int)) = 0 from rfl] at h
  rw [u8_of (by omega) (by omega)]
  refine (bind_of h).trans ?_
  unfold linesV
  rw [leN1 _ (by omega) (by omega)]
theorem refBytes_val (p : Prg) (hf : Few p) : pledgeref13_Bytes p = some (encV p) := by
  have l1 := hf.lines; have l2 := hf.takes; have l3 := hf.owes
  have w0 := wf_u8 hf.wf.1
  have w1 := wf_u32 hf.wf.2.1
  have w2 := wf_u8 hf.wf.2.2.1
  have hw := hf.wf.2.2.2.2.1.2
  have q1 : (linesV p.2.2.2.1).length = 1 + 9 * p.2.2.2.1.length := linesV_len p.2.2.2.1
  have q2 : (linesV p.2.2.2.2.2.1).length = 1 + 9 * p.2.2.2.2.2.1.length := linesV_len p.2.2.2.2.2.1
  unfold pledgeref13_Bytes
  refine (bind_of (refNum4_val p.2.1 (by omega) (by omega))).trans ?_
  show room ([p.1].length + (leN 4 p.2.1).length) (room (([p.1] ++ leN 4 p.2.1).length + [p.2.2.1].length) ((pledgeref13_LinesBytes p.2.2.2.1).bind _)) = _
  rw [room_ok (by simp [leN_len]), room_ok (by simp [leN_len])]
  refine (bind_of (refLinesB_val _ hf.wf.2.2.2.1.2 (by omega))).trans ?_
  rw [room_ok (by simp [leN_len, linesV_len]; omega), room_ok (by simp [leN_len, linesV_len]; omega), u8_of (by omega) (by omega)]
  generalize hb : [p.1] ++ leN 4 p.2.1 ++ [p.2.2.1] ++ linesV p.2.2.2.1 ++ [(p.2.2.2.2.1.length : Int)] = b0
  have hb0 : b0.length = 8 + 9 * p.2.2.2.1.length := by rw [← hb]; simp only [List.length_append, List.length_cons, List.length_nil, leN_len, linesV_len]; omega
  have h := loop_walk (step := pledgeref13_Bytes.l1) p.2.2.2.2.1 (fun i (a : List Int) => (((), ((), (i : Int))), (p, (a, ())))) (fun _ e a => .inl (a ++ takeV e)) (fun a => (((), ()), (p, (a, ())))) (fun i a => a.length = b0.length + 14 * i) b0 (by omega) rfl (fun i e a he ha => by
    have hlt := get_lt he
    have hwe := wf_u32 (hw e (get_mem he)).1
    refine ⟨?_, fun c hc => by cases hc; rw [List.length_append, takeV_len]; omega⟩
    unfold pledgeref13_Bytes.l1
    simp only [dec_t (show (i : Int) < (p.2.2.2.2.1.length : Int) by omega), cond_true]
    rw [nthK_get he, refNum4_val e.1 (by omega) (by omega), Option.bind_some]
    show room (a.length + (leN 4 e.1).length) _ = _
    rw [room_ok (by rw [leN_len]; omega), nthK_get he, nthK_get he]
    show room ((a ++ leN 4 e.1).length + [e.2.1, e.2.2.1].length) _ = _
    rw [room_ok (by simp only [List.length_append, List.length_cons, List.length_nil, leN_len]; omega), nthK_get he, refInt_val, Option.bind_some]
    show room ((a ++ leN 4 e.1 ++ [e.2.1, e.2.2.1]).length + (le8 e.2.2.2.1).length) (some (Sum.inl (((), ((), IntKind.i64.wrap ((i : Int) + 1))), (p, (a ++ leN 4 e.1 ++ [e.2.1, e.2.2.1] ++ le8 e.2.2.2.1, ()))))) = _
    rw [room_ok (by simp only [List.length_append, List.length_cons, List.length_nil, leN_len, le8_len]; omega), succ_i64 (by omega)]
    unfold takeV
    simp only [List.append_assoc]) (fun a _ => by
    unfold pledgeref13_Bytes.l1
    simp only [dec_f (show ¬ (p.2.2.2.2.1.length : Int) < (p.2.2.2.2.1.length : Int) by omega), cond_false])
  rw [walk_foldl (fun (a : List Int) (e : Tk) => a ++ takeV e), fold_flat, show (((0 : Nat) : Int)) = 0 from rfl] at h
  refine (bind_of h).trans ?_
  refine (bind_of (refLinesB_val _ hf.wf.2.2.2.2.2.1.2 (by omega))).trans ?_
  show room ((b0 ++ p.2.2.2.2.1.flatMap takeV).length + (linesV p.2.2.2.2.2.1).length) (room ((b0 ++ p.2.2.2.2.1.flatMap takeV ++ linesV p.2.2.2.2.2.1).length + [p.2.2.2.2.2.2.1, p.2.2.2.2.2.2.2.1, p.2.2.2.2.2.2.2.2.1].length) ((pledgeref03_Int p.2.2.2.2.2.2.2.2.2.1).bind _)) = _
  rw [room_ok (by simp only [List.length_append, List.length_cons, List.length_nil, linesV_len, flatB_len takeV_len]; omega), room_ok (by simp only [List.length_append, List.length_cons, List.length_nil, linesV_len, flatB_len takeV_len]; omega)]
  refine (bind_of (refInt_val _)).trans ?_
  rw [room_ok (by simp only [List.length_append, List.length_cons, List.length_nil, linesV_len, flatB_len takeV_len, le8_len]; omega), ← hb]
  congr 1
  unfold encV takesV
  rw [leN1 p.1 (by omega) (by omega), leN1 p.2.2.1 (by omega) (by omega), leN1 (p.2.2.2.2.1.length : Int) (by omega) (by omega)]
  simp only [List.append_assoc]
end Go.Proofs.Pure

/- Readers: what they read off bytes, or what is wrong first. -/
namespace Go.Proofs.Pure
open Go.Proofs.D Go.Proofs.F

abbrev PR (α : Type) := Except Int (α × List Int)
def bd {α β : Type} (x : PR α) (f : α → List Int → PR β) : PR β := match x with | .error e => .error e | .ok (v, r) => f v r
def lift {α : Type} (p : List Int → PR α) (q : Except Int (List Int)) : PR α := match q with | .ok b => p b | .error e => .error e
def rdN (n : Nat) (b : List Int) : PR Int := if b.length < n then .error 6 else .ok (leVal (b.take n), b.drop n)
def rdI (b : List Int) : PR Int := bd (rdN 8 b) fun v r => .ok (IntKind.i64.wrap v, r)
def rdLine (b : List Int) : PR Ln := bd (rdN 1 b) fun s r => bd (rdI r) fun q r => .ok ((IntKind.u8.wrap s, (q, ())), r)
def rdTake (b : List Int) : PR Tk := bd (rdN 4 b) fun o r => bd (rdN 1 r) fun s r => bd (rdN 1 r) fun w r => bd (rdI r) fun q r => .ok ((IntKind.u32.wrap o, (IntKind.u8.wrap s, (IntKind.u8.wrap w, (q, ())))), r)
def rdMany {α : Type} (one : List Int → PR α) : Nat → List Int → PR (List α)
  | 0, b => .ok ([], b)
  | n + 1, b => bd (one b) fun x r => bd (rdMany one n r) fun l r => .ok (x :: l, r)
def rdList {α : Type} (one : List Int → PR α) (most : Int) (b : List Int) : PR (List α) := bd (rdN 1 b) fun n r => if n > most then .error 8 else rdMany one n.toNat r
def rdProg (b : List Int) : PR Prg := bd (rdN 1 b) fun k r => bd (rdN 4 r) fun o r => bd (rdN 1 r) fun po r => bd (rdList rdLine 3 r) fun ls r => bd (rdList rdTake 12 r) fun ts r => bd (rdList rdLine 3 r) fun os r =>
  bd (rdN 1 r) fun sk r => bd (rdN 1 r) fun fr r => bd (rdN 1 r) fun to r => bd (rdI r) fun q r => .ok ((IntKind.u8.wrap k, (IntKind.u32.wrap o, (IntKind.u8.wrap po, (ls, (ts, (os, (IntKind.u8.wrap sk, (IntKind.u8.wrap fr, (IntKind.u8.wrap to, (q, ())))))))))), r)
def prgZ : Prg := (0, (0, (0, ([], ([], ([], (0, (0, (0, (0, ()))))))))))
def fin (x : PR Prg) : Prg × Int × Unit := match x with
  | .error e => (prgZ, (e, ()))
  | .ok (p, r) => if r.length > 0 then (prgZ, (8, ())) else bif goodP 4 4 p then (p, (0, ())) else (prgZ, (8, ()))

/-! ### A reader in some state -/
section
variable {S α β : Type} {mk : List Int → S} {er : S → Int}
def RS (mk : List Int → S) (er : S → Int) (s : S) (q : Except Int (List Int)) : Prop := match q with | .ok b => s = mk b ∧ BytesOk b | .error e => er s = e ∧ e ≠ 0
/-- A function reads as a parser does. -/
def Sim (mk : List Int → S) (er : S → Int) (Q : α → Prop) (g : S → Option (α × S × Unit)) (p : List Int → PR α) : Prop :=
  ∀ s q, RS mk er s q → ∃ v s', g s = some (v, (s', ())) ∧ Q v ∧ match lift p q with | .ok (v0, r) => v = v0 ∧ RS mk er s' (.ok r) | .error e => RS mk er s' (.error e)
def FinSim (mk : List Int → S) (er : S → Int) (F : S → Option (Prg × Int × Unit)) (P : List Int → PR Prg) : Prop :=
  ∀ s q, RS mk er s q → F s = some (fin (lift P q))
theorem lift_bd (p : List Int → PR α) (f : α → List Int → PR β) (q : Except Int (List Int)) : lift (fun b => bd (p b) f) q = bd (lift p q) f := by cases q <;> rfl
theorem fin_step {Q : α → Prop} {g : S → Option (α × S × Unit)} {p : List Int → PR α} {h : α → S → Option (Prg × Int × Unit)} {P : α → List Int → PR Prg} (hg : Sim mk er Q g p) (hh : ∀ v, Q v → FinSim mk er (h v) (P v)) :
    FinSim mk er (fun s => (g s).bind fun r => h r.1 r.2.1) (fun b => bd (p b) P) := by
  intro s q hs
  obtain ⟨v, s', h1, h2, h3⟩ := hg s q hs
  refine (bind_of h1).trans ?_
  rw [lift_bd]
  cases hx : lift p q with
  | error e =>
    rw [hx] at h3
    exact hh v h2 s' (.error e) h3
  | ok vr =>
    obtain ⟨v0, r⟩ := vr
    rw [hx] at h3
    obtain ⟨e, h4⟩ := h3
    subst e
    exact hh v h2 s' (.ok r) h4
theorem sim_step {Q : α → Prop} {Q' : β → Prop} {g : S → Option (α × S × Unit)} {p : List Int → PR α} {h : α → S → Option (β × S × Unit)} {P : α → List Int → PR β} (hg : Sim mk er Q g p) (hh : ∀ v, Q v → Sim mk er Q' (h v) (P v)) :
    Sim mk er Q' (fun s => (g s).bind fun r => h r.1 r.2.1) (fun b => bd (p b) P) := by
  intro s q hs
  obtain ⟨v, s', h1, h2, h3⟩ := hg s q hs
  rw [lift_bd]
  cases hx : lift p q with
  | error e =>
    rw [hx] at h3
    obtain ⟨v2, s2, k1, k2, k3⟩ := hh v h2 s' (.error e) h3
    exact ⟨v2, s2, (bind_of h1).trans k1, k2, k3⟩
  | ok vr =>
    obtain ⟨v0, r⟩ := vr
    rw [hx] at h3
    obtain ⟨e, h4⟩ := h3
    subst e
    obtain ⟨v2, s2, k1, k2, k3⟩ := hh v h2 s' (.ok r) h4
    exact ⟨v2, s2, (bind_of h1).trans k1, k2, k3⟩
theorem sim_ret {Q : α → Prop} {v : α} (hv : Q v) : Sim mk er Q (fun s => some (v, (s, ()))) (fun r => .ok (v, r)) := by
  intro s q hs
  refine ⟨v, s, rfl, hv, ?_⟩
  cases q with
  | ok b => exact ⟨rfl, hs⟩
  | error e => exact hs
end

/-! ### Bytes -/
theorem BytesOk.take {l : List Int} (h : BytesOk l) (n : Nat) : BytesOk (l.take n) := fun b hb => h b (List.mem_of_mem_take hb)
theorem BytesOk.drop {l : List Int} (h : BytesOk l) (n : Nat) : BytesOk (l.drop n) := fun b hb => h b (List.mem_of_mem_drop hb)
theorem pow_le8 {k : Nat} (h : k ≤ 8) : (256 : Int) ^ k ≤ 18446744073709551616 := by
  rcases (by omega : k = 0 ∨ k = 1 ∨ k = 2 ∨ k = 3 ∨ k = 4 ∨ k = 5 ∨ k = 6 ∨ k = 7 ∨ k = 8) with rfl | rfl | rfl | rfl | rfl | rfl | rfl | rfl | rfl <;> decide
theorem leVal_snoc (l : List Int) (k : Nat) (c : Int) (h : l[k]? = some c) : leVal (l.drop k) = c + 256 * leVal (l.drop (k + 1)) := by
  have hk := get_lt h
  rw [List.drop_eq_getElem_cons hk]
  rw [List.getElem?_eq_getElem hk] at h
  rw [Option.some.inj h]
  rfl
theorem walk_le : ∀ (l : List Int) (i : Nat) (a : Int), walkL (X := Int) (fun i c a => .inl (a + c * 256 ^ i)) (fun a => a) i l a = a + 256 ^ i * leVal l
  | [], i, a => by simp [walkL, leVal]
  | c :: l, i, a => by
    simp only [walkL, walk_le l (i + 1), leVal, Int.pow_succ, Int.mul_add]
    rw [Int.mul_comm c, ← Int.mul_assoc]; omega

/-! ### The program's reader -/
abbrev Rdr := (Int × Unit) × List Int × Unit
def okS (b : List Int) : Rdr := ((0, ()), (b, ()))
def erS (s : Rdr) : Int := s.1.1
theorem num_loop (l : List Int) (hl : l.length ≤ 8) (hb : BytesOk l) (s : Rdr) : iterL wire_Reader_Num_v2.l1 loopN ((0, (l, ((l.length : Int), 0))), (s, ())) = some (leVal l, (s, ())) := by
  have h := loop_walk (step := wire_Reader_Num_v2.l1) l (fun i (a : Int) => ((a, (l, ((l.length : Int), (i : Int)))), (s, ()))) (fun i c a => .inl (a + c * 256 ^ i)) (fun a => (a, (s, ()))) (fun i a => 0 ≤ a ∧ a < 256 ^ i) 0 (by omega) (by simp) (fun i c a hc ha => by
    have hlt := get_lt hc
    have hcb := hb c (get_mem hc)
    have hp : (256 : Int) ^ (i + 1) ≤ 18446744073709551616 := pow_le8 (by omega)
    have hp0 : (0 : Int) < 256 ^ i := Int.pow_pos (by omega)
    rw [Int.pow_succ] at hp
    have hm : 0 ≤ c * 256 ^ i ∧ c * 256 ^ i ≤ 255 * 256 ^ i := ⟨Int.mul_nonneg hcb.1 (by omega), Int.mul_le_mul_of_nonneg_right (by omega) (by omega)⟩
    refine ⟨?_, fun b hb => by cases hb; rw [Int.pow_succ]; omega⟩
    have e1 : IntKind.i64.wrap (8 * (i : Int)) = 8 * (i : Int) := wrap_i64 (by omega) (by omega)
    have e2 : (8 * (i : Int)).toNat = 8 * i := by omega
    unfold wire_Reader_Num_v2.l1
    simp only [dec_t (show (i : Int) < (l.length : Int) by omega), cond_true, e1, e2]
    rw [nthK_get hc, chk_true (by simp; omega), Nat.min_eq_left (by omega), pow8, u64_of (x := c) (by omega) (by omega), u64_of (by omega) (by omega), ← pow8, or_add a c (8 * i) ha.1 (by rw [pow8]; exact ha.2) hcb.1 (by rw [pow8]; show a + c * 256 ^ i < 18446744073709551616; omega), succ_i64 (by omega)]) (fun a _ => by
    unfold wire_Reader_Num_v2.l1
    simp only [dec_f (show ¬ (l.length : Int) < (l.length : Int) by omega), cond_false])
  rw [show (((0 : Nat) : Int)) = 0 from rfl] at h
  rw [h]
  have hw : ∀ (k : List Int) (i : Nat) (a : Int), walkL (X := Int × Rdr × Unit) (fun i c a => .inl (a + c * 256 ^ i)) (fun a => (a, (s, ()))) i k a = (a + 256 ^ i * leVal k, (s, ())) := by
    intro k
    induction k with
    | nil => intro i a; simp [walkL, leVal]
    | cons c k ih =>
      intro i a
      simp only [walkL, ih, leVal, Int.pow_succ, Int.mul_add]
      rw [Int.mul_comm c, ← Int.mul_assoc]
      congr 1; omega
  rw [hw]; simp
theorem num_full (n : Nat) (h1 : 1 ≤ n) (h8 : n ≤ 8) (s : Rdr) (q : Except Int (List Int)) (hs : RS okS erS s q) : ∃ v s', wire_Reader_Num_v2 () (n : Int) s = some (v, (s', ())) ∧ (0 ≤ v ∧ v < 256 ^ n) ∧ match lift (rdN n) q with | .ok (v0, r) => v = v0 ∧ RS okS erS s' (.ok r) | .error e => v = 0 ∧ RS okS erS s' (.error e) := by
  have hp0 : (0 : Int) < 256 ^ n := Int.pow_pos (by omega)
  have hbad : ∀ s' : Rdr, wire_Reader_take_v2 () (n : Int) s = some ([], (s', ())) → wire_Reader_Num_v2 () (n : Int) s = some (0, (s', ())) := fun s' ht => by
    unfold wire_Reader_Num_v2
    rw [dec_f (show ¬ (n : Int) < 1 by omega), dec_f (show ¬ (n : Int) > 8 by omega)]
    refine (bind_of ht).trans ?_
    exact (bind_of (num_loop [] (by simp) (fun b hb => by cases hb) s')).trans rfl
  cases q with
  | error e =>
    obtain ⟨h2, h3⟩ := hs
    have ht : wire_Reader_take_v2 () (n : Int) s = some ([], (s, ())) := by
      have hf : wire_fault_fine () s.1 = some (false, (s.1, ())) := by
        show some ((s.1.1 == 0), (s.1, ())) = _
        have : s.1.1 ≠ 0 := by rw [show s.1.1 = e from h2]; exact h3
        rw [show (s.1.1 == 0) = false by simpa using this]
      unfold wire_Reader_take_v2
      exact (bind_of hf).trans rfl
    exact ⟨0, s, hbad s ht, ⟨Int.le_refl _, hp0⟩, rfl, h2, h3⟩
  | ok b =>
    obtain ⟨rfl, hb⟩ := hs
    have hlift : lift (rdN n) (.ok b) = rdN n b := rfl
    rw [hlift]
    unfold rdN
    by_cases hl : b.length < n
    · rw [if_pos hl]
      have ht : wire_Reader_take_v2 () (n : Int) (okS b) = some ([], (((6, ()), (b, ())), ())) := by
        unfold wire_Reader_take_v2
        show (bif decide ((n : Int) > (b.length : Int)) then _ else _) = _
        rw [dec_t (by omega)]; rfl
      exact ⟨0, _, hbad _ ht, ⟨Int.le_refl _, hp0⟩, rfl, rfl, by omega⟩
    · rw [if_neg hl]
      have ht : wire_Reader_take_v2 () (n : Int) (okS b) = some (b.take n, (okS (b.drop n), ())) := by
        unfold wire_Reader_take_v2
        show (bif decide ((n : Int) > (b.length : Int)) then _ else chk (decide (0 ≤ (n : Int)) && decide ((n : Int) ≤ (b.length : Int))) (chk ((n : Int) == n) (chk (decide (0 ≤ (n : Int)) && decide ((n : Int) ≤ (b.length : Int))) (some ((b.take (n : Int).toNat).drop 0, (((0, ()), ((b.take b.length).drop (n : Int).toNat, ())), ())))))) = _
        have hc : (decide (0 ≤ (n : Int)) && decide ((n : Int) ≤ (b.length : Int))) = true := by simp; omega
        rw [dec_f (by omega), cond_false, chk_true hc, chk_true (by simp), chk_true hc, Int.toNat_natCast, List.take_length, List.drop_zero]; rfl
      have hlen : (b.take n).length = n := by rw [List.length_take]; omega
      have hv := leVal_bnd _ (hb.take n)
      rw [hlen] at hv
      refine ⟨leVal (b.take n), okS (b.drop n), ?_, hv, rfl, rfl, hb.drop n⟩
      unfold wire_Reader_Num_v2
      rw [dec_f (show ¬ (n : Int) < 1 by omega), dec_f (show ¬ (n : Int) > 8 by omega)]
      refine (bind_of ht).trans ?_
      exact (bind_of (num_loop (b.take n) (by omega) (hb.take n) (okS (b.drop n)))).trans rfl
theorem num_sim (n : Nat) (h1 : 1 ≤ n) (h8 : n ≤ 8) : Sim okS erS (fun v => 0 ≤ v ∧ v < 256 ^ n) (fun s => wire_Reader_Num_v2 () (n : Int) s) (rdN n) := fun s q hs => by
  obtain ⟨v, s', k1, k2, k3⟩ := num_full n h1 h8 s q hs
  refine ⟨v, s', k1, k2, ?_⟩
  cases hx : lift (rdN n) q with
  | error e => rw [hx] at k3; exact k3.2
  | ok vr => rw [hx] at k3; exact k3
theorem i64_bnd (x : Int) : -9223372036854775808 ≤ IntKind.i64.wrap x ∧ IntKind.i64.wrap x < 9223372036854775808 := by
  unfold IntKind.wrap
  simp only [IntKind.bits, IntKind.signed, Bool.true_and, decide_eq_true_eq, show (2 : Int) ^ 64 = 18446744073709551616 by decide, show (2 : Int) ^ (64 - 1) = 9223372036854775808 by decide]
  split <;> omega
end Go.Proofs.Pure

/- What the program decodes of any bytes. -/
namespace Go.Proofs.Pure
open Go.Proofs.D Go.Proofs.F

theorem wfm_u8 {n : Int} (h1 : 0 ≤ n) (h2 : n < 256) : WfE (.int .u8) n := by
  show (Lit.int .u8 n).wf = true
  simp only [Lit.wf, Bool.and_eq_true, decide_eq_true_eq, show IntKind.u8.min = 0 by decide, show IntKind.u8.max = 255 by decide]; omega
theorem wfm_u32 {n : Int} (h1 : 0 ≤ n) (h2 : n < 4294967296) : WfE (.int .u32) n := by
  show (Lit.int .u32 n).wf = true
  simp only [Lit.wf, Bool.and_eq_true, decide_eq_true_eq, show IntKind.u32.min = 0 by decide, show IntKind.u32.max = 4294967295 by decide]; omega
theorem wfm_i64 {n : Int} (h1 : -9223372036854775808 ≤ n) (h2 : n < 9223372036854775808) : WfE (.int .i64) n := by
  show (Lit.int .i64 n).wf = true
  simp only [Lit.wf, Bool.and_eq_true, decide_eq_true_eq, show IntKind.i64.min = -9223372036854775808 by decide, show IntKind.i64.max = 9223372036854775807 by decide]; omega
theorem wfw_u8 (x : Int) : WfE (.int .u8) (IntKind.u8.wrap x) := wfm_u8 (by show 0 ≤ x % 256; omega) (by show x % 256 < 256; omega)
theorem wfw_u32 (x : Int) : WfE (.int .u32) (IntKind.u32.wrap x) := wfm_u32 (by show 0 ≤ x % 4294967296; omega) (by show x % 4294967296 < 4294967296; omega)
def I64 (v : Int) : Prop := -9223372036854775808 ≤ v ∧ v < 9223372036854775808

/-! ### Some, one behind another -/
section
variable {S α V X : Type} {mk : List Int → S} {er : S → Int} {Q : α → Prop} {g : S → Option (α × S × Unit)} {one : List Int → PR α} {step : V → Option (V ⊕ X)} {st : Nat → List α → S → V} {ex : List α → S → X} {n : Nat}
def Many (mk : List Int → S) (er : S → Int) (Q : α → Prop) (one : List Int → PR α) (k : Nat) (l : List α) (s' : S) (q : Except Int (List Int)) : Prop :=
  l.length ≤ k ∧ (∀ x ∈ l, Q x) ∧ match lift (rdMany one k) q with | .ok (l0, r) => l = l0 ∧ RS mk er s' (.ok r) | .error e => RS mk er s' (.error e)
theorem many_sim (hmk : ∀ b, er (mk b) = 0) (hg : Sim mk er Q g one) (h1 : ∀ i out s v s', i < n → out.length ≤ n → g s = some (v, (s', ())) → step (st i out s) = some (bif er s' != 0 then .inr (ex out s') else .inl (st (i + 1) (out ++ [v]) s')))
    (h2 : ∀ out s, step (st n out s) = some (.inr (ex out s))) : ∀ (k i : Nat) (out : List α) (s : S) (q : Except Int (List Int)) (m : Nat), i + k = n → out.length ≤ i → k < m → RS mk er s q →
    ∃ l s', iterL step m (st i out s) = some (ex (out ++ l) s') ∧ Many mk er Q one k l s' q := by
  intro k
  induction k with
  | zero =>
    intro i out s q m hi ho hm hs
    obtain ⟨m, rfl⟩ : ∃ j, m = j + 1 := ⟨m - 1, by omega⟩
    refine ⟨[], s, ?_, by simp, (fun x hx => by cases hx), ?_⟩
    · rw [List.append_nil, show i = n by omega]; exact iterL_done (h2 out s)
    · cases q with
      | ok b => exact ⟨rfl, hs⟩
      | error e => exact hs
  | succ k ih =>
    intro i out s q m hi ho hm hs
    obtain ⟨m, rfl⟩ : ∃ j, m = j + 1 := ⟨m - 1, by omega⟩
    obtain ⟨v, s', g1, g2, g3⟩ := hg s q hs
    have hst := h1 i out s v s' (by omega) (by omega) g1
    have hb : lift (rdMany one (k + 1)) q = bd (lift one q) fun x r => bd (rdMany one k r) fun l r => .ok (x :: l, r) := lift_bd one _ q
    cases hx : lift one q with
    | error e =>
      rw [hx] at g3 hb
      have he : er s' != 0 := by have := g3.1; have := g3.2; simp; omega
      rw [he, cond_true] at hst
      refine ⟨[], s', by rw [List.append_nil]; exact iterL_done hst, by simp, (fun x hx => by cases hx), ?_⟩
      rw [hb]; exact g3
    | ok vr =>
      obtain ⟨v0, r⟩ := vr
      rw [hx] at g3 hb
      obtain ⟨e, g4⟩ := g3
      subst e
      have he : (er s' != 0) = false := by rw [g4.1, hmk]; rfl
      rw [he, cond_false] at hst
      obtain ⟨l, s2, k1, k2, k3, k4⟩ := ih (i + 1) (out ++ [v]) s' (.ok r) m (by omega) (by simp; omega) (by omega) g4
      refine ⟨v :: l, s2, (iterL_next hst).trans (by rw [k1]; simp), by simp; omega, fun x hx => ?_, ?_⟩
      · rcases List.mem_cons.1 hx with q | q
        · rw [q]; exact g2
        · exact k3 x q
      · rw [hb]
        have hl : lift (rdMany one k) (.ok r) = rdMany one k r := rfl
        rw [hl] at k4
        show match bd (rdMany one k r) (fun l r => .ok (v :: l, r)) with | .ok (l0, r) => v :: l = l0 ∧ RS mk er s2 (.ok r) | .error e => RS mk er s2 (.error e)
        cases hr : rdMany one k r with
        | error e => rw [hr] at k4; exact k4
        | ok lr =>
          obtain ⟨l0, r2⟩ := lr
          rw [hr] at k4
          exact ⟨by rw [k4.1], k4.2⟩
end

theorem okS_er (b : List Int) : erS (okS b) = 0 := rfl
theorem int_sim : Sim okS erS I64 (fun s => wire_Reader_Int () s) rdI :=
  sim_step (Q := fun v => 0 ≤ v ∧ v < 256 ^ 8) (h := fun v s => some (IntKind.i64.wrap v, (s, ()))) (num_sim 8 (by omega) (by omega)) fun v _ => sim_ret (i64_bnd v)
def gLine (s : Rdr) : Option (Ln × Rdr × Unit) := (wire_Reader_Num_v2 () 1 s).bind fun r => (wire_Reader_Int () r.2.1).bind fun r2 => some ((IntKind.u8.wrap r.1, (r2.1, ())), (r2.2.1, ()))
theorem line_sim : Sim okS erS (fun x => WfE kLine x) gLine rdLine :=
  sim_step (g := fun s => wire_Reader_Num_v2 () ((1 : Nat) : Int) s) (h := fun v s => (wire_Reader_Int () s).bind fun r2 => some ((IntKind.u8.wrap v, (r2.1, ())), (r2.2.1, ()))) (num_sim 1 (by omega) (by omega)) fun v _ =>
    sim_step (h := fun q s => some ((IntKind.u8.wrap v, (q, ())), (s, ()))) int_sim fun q hq => sim_ret ⟨wfw_u8 v, wfm_i64 hq.1 hq.2, trivial⟩
theorem line_at {s s' : Rdr} {v : Ln} (h : gLine s = some (v, (s', ()))) : prog_Decode_1 () () ((), ()) () s = some (v, (((), ()), ((), (s', ())))) := by
  unfold gLine at h
  unfold prog_Decode_1
  cases h1 : wire_Reader_Num_v2 () 1 s with
  | none => rw [h1] at h; cases h
  | some r =>
    rw [h1] at h
    rw [Option.bind_some] at h ⊢
    cases h2 : wire_Reader_Int () r.2.1 with
    | none => rw [h2] at h; cases h
    | some r2 =>
      rw [h2] at h
      rw [Option.bind_some] at h ⊢
      have h := Option.some.inj h
      have e1 : (IntKind.u8.wrap r.1, (r2.1, ())) = v := congrArg (fun z => z.1) h
      have e2 : r2.2.1 = s' := congrArg (fun z => z.2.1) h
      rw [e1, e2]
def gTake (s : Rdr) : Option (Tk × Rdr × Unit) := (wire_Reader_Num_v2 () 4 s).bind fun a => (wire_Reader_Num_v2 () 1 a.2.1).bind fun b => (wire_Reader_Num_v2 () 1 b.2.1).bind fun c => (wire_Reader_Int () c.2.1).bind fun d => some ((IntKind.u32.wrap a.1, (IntKind.u8.wrap b.1, (IntKind.u8.wrap c.1, (d.1, ())))), (d.2.1, ()))
theorem take_sim : Sim okS erS (fun x => WfE kTake x) gTake rdTake :=
  sim_step (g := fun s => wire_Reader_Num_v2 () ((4 : Nat) : Int) s) (h := fun a s => (wire_Reader_Num_v2 () 1 s).bind fun b => (wire_Reader_Num_v2 () 1 b.2.1).bind fun c => (wire_Reader_Int () c.2.1).bind fun d => some ((IntKind.u32.wrap a, (IntKind.u8.wrap b.1, (IntKind.u8.wrap c.1, (d.1, ())))), (d.2.1, ()))) (num_sim 4 (by omega) (by omega)) fun a _ =>
    sim_step (g := fun s => wire_Reader_Num_v2 () ((1 : Nat) : Int) s) (h := fun b s => (wire_Reader_Num_v2 () 1 s).bind fun c => (wire_Reader_Int () c.2.1).bind fun d => some ((IntKind.u32.wrap a, (IntKind.u8.wrap b, (IntKind.u8.wrap c.1, (d.1, ())))), (d.2.1, ()))) (num_sim 1 (by omega) (by omega)) fun b _ =>
      sim_step (g := fun s => wire_Reader_Num_v2 () ((1 : Nat) : Int) s) (h := fun c s => (wire_Reader_Int () s).bind fun d => some ((IntKind.u32.wrap a, (IntKind.u8.wrap b, (IntKind.u8.wrap c, (d.1, ())))), (d.2.1, ()))) (num_sim 1 (by omega) (by omega)) fun c _ =>
        sim_step (h := fun d s => some ((IntKind.u32.wrap a, (IntKind.u8.wrap b, (IntKind.u8.wrap c, (d, ())))), (s, ()))) int_sim fun d hd => sim_ret ⟨wfw_u32 a, wfw_u8 b, wfw_u8 c, wfm_i64 hd.1 hd.2, trivial⟩
theorem take_at {s s' : Rdr} {v : Tk} (h : gTake s = some (v, (s', ()))) : prog_Decode_2 () () ((), ()) () s = some (v, (((), ()), ((), (s', ())))) := by
  have : prog_Decode_2 () () ((), ()) () s = (gTake s).bind fun r => some (r.1, (((), ()), ((), (r.2.1, ())))) := by
    unfold prog_Decode_2 gTake
    cases wire_Reader_Num_v2 () 4 s with
    | none => rfl
    | some a =>
      simp only [Option.bind_some]
      cases wire_Reader_Num_v2 () 1 a.2.1 with
      | none => rfl
      | some b =>
        simp only [Option.bind_some]
        cases wire_Reader_Num_v2 () 1 b.2.1 with
        | none => rfl
        | some c =>
          simp only [Option.bind_some]
          cases wire_Reader_Int () c.2.1 <;> rfl
  rw [this, h]; rfl

/-! ### Lists -/
def ListSim {α : Type} (Q : α → Prop) (most : Nat) (one : List Int → PR α) (L : Rdr → Option ((List α × Bool × Unit) × Rdr × (Unit × Unit) × Unit × Unit)) : Prop :=
  ∀ s q, RS okS erS s q → ∃ l fl s', L s = some ((l, (fl, ())), (s', (((), ()), ((), ())))) ∧ match lift (rdList one (most : Int)) q with
    | .ok (l0, r) => fl = true ∧ l = l0 ∧ (l.length ≤ most ∧ ∀ x ∈ l, Q x) ∧ RS okS erS s' (.ok r)
    | .error e => (fl = false ∧ e = 8) ∨ (fl = true ∧ (l.length ≤ most ∧ ∀ x ∈ l, Q x) ∧ RS okS erS s' (.error e))
theorem list_of {α : Type} {Q : α → Prop} {most : Nat} {one : List Int → PR α} {L : Rdr → Option ((List α × Bool × Unit) × Rdr × (Unit × Unit) × Unit × Unit)}
    (hL : ∀ s v s1, wire_Reader_Num_v2 () 1 s = some (v, (s1, ())) → 0 ≤ v ∧ v < 256 → (v > (most : Int) → L s = some (([], (false, ())), (s1, (((), ()), ((), ()))))) ∧
      (v ≤ (most : Int) → ∀ q, RS okS erS s1 q → ∃ l s', L s = some ((l, (true, ())), (s', (((), ()), ((), ())))) ∧ Many okS erS Q one v.toNat l s' q)) : ListSim Q most one L := by
  intro s q hs
  obtain ⟨v, s1, k1, k2, k3⟩ := num_full 1 (by omega) (by omega) s q hs
  obtain ⟨h1, h2⟩ := hL s v s1 k1 (by omega)
  have hb : lift (rdList one (most : Int)) q = bd (lift (rdN 1) q) fun n r => if n > (most : Int) then .error 8 else rdMany one n.toNat r := lift_bd (rdN 1) _ q
  rw [hb]
  cases hx : lift (rdN 1) q with
  | error e =>
    rw [hx] at k3
    obtain ⟨e0, k4⟩ := k3
    subst e0
    obtain ⟨l, s', g1, g2, g3, g4⟩ := h2 (by omega) (.error e) k4
    have hl : l.length ≤ most := by have h0 : ((0 : Int).toNat) = 0 := rfl; rw [h0] at g2; omega
    exact ⟨l, true, s', g1, .inr ⟨rfl, ⟨hl, g3⟩, g4⟩⟩
  | ok vr =>
    obtain ⟨v0, r⟩ := vr
    rw [hx] at k3
    obtain ⟨e0, k4⟩ := k3
    subst e0
    by_cases hm : v > (most : Int)
    · refine ⟨[], false, s1, h1 hm, ?_⟩
      show match (if v > (most : Int) then .error 8 else rdMany one v.toNat r : PR (List α)) with | .ok (l0, r) => _ | .error e => _
      rw [if_pos hm]; exact .inl ⟨rfl, rfl⟩
    · obtain ⟨l, s', g1, g2, g3, g4⟩ := h2 (by omega) (.ok r) k4
      have hl : l.length ≤ most := by omega
      refine ⟨l, true, s', g1, ?_⟩
      show match (if v > (most : Int) then .error 8 else rdMany one v.toNat r : PR (List α)) with | .ok (l0, r) => _ | .error e => _
      rw [if_neg hm]
      have hlf : lift (rdMany one v.toNat) (.ok r) = rdMany one v.toNat r := rfl
      rw [hlf] at g4
      cases hr : rdMany one v.toNat r with
      | error e => rw [hr] at g4; exact .inr ⟨rfl, ⟨hl, g3⟩, g4⟩
      | ok lr =>
        obtain ⟨l0, r2⟩ := lr
        rw [hr] at g4
        exact ⟨rfl, g4.1, ⟨hl, g3⟩, g4.2⟩
theorem lines_sim (most : Nat) (hm : most ≤ 12) : ListSim (fun x => WfE kLine x) most rdLine (fun s => prog_list_api_Line () (most : Int) ((), ((), ())) s ((), ()) ()) := by
  refine list_of fun s v s1 h0 hv => ?_
  have hw : IntKind.i64.wrap v = v := wrap_i64 (by omega) (by omega)
  refine ⟨fun h => ?_, fun h q hs => ?_⟩
  · unfold prog_list_api_Line
    refine (bind_of h0).trans ?_
    show (bif decide (IntKind.i64.wrap v > (most : Int)) then _ else _) = _
    rw [hw, dec_t h]; rfl
  · obtain ⟨n, rfl⟩ : ∃ n : Nat, v = n := ⟨v.toNat, by omega⟩
    obtain ⟨l, s', g1, g2⟩ := many_sim (n := n) (step := prog_list_api_Line.l1) (st := fun i out s => (((), (((), ((), ())), ((), ((n : Int), (i : Int))))), (s, (((), ()), ((), (out, ())))))) (ex := fun out s => ((), (s, (((), ()), ((), (out, ())))))) okS_er line_sim (fun i out s v s' hi ho hg => by
      unfold prog_list_api_Line.l1
      simp only [dec_t (show (i : Int) < (n : Int) by omega), cond_true]
      rw [line_at hg, Option.bind_some]
      show (bif (s'.1.1 : Int) != 0 then _ else room (out.length + [v].length) _) = _
      rw [room_ok (by simp; omega), succ_i64 (by omega)]
      show _ = some (bif (s'.1.1 : Int) != 0 then _ else _)
      cases (s'.1.1 : Int) != 0 <;> rfl) (fun out s => by
      unfold prog_list_api_Line.l1
      simp only [dec_f (show ¬ (n : Int) < (n : Int) by omega), cond_false]) n 0 [] s1 q loopN (by omega) (by simp) (by rw [loopN_eq]; omega) hs
    refine ⟨l, s', ?_, g2⟩
    unfold prog_list_api_Line
    refine (bind_of h0).trans ?_
    show (bif decide (IntKind.i64.wrap (n : Int) > (most : Int)) then _ else (iterL prog_list_api_Line.l1 loopN (((), (((), ((), ())), ((), (IntKind.i64.wrap (n : Int), 0)))), (s1, (((), ()), ((), ([], ())))))).bind _) = _
    rw [hw, dec_f (by omega), cond_false]
    exact (bind_of g1).trans rfl
theorem takes_sim (most : Nat) (hm : most ≤ 12) : ListSim (fun x => WfE kTake x) most rdTake (fun s => prog_list_api_Take () (most : Int) ((), ((), ())) s ((), ()) ()) := by
  refine list_of fun s v s1 h0 hv => ?_
  have hw : IntKind.i64.wrap v = v := wrap_i64 (by omega) (by omega)
  refine ⟨fun h => ?_, fun h q hs => ?_⟩
  · unfold prog_list_api_Take
    refine (bind_of h0).trans ?_
    show (bif decide (IntKind.i64.wrap v > (most : Int)) then _ else _) = _
    rw [hw, dec_t h]; rfl
  · obtain ⟨n, rfl⟩ : ∃ n : Nat, v = n := ⟨v.toNat, by omega⟩
    obtain ⟨l, s', g1, g2⟩ := many_sim (n := n) (step := prog_list_api_Take.l1) (st := fun i out s => (((), (((), ((), ())), ((), ((n : Int), (i : Int))))), (s, (((), ()), ((), (out, ())))))) (ex := fun out s => ((), (s, (((), ()), ((), (out, ())))))) okS_er take_sim (fun i out s v s' hi ho hg => by
      unfold prog_list_api_Take.l1
      simp only [dec_t (show (i : Int) < (n : Int) by omega), cond_true]
      rw [take_at hg, Option.bind_some]
      show (bif (s'.1.1 : Int) != 0 then _ else room (out.length + [v].length) _) = _
      rw [room_ok (by simp; omega), succ_i64 (by omega)]
      show _ = some (bif (s'.1.1 : Int) != 0 then _ else _)
      cases (s'.1.1 : Int) != 0 <;> rfl) (fun out s => by
      unfold prog_list_api_Take.l1
      simp only [dec_f (show ¬ (n : Int) < (n : Int) by omega), cond_false]) n 0 [] s1 q loopN (by omega) (by simp) (by rw [loopN_eq]; omega) hs
    refine ⟨l, s', ?_, g2⟩
    unfold prog_list_api_Take
    refine (bind_of h0).trans ?_
    show (bif decide (IntKind.i64.wrap (n : Int) > (most : Int)) then _ else (iterL prog_list_api_Take.l1 loopN (((), (((), ((), ())), ((), (IntKind.i64.wrap (n : Int), 0)))), (s1, (((), ()), ((), ([], ())))))).bind _) = _
    rw [hw, dec_f (by omega), cond_false]
    exact (bind_of g1).trans rfl

/-! ### Decode -/
theorem fin_list {α : Type} {Q : α → Prop} {most : Nat} {one : List Int → PR α} {L : Rdr → Option ((List α × Bool × Unit) × Rdr × (Unit × Unit) × Unit × Unit)} {h : List α → Rdr → Option (Prg × Int × Unit)} {P : List α → List Int → PR Prg}
    (hL : ListSim Q most one L) (hh : ∀ l, (l.length ≤ most ∧ ∀ x ∈ l, Q x) → FinSim okS erS (h l) (P l)) : FinSim okS erS (fun s => (L s).bind fun r => bif !r.1.2.1 then some (prgZ, (8, ())) else h r.1.1 r.2.1) (fun b => bd (rdList one (most : Int) b) P) := by
  intro s q hs
  obtain ⟨l, fl, s', h1, h2⟩ := hL s q hs
  refine (bind_of h1).trans ?_
  rw [lift_bd]
  cases hx : lift (rdList one (most : Int)) q with
  | error e =>
    rw [hx] at h2
    rcases h2 with ⟨e1, e2⟩ | ⟨e1, e2, e3⟩
    · rw [e1, e2]; rfl
    · rw [e1]; exact hh l e2 s' (.error e) e3
  | ok vr =>
    obtain ⟨l0, r⟩ := vr
    rw [hx] at h2
    obtain ⟨e1, e2, e3, e4⟩ := h2
    subst e2
    rw [e1]; exact hh l e3 s' (.ok r) e4
def mkP (k o po : Int) (ls : List Ln) (ts : List Tk) (os : List Ln) (sk fr to q : Int) : Prg := (IntKind.u8.wrap k, (IntKind.u32.wrap o, (IntKind.u8.wrap po, (ls, (ts, (os, (IntKind.u8.wrap sk, (IntKind.u8.wrap fr, (IntKind.u8.wrap to, (q, ()))))))))))
theorem mkP_few {k o po : Int} {ls : List Ln} {ts : List Tk} {os : List Ln} {sk fr to q : Int} (h1 : ls.length ≤ 3 ∧ ∀ x ∈ ls, WfE kLine x) (h2 : ts.length ≤ 12 ∧ ∀ x ∈ ts, WfE kTake x) (h3 : os.length ≤ 3 ∧ ∀ x ∈ os, WfE kLine x) (h4 : I64 q) : Few (mkP k o po ls ts os sk fr to q) := by
  refine ⟨⟨wfw_u8 k, wfw_u32 o, wfw_u8 po, ⟨?_, h1.2⟩, ⟨?_, h2.2⟩, ⟨?_, h3.2⟩, wfw_u8 sk, wfw_u8 fr, wfw_u8 to, wfm_i64 h4.1 h4.2, trivial⟩, ?_, ?_, ?_⟩
  · show ls.length ≤ maxLen
    unfold maxLen; omega
  · show ts.length ≤ maxLen
    unfold maxLen; omega
  · show os.length ≤ maxLen
    unfold maxLen; omega
  · show ls.length ≤ 100
    omega
  · show ts.length ≤ 100
    omega
  · show os.length ≤ 100
    omega
def dK11 (p : Prg) (s : Rdr) : Option (Prg × Int × Unit) := (wire_Reader_End () s).bind fun r20 => bif (r20.1 : Int) != 0 then some (prgZ, (r20.1, ())) else (prog_Good 4 4 p).bind fun r21 => bif !r21 then some (prgZ, (8, ())) else some (p, (0, ()))
def dK10 (k o po : Int) (ls : List Ln) (ts : List Tk) (os : List Ln) (sk fr to : Int) (s : Rdr) : Option (Prg × Int × Unit) := (wire_Reader_Int () s).bind fun r => dK11 (mkP k o po ls ts os sk fr to r.1) r.2.1
def dK9 (k o po : Int) (ls : List Ln) (ts : List Tk) (os : List Ln) (sk fr : Int) (s : Rdr) : Option (Prg × Int × Unit) := (wire_Reader_Num_v2 () 1 s).bind fun r => dK10 k o po ls ts os sk fr r.1 r.2.1
def dK8 (k o po : Int) (ls : List Ln) (ts : List Tk) (os : List Ln) (sk : Int) (s : Rdr) : Option (Prg × Int × Unit) := (wire_Reader_Num_v2 () 1 s).bind fun r => dK9 k o po ls ts os sk r.1 r.2.1
def dK7 (k o po : Int) (ls : List Ln) (ts : List Tk) (os : List Ln) (s : Rdr) : Option (Prg × Int × Unit) := (wire_Reader_Num_v2 () 1 s).bind fun r => dK8 k o po ls ts os r.1 r.2.1
def dK6 (k o po : Int) (ls : List Ln) (ts : List Tk) (s : Rdr) : Option (Prg × Int × Unit) := (prog_list_api_Line () 3 ((), ((), ())) s ((), ()) ()).bind fun r => bif !r.1.2.1 then some (prgZ, (8, ())) else dK7 k o po ls ts r.1.1 r.2.1
def dK5 (k o po : Int) (ls : List Ln) (s : Rdr) : Option (Prg × Int × Unit) := (prog_list_api_Take () 12 ((), ((), ())) s ((), ()) ()).bind fun r => bif !r.1.2.1 then some (prgZ, (8, ())) else dK6 k o po ls r.1.1 r.2.1
def dK4 (k o po : Int) (s : Rdr) : Option (Prg × Int × Unit) := (prog_list_api_Line () 3 ((), ((), ())) s ((), ()) ()).bind fun r => bif !r.1.2.1 then some (prgZ, (8, ())) else dK5 k o po r.1.1 r.2.1
def dK3 (k o : Int) (s : Rdr) : Option (Prg × Int × Unit) := (wire_Reader_Num_v2 () 1 s).bind fun r => dK4 k o r.1 r.2.1
def dK2 (k : Int) (s : Rdr) : Option (Prg × Int × Unit) := (wire_Reader_Num_v2 () 4 s).bind fun r => dK3 k r.1 r.2.1
def dK1 (s : Rdr) : Option (Prg × Int × Unit) := (wire_Reader_Num_v2 () 1 s).bind fun r => dK2 r.1 r.2.1
theorem dK11_sim {p : Prg} (hf : Few p) : FinSim okS erS (dK11 p) (fun r => .ok (p, r)) := by
  intro s q hs
  unfold dK11
  cases q with
  | error e =>
    obtain ⟨h1, h2⟩ := hs
    have h1 : s.1.1 = e := h1
    have hE : wire_Reader_End () s = some (e, (s, ())) := by
      unfold wire_Reader_End wire_Reader_Left
      show (Option.bind (bif !(s.1.1 == 0) then some (0, ((s.1, s.2), ())) else some ((s.2.1.length : Int), ((s.1, s.2), ()))) _) = _
      rw [h1, show (e == 0) = false by simpa using h2]
      show some (s.1.1, (s, ())) = _
      rw [h1]
    refine (bind_of hE).trans ?_
    rw [show (e != 0) = true by simpa using h2]; rfl
  | ok b =>
    obtain ⟨rfl, hb⟩ := hs
    show _ = some (if b.length > 0 then (prgZ, (8, ())) else bif goodP 4 4 p then (p, (0, ())) else (prgZ, (8, ())))
    by_cases hl : b.length > 0
    · have hE : wire_Reader_End () (okS b) = some (8, (okS b, ())) := by
        unfold wire_Reader_End wire_Reader_Left
        show (bif decide ((b.length : Int) > 0) then _ else _) = _
        rw [dec_t (by omega)]; rfl
      rw [if_pos hl]
      exact (bind_of hE).trans rfl
    · have hE : wire_Reader_End () (okS b) = some (0, (okS b, ())) := by
        unfold wire_Reader_End wire_Reader_Left
        show (bif decide ((b.length : Int) > 0) then _ else _) = _
        rw [dec_f (by omega)]; rfl
      rw [if_neg hl]
      refine (bind_of hE).trans ?_
      show ((prog_Good 4 4 p).bind _) = _
      rw [progGood_val 4 4 p hf]
      cases goodP 4 4 p <;> rfl
theorem dK1_sim : FinSim okS erS dK1 rdProg :=
  fin_step (g := fun s => wire_Reader_Num_v2 () ((1 : Nat) : Int) s) (h := dK2) (num_sim 1 (by omega) (by omega)) fun k _ =>
  fin_step (g := fun s => wire_Reader_Num_v2 () ((4 : Nat) : Int) s) (h := dK3 k) (num_sim 4 (by omega) (by omega)) fun o _ =>
  fin_step (g := fun s => wire_Reader_Num_v2 () ((1 : Nat) : Int) s) (h := dK4 k o) (num_sim 1 (by omega) (by omega)) fun po _ =>
  fin_list (h := dK5 k o po) (lines_sim 3 (by omega)) fun ls h1 =>
  fin_list (h := dK6 k o po ls) (takes_sim 12 (by omega)) fun ts h2 =>
  fin_list (h := dK7 k o po ls ts) (lines_sim 3 (by omega)) fun os h3 =>
  fin_step (g := fun s => wire_Reader_Num_v2 () ((1 : Nat) : Int) s) (h := dK8 k o po ls ts os) (num_sim 1 (by omega) (by omega)) fun sk _ =>
  fin_step (g := fun s => wire_Reader_Num_v2 () ((1 : Nat) : Int) s) (h := dK9 k o po ls ts os sk) (num_sim 1 (by omega) (by omega)) fun fr _ =>
  fin_step (g := fun s => wire_Reader_Num_v2 () ((1 : Nat) : Int) s) (h := dK10 k o po ls ts os sk fr) (num_sim 1 (by omega) (by omega)) fun to _ =>
  fin_step (h := fun q s => dK11 (mkP k o po ls ts os sk fr to q) s) int_sim fun q hq => dK11_sim (mkP_few h1 h2 h3 hq)

/-! ### The first number, off a row of one's own -/
theorem num_loop1 (l b : List Int) (hl : l.length ≤ 8) (hb : BytesOk l) (s : Rdr) : iterL wire_Reader_Num.l1 loopN ((0, (l, ((l.length : Int), 0))), (s, (b, ()))) = some (leVal l, (s, (b, ()))) := by
  have h := loop_walk (step := wire_Reader_Num.l1) l (fun i (a : Int) => ((a, (l, ((l.length : Int), (i : Int)))), (s, (b, ())))) (fun i c a => .inl (a + c * 256 ^ i)) (fun a => (a, (s, (b, ())))) (fun i a => 0 ≤ a ∧ a < 256 ^ i) 0 (by omega) (by simp) (fun i c a hc ha => by
    have hlt := get_lt hc
    have hcb := hb c (get_mem hc)
    have hp : (256 : Int) ^ (i + 1) ≤ 18446744073709551616 := pow_le8 (by omega)
    have hp0 : (0 : Int) < 256 ^ i := Int.pow_pos (by omega)
    rw [Int.pow_succ] at hp
    have hm : 0 ≤ c * 256 ^ i ∧ c * 256 ^ i ≤ 255 * 256 ^ i := ⟨Int.mul_nonneg hcb.1 (by omega), Int.mul_le_mul_of_nonneg_right (by omega) (by omega)⟩
    refine ⟨?_, fun b hb => by cases hb; rw [Int.pow_succ]; omega⟩
    have e1 : IntKind.i64.wrap (8 * (i : Int)) = 8 * (i : Int) := wrap_i64 (by omega) (by omega)
    have e2 : (8 * (i : Int)).toNat = 8 * i := by omega
    unfold wire_Reader_Num.l1
    simp only [dec_t (show (i : Int) < (l.length : Int) by omega), cond_true, e1, e2]
    rw [nthK_get hc, chk_true (by simp; omega), Nat.min_eq_left (by omega), pow8, u64_of (x := c) (by omega) (by omega), u64_of (by omega) (by omega), ← pow8, or_add a c (8 * i) ha.1 (by rw [pow8]; exact ha.2) hcb.1 (by rw [pow8]; show a + c * 256 ^ i < 18446744073709551616; omega), succ_i64 (by omega)]) (fun a _ => by
    unfold wire_Reader_Num.l1
    simp only [dec_f (show ¬ (l.length : Int) < (l.length : Int) by omega), cond_false])
  rw [show (((0 : Nat) : Int)) = 0 from rfl] at h
  rw [h]
  have hw : ∀ (k : List Int) (i : Nat) (a : Int), walkL (X := Int × Rdr × List Int × Unit) (fun i c a => .inl (a + c * 256 ^ i)) (fun a => (a, (s, (b, ())))) i k a = (a + 256 ^ i * leVal k, (s, (b, ()))) := by
    intro k
    induction k with
    | nil => intro i a; simp [walkL, leVal]
    | cons c k ih =>
      intro i a
      simp only [walkL, ih, leVal, Int.pow_succ, Int.mul_add]
      rw [Int.mul_comm c, ← Int.mul_assoc]
      congr 1; omega
  rw [hw]; simp
theorem take1_ok (b : List Int) (h : 1 ≤ b.length) : wire_Reader_take () 1 ((0, ()), ((), ())) b = some (b.take 1, (okS (b.drop 1), (b, ()))) := by
  unfold wire_Reader_take
  show (bif decide ((1 : Int) > (b.length : Int)) then _ else chk (decide (0 ≤ (1 : Int)) && decide ((1 : Int) ≤ (b.length : Int))) (chk ((1 : Int) == 1) (chk (decide (0 ≤ (1 : Int)) && decide ((1 : Int) ≤ (b.length : Int))) (some ((b.take 1).drop 0, (((0, ()), ((b.take b.length).drop 1, ())), (b, ()))))))) = _
  have hc : (decide (0 ≤ (1 : Int)) && decide ((1 : Int) ≤ (b.length : Int))) = true := by simp; omega
  rw [dec_f (by omega), cond_false, chk_true hc, chk_true (by simp), chk_true hc, List.take_length, List.drop_zero]; rfl
theorem take1_ok2 (b : List Int) (h : 1 ≤ b.length) : wire_Reader_take_v2 () 1 (okS b) = some (b.take 1, (okS (b.drop 1), ())) := by
  unfold wire_Reader_take_v2
  show (bif decide ((1 : Int) > (b.length : Int)) then _ else chk (decide (0 ≤ (1 : Int)) && decide ((1 : Int) ≤ (b.length : Int))) (chk ((1 : Int) == 1) (chk (decide (0 ≤ (1 : Int)) && decide ((1 : Int) ≤ (b.length : Int))) (some ((b.take 1).drop 0, (((0, ()), ((b.take b.length).drop 1, ())), ())))))) = _
  have hc : (decide (0 ≤ (1 : Int)) && decide ((1 : Int) ≤ (b.length : Int))) = true := by simp; omega
  rw [dec_f (by omega), cond_false, chk_true hc, chk_true (by simp), chk_true hc, List.take_length, List.drop_zero]; rfl
theorem num_first (b : List Int) (hb : BytesOk b) : wire_Reader_Num () 1 ((0, ()), ((), ())) b = (wire_Reader_Num_v2 () 1 (okS b)).bind fun r => some (r.1, (r.2.1, (b, ()))) := by
  cases b with
  | nil =>
    have h1 : wire_Reader_take () 1 ((0, ()), ((), ())) [] = some ([], (((6, ()), ([], ())), ([], ()))) := rfl
    have h2 : wire_Reader_take_v2 () 1 (okS []) = some ([], (((6, ()), ([], ())), ())) := rfl
    have g1 : wire_Reader_Num () 1 ((0, ()), ((), ())) [] = some (0, (((6, ()), ([], ())), ([], ()))) := by
      unfold wire_Reader_Num
      rw [dec_f (show ¬ (1 : Int) < 1 by omega), dec_f (show ¬ (1 : Int) > 8 by omega), cond_false, cond_false]
      refine (bind_of h1).trans ?_
      exact (bind_of (num_loop1 [] [] (by simp) (fun b hb => by cases hb) ((6, ()), ([], ())))).trans rfl
    have g2 : wire_Reader_Num_v2 () 1 (okS []) = some (0, (((6, ()), ([], ())), ())) := by
      unfold wire_Reader_Num_v2
      rw [dec_f (show ¬ (1 : Int) < 1 by omega), dec_f (show ¬ (1 : Int) > 8 by omega), cond_false, cond_false]
      refine (bind_of h2).trans ?_
      exact (bind_of (num_loop [] (by simp) (fun b hb => by cases hb) ((6, ()), ([], ())))).trans rfl
    rw [g1, g2]; rfl
  | cons c l =>
    have h1 : wire_Reader_take () 1 ((0, ()), ((), ())) (c :: l) = some ([c], (okS l, (c :: l, ()))) := take1_ok (c :: l) (by simp)
    have h2 : wire_Reader_take_v2 () 1 (okS (c :: l)) = some ([c], (okS l, ())) := take1_ok2 (c :: l) (by simp)
    have hc : BytesOk [c] := fun x hx => hb x (by rw [List.mem_singleton] at hx; rw [hx]; exact List.mem_cons_self)
    have g1 : wire_Reader_Num () 1 ((0, ()), ((), ())) (c :: l) = some (leVal [c], (okS l, (c :: l, ()))) := by
      unfold wire_Reader_Num
      rw [dec_f (show ¬ (1 : Int) < 1 by omega), dec_f (show ¬ (1 : Int) > 8 by omega), cond_false, cond_false]
      refine (bind_of h1).trans ?_
      exact (bind_of (num_loop1 [c] (c :: l) (by simp) hc (okS l))).trans rfl
    have g2 : wire_Reader_Num_v2 () 1 (okS (c :: l)) = some (leVal [c], (okS l, ())) := by
      unfold wire_Reader_Num_v2
      rw [dec_f (show ¬ (1 : Int) < 1 by omega), dec_f (show ¬ (1 : Int) > 8 by omega), cond_false, cond_false]
      refine (bind_of h2).trans ?_
      exact (bind_of (num_loop [c] (by simp) hc (okS l))).trans rfl
    rw [g1, g2]; rfl
theorem decode_val (b : List Int) (hb : BytesOk b) (hl : b.length ≤ 4294967296) : prog_Decode b = some (fin (rdProg b)) := by
  have hd := dK1_sim (okS b) (.ok b) ⟨rfl, hb⟩
  have hr : wire_Read b = some ((), (((0, ()), ((), ())), (b, ()))) := by
    show room (0 + b.length) (some ((), (((0, ()), ((), ())), ([] ++ b, ())))) = _
    rw [room_ok (by omega)]; rfl
  unfold prog_Decode
  refine (bind_of hr).trans ?_
  show ((wire_Reader_Num () 1 ((0, ()), ((), ())) b).bind _) = _
  rw [num_first b hb]
  cases hn : wire_Reader_Num_v2 () 1 (okS b) with
  | none => unfold dK1 at hd; rw [hn] at hd; cases hd
  | some r =>
    unfold dK1 at hd
    rw [hn] at hd
    exact hd
end Go.Proofs.Pure

/- What the document decodes of any bytes: the same. -/
namespace Go.Proofs.Pure
open Go.Proofs.D Go.Proofs.F

abbrev RdT := List Int × Int × Unit
def mkT (b : List Int) : RdT := (b, (0, ()))
def erT (t : RdT) : Int := t.2.1
theorem mkT_er (b : List Int) : erT (mkT b) = 0 := rfl
theorem getNum_loop (b : List Int) (n : Nat) (h1 : 1 ≤ n) (h8 : n ≤ 8) (hl : n ≤ b.length) (hb : BytesOk b) : iterL pledgeref03_GetNum.l1 loopN (b, ((n : Int), (0, IntKind.i64.wrap ((n : Int) - 1)))) = some (b, ((n : Int), leVal (b.take n))) := by
  have hlen : (b.take n).length = n := by rw [List.length_take]; omega
  have hget : ∀ k, k < n → ∃ c, b[k]? = some c ∧ (b.take n)[k]? = some c := fun k hk => by
    refine ⟨b[k]'(by omega), List.getElem?_eq_getElem (by omega), ?_⟩
    rw [List.getElem?_take_of_lt hk]
    exact List.getElem?_eq_getElem (by omega)
  have key : ∀ (k m : Nat), k ≤ n → k < m → iterL pledgeref03_GetNum.l1 m (b, ((n : Int), (leVal ((b.take n).drop k), (k : Int) - 1))) = some (b, ((n : Int), leVal (b.take n))) := by
    intro k
    induction k with
    | zero =>
      intro m hk hm
      obtain ⟨m, rfl⟩ : ∃ j, m = j + 1 := ⟨m - 1, by omega⟩
      refine iterL_done ?_
      unfold pledgeref03_GetNum.l1
      simp only [dec_f (show ¬ ((0 : Nat) : Int) - 1 ≥ 0 by omega), cond_false, List.drop_zero]
    | succ k ih =>
      intro m hk hm
      obtain ⟨m, rfl⟩ : ∃ j, m = j + 1 := ⟨m - 1, by omega⟩
      obtain ⟨c, hc, hc2⟩ := hget k (by omega)
      have hcb := hb c (get_mem hc)
      have hv := leVal_bnd _ ((hb.take n).drop (k + 1))
      rw [List.length_drop, hlen] at hv
      have hp : (256 : Int) ^ (n - (k + 1) + 1) ≤ 18446744073709551616 := pow_le8 (by omega)
      rw [Int.pow_succ] at hp
      have hs := leVal_snoc _ _ _ hc2
      have hstep : pledgeref03_GetNum.l1 (b, ((n : Int), (leVal ((b.take n).drop (k + 1)), ((k + 1 : Nat) : Int) - 1))) = some (.inl (b, ((n : Int), (leVal ((b.take n).drop k), (k : Int) - 1)))) := by
        unfold pledgeref03_GetNum.l1
        have e1 : ((k + 1 : Nat) : Int) - 1 = (k : Int) := by omega
        simp only [e1, dec_t (show (k : Int) ≥ 0 by omega), cond_true]
        rw [nthK_get hc, u64_of (x := leVal ((b.take n).drop (k + 1)) * 256) (by omega) (by omega), u64_of (x := c) (by omega) (by omega), u64_of (by omega) (by omega), wrap_i64 (by omega) (by omega), hs]
        rw [show leVal ((b.take n).drop (k + 1)) * 256 + c = c + 256 * leVal ((b.take n).drop (k + 1)) by omega]
      exact (iterL_next hstep).trans (ih m (by omega) (by omega))
  have := key n loopN (Nat.le_refl _) (by rw [loopN_eq]; omega)
  rw [List.drop_of_length_le (by omega)] at this
  rw [wrap_i64 (by omega) (by omega)]
  exact this
theorem rnum_full (n : Nat) (h1 : 1 ≤ n) (h8 : n ≤ 8) (t : RdT) (q : Except Int (List Int)) (hs : RS mkT erT t q) : ∃ v t', pledgeref13_R_Num () (n : Int) t = some (v, (t', ())) ∧ (0 ≤ v ∧ v < 256 ^ n) ∧ match lift (rdN n) q with | .ok (v0, r) => v = v0 ∧ RS mkT erT t' (.ok r) | .error e => v = 0 ∧ RS mkT erT t' (.error e) := by
  have hp0 : (0 : Int) < 256 ^ n := Int.pow_pos (by omega)
  cases q with
  | error e =>
    obtain ⟨h2, h3⟩ := hs
    refine ⟨0, t, ?_, ⟨Int.le_refl _, hp0⟩, rfl, h2, h3⟩
    unfold pledgeref13_R_Num
    rw [show (t.2.1 != 0) = true by have h2 : t.2.1 = e := h2; rw [h2]; simpa using h3]; rfl
  | ok b =>
    obtain ⟨rfl, hb⟩ := hs
    have hlift : lift (rdN n) (.ok b) = rdN n b := rfl
    rw [hlift]
    unfold rdN
    by_cases hl : b.length < n
    · rw [if_pos hl]
      have hg : pledgeref03_GetNum b (n : Int) = some (0, ([], (6, ()))) := by
        unfold pledgeref03_GetNum
        rw [dec_f (show ¬ (n : Int) < 1 by omega), dec_f (show ¬ (n : Int) > 8 by omega), dec_t (show (b.length : Int) < (n : Int) by omega)]; rfl
      refine ⟨0, ([], (6, ())), ?_, ⟨Int.le_refl _, hp0⟩, rfl, rfl, by omega⟩
      unfold pledgeref13_R_Num
      show ((pledgeref03_GetNum b (n : Int)).bind _) = _
      exact (bind_of hg).trans rfl
    · rw [if_neg hl]
      have hlen : (b.take n).length = n := by rw [List.length_take]; omega
      have hv := leVal_bnd _ (hb.take n)
      rw [hlen] at hv
      have hg : pledgeref03_GetNum b (n : Int) = some (leVal (b.take n), (b.drop n, (0, ()))) := by
        unfold pledgeref03_GetNum
        rw [dec_f (show ¬ (n : Int) < 1 by omega), dec_f (show ¬ (n : Int) > 8 by omega), dec_f (show ¬ (b.length : Int) < (n : Int) by omega)]
        refine (bind_of (getNum_loop b n h1 h8 (by omega) hb)).trans ?_
        show chk (decide (0 ≤ (n : Int)) && decide ((n : Int) ≤ (b.length : Int))) (some (leVal (b.take n), ((b.take b.length).drop (n : Int).toNat, (0, ())))) = _
        rw [chk_true (by simp; omega), List.take_length, Int.toNat_natCast]
      refine ⟨leVal (b.take n), mkT (b.drop n), ?_, hv, rfl, rfl, hb.drop n⟩
      unfold pledgeref13_R_Num
      show ((pledgeref03_GetNum b (n : Int)).bind _) = _
      exact (bind_of hg).trans rfl
theorem rnum_sim (n : Nat) (h1 : 1 ≤ n) (h8 : n ≤ 8) : Sim mkT erT (fun v => 0 ≤ v ∧ v < 256 ^ n) (fun t => pledgeref13_R_Num () (n : Int) t) (rdN n) := fun t q hs => by
  obtain ⟨v, t', k1, k2, k3⟩ := rnum_full n h1 h8 t q hs
  refine ⟨v, t', k1, k2, ?_⟩
  cases hx : lift (rdN n) q with
  | error e => rw [hx] at k3; exact k3.2
  | ok vr => rw [hx] at k3; exact k3
theorem rint_sim : Sim mkT erT I64 (fun t => pledgeref13_R_Int () t) rdI :=
  sim_step (Q := fun v => 0 ≤ v ∧ v < 256 ^ 8) (h := fun v s => some (IntKind.i64.wrap v, (s, ()))) (rnum_sim 8 (by omega) (by omega)) fun v _ => sim_ret (i64_bnd v)
def gLineR (s : RdT) : Option (Ln × RdT × Unit) := (pledgeref13_R_Num () 1 s).bind fun r => (pledgeref13_R_Int () r.2.1).bind fun r2 => some ((IntKind.u8.wrap r.1, (r2.1, ())), (r2.2.1, ()))
theorem rline_sim : Sim mkT erT (fun x => WfE kLine x) gLineR rdLine :=
  sim_step (g := fun s => pledgeref13_R_Num () ((1 : Nat) : Int) s) (h := fun v s => (pledgeref13_R_Int () s).bind fun r2 => some ((IntKind.u8.wrap v, (r2.1, ())), (r2.2.1, ()))) (rnum_sim 1 (by omega) (by omega)) fun v _ =>
    sim_step (h := fun q s => some ((IntKind.u8.wrap v, (q, ())), (s, ()))) rint_sim fun q hq => sim_ret ⟨wfw_u8 v, wfm_i64 hq.1 hq.2, trivial⟩
def gTakeR (s : RdT) : Option (Tk × RdT × Unit) := (pledgeref13_R_Num () 4 s).bind fun a => (pledgeref13_R_Num () 1 a.2.1).bind fun b => (pledgeref13_R_Num () 1 b.2.1).bind fun c => (pledgeref13_R_Int () c.2.1).bind fun d => some ((IntKind.u32.wrap a.1, (IntKind.u8.wrap b.1, (IntKind.u8.wrap c.1, (d.1, ())))), (d.2.1, ()))
theorem rtake_sim : Sim mkT erT (fun x => WfE kTake x) gTakeR rdTake :=
  sim_step (g := fun s => pledgeref13_R_Num () ((4 : Nat) : Int) s) (h := fun a s => (pledgeref13_R_Num () 1 s).bind fun b => (pledgeref13_R_Num () 1 b.2.1).bind fun c => (pledgeref13_R_Int () c.2.1).bind fun d => some ((IntKind.u32.wrap a, (IntKind.u8.wrap b.1, (IntKind.u8.wrap c.1, (d.1, ())))), (d.2.1, ()))) (rnum_sim 4 (by omega) (by omega)) fun a _ =>
    sim_step (g := fun s => pledgeref13_R_Num () ((1 : Nat) : Int) s) (h := fun b s => (pledgeref13_R_Num () 1 s).bind fun c => (pledgeref13_R_Int () c.2.1).bind fun d => some ((IntKind.u32.wrap a, (IntKind.u8.wrap b, (IntKind.u8.wrap c.1, (d.1, ())))), (d.2.1, ()))) (rnum_sim 1 (by omega) (by omega)) fun b _ =>
      sim_step (g := fun s => pledgeref13_R_Num () ((1 : Nat) : Int) s) (h := fun c s => (pledgeref13_R_Int () s).bind fun d => some ((IntKind.u32.wrap a, (IntKind.u8.wrap b, (IntKind.u8.wrap c, (d.1, ())))), (d.2.1, ()))) (rnum_sim 1 (by omega) (by omega)) fun c _ =>
        sim_step (h := fun d s => some ((IntKind.u32.wrap a, (IntKind.u8.wrap b, (IntKind.u8.wrap c, (d, ())))), (s, ()))) rint_sim fun d hd => sim_ret ⟨wfw_u32 a, wfw_u8 b, wfw_u8 c, wfm_i64 hd.1 hd.2, trivial⟩

section
variable {S α V X : Type} {mk : List Int → S} {er : S → Int} {Q : α → Prop} {g : S → Option (α × S × Unit)} {one : List Int → PR α} {step : V → Option (V ⊕ X)} {st : Nat → List α → S → V} {ex : List α → S → X} {n : Nat}
theorem many_simR (hmk : ∀ b, er (mk b) = 0) (hg : Sim mk er Q g one) (h1 : ∀ i out s v s', i < n → out.length ≤ n → er s = 0 → g s = some (v, (s', ())) → step (st i out s) = some (.inl (st (i + 1) (out ++ [v]) s')))
    (h1' : ∀ i out s, i < n → er s ≠ 0 → step (st i out s) = some (.inr (ex out s))) (h2 : ∀ out s, step (st n out s) = some (.inr (ex out s))) : ∀ (k i : Nat) (out : List α) (s : S) (q : Except Int (List Int)) (m : Nat), i + k = n → out.length ≤ i → k < m → RS mk er s q →
    ∃ l s', iterL step m (st i out s) = some (ex (out ++ l) s') ∧ Many mk er Q one k l s' q := by
  intro k
  induction k with
  | zero =>
    intro i out s q m hi ho hm hs
    obtain ⟨m, rfl⟩ : ∃ j, m = j + 1 := ⟨m - 1, by omega⟩
    refine ⟨[], s, ?_, by simp, (fun x hx => by cases hx), ?_⟩
    · rw [List.append_nil, show i = n by omega]; exact iterL_done (h2 out s)
    · cases q with
      | ok b => exact ⟨rfl, hs⟩
      | error e => exact hs
  | succ k ih =>
    intro i out s q m hi ho hm hs
    obtain ⟨m, rfl⟩ : ∃ j, m = j + 1 := ⟨m - 1, by omega⟩
    have hb : lift (rdMany one (k + 1)) q = bd (lift one q) fun x r => bd (rdMany one k r) fun l r => .ok (x :: l, r) := lift_bd one _ q
    cases q with
    | error e =>
      obtain ⟨e1, e2⟩ := hs
      exact ⟨[], s, by rw [List.append_nil]; exact iterL_done (h1' i out s (by omega) (by rw [e1]; exact e2)), by simp, (fun x hx => by cases hx), e1, e2⟩
    | ok b =>
      obtain ⟨v, s', g1, g2, g3⟩ := hg s (.ok b) hs
      have h0 : er s = 0 := by rw [hs.1, hmk]
      have hst := h1 i out s v s' (by omega) (by omega) h0 g1
      cases hx : lift one (.ok b) with
      | error e =>
        rw [hx] at g3 hb
        obtain ⟨l, s2, k1, k2, k3, k4⟩ := ih (i + 1) (out ++ [v]) s' (.error e) m (by omega) (by simp; omega) (by omega) g3
        refine ⟨v :: l, s2, (iterL_next hst).trans (by rw [k1]; simp), by simp; omega, fun x hx => ?_, by rw [hb]; exact k4⟩
        rcases List.mem_cons.1 hx with q | q
        · rw [q]; exact g2
        · exact k3 x q
      | ok vr =>
        obtain ⟨v0, r⟩ := vr
        rw [hx] at g3 hb
        obtain ⟨e, g4⟩ := g3
        subst e
        obtain ⟨l, s2, k1, k2, k3, k4⟩ := ih (i + 1) (out ++ [v]) s' (.ok r) m (by omega) (by simp; omega) (by omega) g4
        refine ⟨v :: l, s2, (iterL_next hst).trans (by rw [k1]; simp), by simp; omega, fun x hx => ?_, ?_⟩
        · rcases List.mem_cons.1 hx with q | q
          · rw [q]; exact g2
          · exact k3 x q
        · have hl : lift (rdMany one k) (.ok r) = rdMany one k r := rfl
          rw [hl] at k4
          rw [hb]
          show match bd (rdMany one k r) (fun l r => .ok (v :: l, r)) with | .ok (l0, r) => v :: l = l0 ∧ RS mk er s2 (.ok r) | .error e => RS mk er s2 (.error e)
          cases hr : rdMany one k r with
          | error e => rw [hr] at k4; exact k4
          | ok lr =>
            obtain ⟨l0, r2⟩ := lr
            rw [hr] at k4
            exact ⟨by rw [k4.1], k4.2⟩
end
theorem count_val (most : Nat) (hm : most ≤ 12) (t : RdT) (q : Except Int (List Int)) (hs : RS mkT erT t q) : ∃ (n : Nat) (t' : RdT), pledgeref13_R_Count () (most : Int) t = some ((n : Int), (t', ())) ∧ n ≤ most ∧ match lift (rdN 1) q with
    | .ok (v, r) => if v > (most : Int) then n = 0 ∧ RS mkT erT t' (.error 8) else v = (n : Int) ∧ RS mkT erT t' (.ok r)
    | .error e => n = 0 ∧ RS mkT erT t' (.error e) := by
  obtain ⟨v, t', k1, k2, k3⟩ := rnum_full 1 (by omega) (by omega) t q hs
  have hw : IntKind.i64.wrap v = v := wrap_i64 (by omega) (by omega)
  unfold pledgeref13_R_Count
  cases hx : lift (rdN 1) q with
  | error e =>
    rw [hx] at k3
    obtain ⟨e0, k4⟩ := k3
    subst e0
    refine ⟨0, t', ?_, by omega, rfl, k4⟩
    refine (bind_of k1).trans ?_
    have h1 : t'.2.1 = e := k4.1
    show (bif t'.2.1 == 0 then _ else bif t'.2.1 != 0 then some (0, (t', ())) else _) = _
    rw [h1, show (e == 0) = false by simpa using k4.2, show (e != 0) = true by simpa using k4.2]; rfl
  | ok vr =>
    obtain ⟨v0, r⟩ := vr
    rw [hx] at k3
    obtain ⟨e0, k4⟩ := k3
    subst e0
    obtain ⟨rfl, hr⟩ := k4
    by_cases hv : v > (most : Int)
    · refine ⟨0, (r, (8, ())), ?_, by omega, ?_⟩
      · refine (bind_of k1).trans ?_
        show (bif decide (IntKind.i64.wrap v > (most : Int)) then _ else _) = _
        rw [hw, dec_t hv]; rfl
      · show if v > (most : Int) then _ else _
        rw [if_pos hv]; exact ⟨rfl, rfl, by omega⟩
    · refine ⟨v.toNat, mkT r, ?_, by omega, ?_⟩
      · refine (bind_of k1).trans ?_
        show (bif decide (IntKind.i64.wrap v > (most : Int)) then _ else some (IntKind.i64.wrap v, (mkT r, ()))) = _
        rw [hw, dec_f hv, show ((v.toNat : Nat) : Int) = v by omega]; rfl
      · show if v > (most : Int) then _ else _
        rw [if_neg hv]; exact ⟨by omega, rfl, hr⟩
/-- A list behind its count. -/
theorem listR_of {α : Type} {Q : α → Prop} {most : Nat} (hm : most ≤ 12) {one : List Int → PR α} {L : RdT → Option (List α × RdT × Unit)}
    (hL : ∀ s (n : Nat) s1, pledgeref13_R_Count () (most : Int) s = some ((n : Int), (s1, ())) → n ≤ most → ∀ q, RS mkT erT s1 q → ∃ l s', L s = some (l, (s', ())) ∧ Many mkT erT Q one n l s' q) : Sim mkT erT (fun l => l.length ≤ most ∧ ∀ x ∈ l, Q x) L (rdList one (most : Int)) := by
  intro s q hs
  obtain ⟨n, s1, k1, k2, k3⟩ := count_val most hm s q hs
  have hb : lift (rdList one (most : Int)) q = bd (lift (rdN 1) q) fun n r => if n > (most : Int) then .error 8 else rdMany one n.toNat r := lift_bd (rdN 1) _ q
  rw [hb]
  cases hx : lift (rdN 1) q with
  | error e =>
    rw [hx] at k3
    obtain ⟨l, s', g1, g2, g3, g4⟩ := hL s n s1 k1 k2 (.error e) k3.2
    exact ⟨l, s', g1, ⟨by omega, g3⟩, g4⟩
  | ok vr =>
    obtain ⟨v, r⟩ := vr
    rw [hx] at k3
    have k3 : if v > (most : Int) then n = 0 ∧ RS mkT erT s1 (.error 8) else v = (n : Int) ∧ RS mkT erT s1 (.ok r) := k3
    have hbd : (bd (.ok (v, r) : PR Int) fun n r => if n > (most : Int) then .error 8 else rdMany one n.toNat r) = if v > (most : Int) then .error 8 else rdMany one v.toNat r := rfl
    by_cases hv : v > (most : Int)
    · rw [if_pos hv] at k3
      obtain ⟨l, s', g1, g2, g3, g4⟩ := hL s n s1 k1 k2 (.error 8) k3.2
      refine ⟨l, s', g1, ⟨by omega, g3⟩, ?_⟩
      rw [hbd, if_pos hv]; exact g4
    · rw [if_neg hv] at k3
      obtain ⟨e0, k4⟩ := k3
      obtain ⟨l, s', g1, g2, g3, g4⟩ := hL s n s1 k1 k2 (.ok r) k4
      refine ⟨l, s', g1, ⟨by omega, g3⟩, ?_⟩
      rw [hbd, if_neg hv, show v.toNat = n by omega]
      have hlf : lift (rdMany one n) (.ok r) = rdMany one n r := rfl
      rw [hlf] at g4
      cases hr : rdMany one n r with
      | error e => rw [hr] at g4; exact g4
      | ok lr =>
        obtain ⟨l0, r2⟩ := lr
        rw [hr] at g4; exact g4
theorem rlines_sim : Sim mkT erT (fun l => l.length ≤ 3 ∧ ∀ x ∈ l, WfE kLine x) (fun t => pledgeref13_R_Lines () t) (rdList rdLine 3) := by
  refine listR_of (most := 3) (by omega) fun s n s1 h0 hn q hs => ?_
  obtain ⟨l, s', g1, g2⟩ := many_simR (n := n) (step := pledgeref13_R_Lines.l1) (st := fun i out s => (((), ((), ((n : Int), (i : Int)))), (s, (out, ())))) (ex := fun out s => ((), (s, (out, ())))) mkT_er rline_sim (fun i out s v s' hi ho he hg => by
    unfold pledgeref13_R_Lines.l1
    simp only [dec_t (show (i : Int) < (n : Int) by omega), cond_true]
    rw [show (s.2.1 == 0) = true by have he : s.2.1 = 0 := he; rw [he]; rfl, cond_true]
    unfold gLineR at hg
    cases a1 : pledgeref13_R_Num () 1 s with
    | none => rw [a1] at hg; cases hg
    | some r =>
      rw [a1] at hg
      rw [Option.bind_some] at hg ⊢
      cases a2 : pledgeref13_R_Int () r.2.1 with
      | none => rw [a2] at hg; cases hg
      | some r2 =>
        rw [a2] at hg
        rw [Option.bind_some] at hg ⊢
        have hg := Option.some.inj hg
        have e1 : (IntKind.u8.wrap r.1, (r2.1, ())) = v := congrArg (fun z => z.1) hg
        have e2 : r2.2.1 = s' := congrArg (fun z => z.2.1) hg
        rw [e1, e2, room_ok (by simp; omega), succ_i64 (by omega)]) (fun i out s hi he => by
    unfold pledgeref13_R_Lines.l1
    simp only [dec_t (show (i : Int) < (n : Int) by omega), cond_true]
    rw [show (s.2.1 == 0) = false by have he : s.2.1 ≠ 0 := he; simpa using he]; rfl) (fun out s => by
    unfold pledgeref13_R_Lines.l1
    simp only [dec_f (show ¬ (n : Int) < (n : Int) by omega), cond_false]) n 0 [] s1 q loopN (by omega) (by simp) (by rw [loopN_eq]; omega) hs
  refine ⟨l, s', ?_, g2⟩
  unfold pledgeref13_R_Lines
  refine (bind_of h0).trans ?_
  exact (bind_of g1).trans rfl
abbrev PFix := Int × Int × Int × List Ln × Unit × Unit × Int × Int × Int × Int × Unit
def rZ : Int × Int × Int × Unit × Unit × Unit × Int × Int × Int × Int × Unit := (0, (0, (0, ((), ((), ((), (0, (0, (0, (0, ()))))))))))
def pFix (k o po : Int) (ls : List Ln) : PFix := (IntKind.u8.wrap k, (IntKind.u32.wrap o, (IntKind.u8.wrap po, (ls, ((), ((), (0, (0, (0, (0, ()))))))))))
def gTakesR (k o po : Int) (ls : List Ln) (t : RdT) : Option (List Tk × RdT × Unit) := (pledgeref13_R_Count () 12 t).bind fun r14 => (iterL pledgeref13_Decode.l1 loopN (((), ((), ((), (r14.1, 0)))), (rZ, (r14.2.1, (pFix k o po ls, ([], ())))))).bind fun y19 => some (y19.2.2.2.2.1, (y19.2.2.1, ()))
theorem rtakes_at (k o po : Int) (ls : List Ln) (n : Nat) (hn : n ≤ 12) (s1 : RdT) (q : Except Int (List Int)) (hs : RS mkT erT s1 q) : ∃ l s', iterL pledgeref13_Decode.l1 loopN (((), ((), ((), ((n : Int), 0)))), (rZ, (s1, (pFix k o po ls, ([], ()))))) = some (((), ((), ())), (rZ, (s', (pFix k o po ls, (l, ()))))) ∧ Many mkT erT (fun x => WfE kTake x) rdTake n l s' q := by
  obtain ⟨l, s', g1, g2⟩ := many_simR (n := n) (step := pledgeref13_Decode.l1) (st := fun i out s => (((), ((), ((), ((n : Int), (i : Int))))), (rZ, (s, (pFix k o po ls, (out, ())))))) (ex := fun out s => (((), ((), ())), (rZ, (s, (pFix k o po ls, (out, ())))))) mkT_er rtake_sim (fun i out s v s' hi ho he hg => by
    unfold pledgeref13_Decode.l1
    simp only [dec_t (show (i : Int) < (n : Int) by omega), cond_true]
    rw [show (s.2.1 == 0) = true by have he : s.2.1 = 0 := he; rw [he]; rfl, cond_true]
    unfold gTakeR at hg
    cases a1 : pledgeref13_R_Num () 4 s with
    | none => rw [a1] at hg; cases hg
    | some r =>
      rw [a1] at hg
      rw [Option.bind_some] at hg ⊢
      cases a2 : pledgeref13_R_Num () 1 r.2.1 with
      | none => rw [a2] at hg; cases hg
      | some r2 =>
        rw [a2] at hg
        rw [Option.bind_some] at hg ⊢
        cases a3 : pledgeref13_R_Num () 1 r2.2.1 with
        | none => rw [a3] at hg; cases hg
        | some r3 =>
          rw [a3] at hg
          rw [Option.bind_some] at hg ⊢
          cases a4 : pledgeref13_R_Int () r3.2.1 with
          | none => rw [a4] at hg; cases hg
          | some r4 =>
            rw [a4] at hg
            rw [Option.bind_some] at hg ⊢
            have hg := Option.some.inj hg
            have e1 : (IntKind.u32.wrap r.1, (IntKind.u8.wrap r2.1, (IntKind.u8.wrap r3.1, (r4.1, ())))) = v := congrArg (fun z => z.1) hg
            have e2 : r4.2.1 = s' := congrArg (fun z => z.2.1) hg
            rw [e1, e2, room_ok (by simp; omega), succ_i64 (by omega)]
            try rfl) (fun i out s hi he => by
    unfold pledgeref13_Decode.l1
    simp only [dec_t (show (i : Int) < (n : Int) by omega), cond_true]
    rw [show (s.2.1 == 0) = false by have he : s.2.1 ≠ 0 := he; simpa using he]; rfl) (fun out s => by
    unfold pledgeref13_Decode.l1
    simp only [dec_f (show ¬ (n : Int) < (n : Int) by omega), cond_false]
    try rfl) n 0 [] s1 q loopN (by omega) (by simp) (by rw [loopN_eq]; omega) hs
  exact ⟨l, s', g1, g2⟩
theorem rtakes_sim (k o po : Int) (ls : List Ln) : Sim mkT erT (fun l => l.length ≤ 12 ∧ ∀ x ∈ l, WfE kTake x) (gTakesR k o po ls) (rdList rdTake 12) := by
  refine listR_of (most := 12) (by omega) fun s n s1 h0 hn q hs => ?_
  obtain ⟨l, s', g1, g2⟩ := rtakes_at k o po ls n hn s1 q hs
  refine ⟨l, s', ?_, g2⟩
  unfold gTakesR
  refine (bind_of h0).trans ?_
  exact (bind_of g1).trans rfl

/-! ### Decode -/
def rK11 (p : Prg) (t : RdT) : Option (Prg × Int × Unit) := bif (t.2.1 : Int) != 0 then some (prgZ, (t.2.1, ())) else bif decide ((t.1.length : Int) > 0) then some (prgZ, (8, ())) else (pledgeref13_Good 4 4 p).bind fun r25 => bif !r25 then some (prgZ, (8, ())) else some (p, (0, ()))
def rK10 (k o po : Int) (ls : List Ln) (ts : List Tk) (os : List Ln) (sk fr to : Int) (s : RdT) : Option (Prg × Int × Unit) := (pledgeref13_R_Int () s).bind fun r => rK11 (mkP k o po ls ts os sk fr to r.1) r.2.1
def rK9 (k o po : Int) (ls : List Ln) (ts : List Tk) (os : List Ln) (sk fr : Int) (s : RdT) : Option (Prg × Int × Unit) := (pledgeref13_R_Num () 1 s).bind fun r => rK10 k o po ls ts os sk fr r.1 r.2.1
def rK8 (k o po : Int) (ls : List Ln) (ts : List Tk) (os : List Ln) (sk : Int) (s : RdT) : Option (Prg × Int × Unit) := (pledgeref13_R_Num () 1 s).bind fun r => rK9 k o po ls ts os sk r.1 r.2.1
def rK7 (k o po : Int) (ls : List Ln) (ts : List Tk) (os : List Ln) (s : RdT) : Option (Prg × Int × Unit) := (pledgeref13_R_Num () 1 s).bind fun r => rK8 k o po ls ts os r.1 r.2.1
def rK6 (k o po : Int) (ls : List Ln) (ts : List Tk) (s : RdT) : Option (Prg × Int × Unit) := (pledgeref13_R_Lines () s).bind fun r => rK7 k o po ls ts r.1 r.2.1
def rK5 (k o po : Int) (ls : List Ln) (s : RdT) : Option (Prg × Int × Unit) := (gTakesR k o po ls s).bind fun r => rK6 k o po ls r.1 r.2.1
def rK4 (k o po : Int) (s : RdT) : Option (Prg × Int × Unit) := (pledgeref13_R_Lines () s).bind fun r => rK5 k o po r.1 r.2.1
def rK3 (k o : Int) (s : RdT) : Option (Prg × Int × Unit) := (pledgeref13_R_Num () 1 s).bind fun r => rK4 k o r.1 r.2.1
def rK2 (k : Int) (s : RdT) : Option (Prg × Int × Unit) := (pledgeref13_R_Num () 4 s).bind fun r => rK3 k r.1 r.2.1
def rK1 (s : RdT) : Option (Prg × Int × Unit) := (pledgeref13_R_Num () 1 s).bind fun r => rK2 r.1 r.2.1
theorem rK11_sim {p : Prg} (hf : Few p) : FinSim mkT erT (rK11 p) (fun r => .ok (p, r)) := by
  intro s q hs
  unfold rK11
  cases q with
  | error e =>
    obtain ⟨h1, h2⟩ := hs
    have h1 : s.2.1 = e := h1
    rw [h1, show (e != 0) = true by simpa using h2]; rfl
  | ok b =>
    obtain ⟨rfl, hb⟩ := hs
    show (bif decide ((b.length : Int) > 0) then _ else (pledgeref13_Good 4 4 p).bind _) = some (if b.length > 0 then (prgZ, (8, ())) else bif goodP 4 4 p then (p, (0, ())) else (prgZ, (8, ())))
    by_cases hl : b.length > 0
    · rw [dec_t (by omega), if_pos hl]; rfl
    · rw [dec_f (by omega), if_neg hl, cond_false, refGoodP_val 4 4 p hf]
      cases goodP 4 4 p <;> rfl
theorem rK1_sim : FinSim mkT erT rK1 rdProg :=
  fin_step (g := fun s => pledgeref13_R_Num () ((1 : Nat) : Int) s) (h := rK2) (rnum_sim 1 (by omega) (by omega)) fun k _ =>
  fin_step (g := fun s => pledgeref13_R_Num () ((4 : Nat) : Int) s) (h := rK3 k) (rnum_sim 4 (by omega) (by omega)) fun o _ =>
  fin_step (g := fun s => pledgeref13_R_Num () ((1 : Nat) : Int) s) (h := rK4 k o) (rnum_sim 1 (by omega) (by omega)) fun po _ =>
  fin_step (h := rK5 k o po) rlines_sim fun ls h1 =>
  fin_step (h := rK6 k o po ls) (rtakes_sim k o po ls) fun ts h2 =>
  fin_step (h := rK7 k o po ls ts) rlines_sim fun os h3 =>
  fin_step (g := fun s => pledgeref13_R_Num () ((1 : Nat) : Int) s) (h := rK8 k o po ls ts os) (rnum_sim 1 (by omega) (by omega)) fun sk _ =>
  fin_step (g := fun s => pledgeref13_R_Num () ((1 : Nat) : Int) s) (h := rK9 k o po ls ts os sk) (rnum_sim 1 (by omega) (by omega)) fun fr _ =>
  fin_step (g := fun s => pledgeref13_R_Num () ((1 : Nat) : Int) s) (h := rK10 k o po ls ts os sk fr) (rnum_sim 1 (by omega) (by omega)) fun to _ =>
  fin_step (h := fun q s => rK11 (mkP k o po ls ts os sk fr to q) s) rint_sim fun q hq => rK11_sim (mkP_few h1 h2 h3 hq)
theorem opt_congr {α β : Type} {o : Option α} {f g : α → Option β} (h : ∀ a, o = some a → f a = g a) : o.bind f = o.bind g := by
  cases o with
  | none => rfl
  | some a => exact h a rfl
theorem refDecode_val (b : List Int) (hb : BytesOk b) : pledgeref13_Decode b = some (fin (rdProg b)) := by
  have hk := rK1_sim (mkT b) (.ok b) ⟨rfl, hb⟩
  refine Eq.trans ?_ hk
  have hN : ∀ (n : Nat) (h1 : 1 ≤ n) (h8 : n ≤ 8) (t : RdT) q, RS mkT erT t q → ∀ r, pledgeref13_R_Num () (n : Int) t = some r → ∃ q', RS mkT erT r.2.1 q' := fun n h1 h8 t q hs r hr => by
    obtain ⟨v, t', k1, k2, k3⟩ := rnum_sim n h1 h8 t q hs
    cases Option.some.inj (hr.symm.trans k1)
    cases hx : lift (rdN n) q with
    | error e => rw [hx] at k3; exact ⟨_, k3⟩
    | ok vr => rw [hx] at k3; exact ⟨_, k3.2⟩
  unfold pledgeref13_Decode rK1
  refine opt_congr fun r10 h10 => ?_
  obtain ⟨q1, s1⟩ := hN 1 (by omega) (by omega) (mkT b) (.ok b) ⟨rfl, hb⟩ r10 h10
  unfold rK2
  refine opt_congr fun r11 h11 => ?_
  obtain ⟨q2, s2⟩ := hN 4 (by omega) (by omega) _ q1 s1 r11 h11
  unfold rK3
  refine opt_congr fun r12 h12 => ?_
  obtain ⟨q3, s3⟩ := hN 1 (by omega) (by omega) _ q2 s2 r12 h12
  unfold rK4
  refine opt_congr fun r13 h13 => ?_
  obtain ⟨q4, s4⟩ : ∃ q', RS mkT erT r13.2.1 q' := by
    obtain ⟨v, t', k1, k2, k3⟩ := rlines_sim _ q3 s3
    cases Option.some.inj (h13.symm.trans k1)
    cases hx : lift (rdList rdLine 3) q3 with
    | error e => rw [hx] at k3; exact ⟨_, k3⟩
    | ok vr => rw [hx] at k3; exact ⟨_, k3.2⟩
  unfold rK5 gTakesR
  obtain ⟨n, t5, c1, c2, c3⟩ := count_val 12 (by omega) r13.2.1 q4 s4
  have c1 : pledgeref13_R_Count () 12 r13.2.1 = some ((n : Int), (t5, ())) := c1
  obtain ⟨q5, s5⟩ : ∃ q', RS mkT erT t5 q' := by
    cases hx : lift (rdN 1) q4 with
    | error e => rw [hx] at c3; exact ⟨_, c3.2⟩
    | ok vr =>
      obtain ⟨v, r⟩ := vr
      rw [hx] at c3
      by_cases hv : v > (12 : Int)
      · have c3 : if v > (12 : Int) then n = 0 ∧ RS mkT erT t5 (.error 8) else v = (n : Int) ∧ RS mkT erT t5 (.ok r) := c3
        rw [if_pos hv] at c3; exact ⟨_, c3.2⟩
      · have c3 : if v > (12 : Int) then n = 0 ∧ RS mkT erT t5 (.error 8) else v = (n : Int) ∧ RS mkT erT t5 (.ok r) := c3
        rw [if_neg hv] at c3; exact ⟨_, c3.2⟩
  obtain ⟨l, t6, g1, -⟩ := rtakes_at r10.1 r11.1 r12.1 r13.1 n c2 t5 q5 s5
  rw [c1, Option.bind_some, Option.bind_some]
  show (Option.bind (iterL pledgeref13_Decode.l1 loopN (((), ((), ((), ((n : Int), 0)))), (rZ, (t5, (pFix r10.1 r11.1 r12.1 r13.1, ([], ())))))) _) = _
  rw [g1]
  rfl
end Go.Proofs.Pure

/- Any program is encoded as the document says, and any bytes are decoded so. -/
namespace Go.Proofs.Pure
open Go.Proofs.D Go.Proofs.F

theorem works13 : pledgelaw13_works = some true := by kernel_rfl
theorem few13_cases (x : Prg) (h : WfE kProgram x) : pledgelaw13_Few x = some 0 ∨ (pledgelaw13_Few x = some 1 ∧ Few x ∧ x.2.2.2.1.length ≤ 20 ∧ x.2.2.2.2.1.length ≤ 30 ∧ x.2.2.2.2.2.1.length ≤ 20) := by
  unfold pledgelaw13_Few pledgelaw13_isFew
  by_cases h1 : (x.2.2.2.1.length : Int) ≤ 20
  · by_cases h2 : (x.2.2.2.2.1.length : Int) ≤ 30
    · by_cases h3 : (x.2.2.2.2.2.1.length : Int) ≤ 20
      · rw [dec_t h1, dec_t h2, dec_t h3]
        exact .inr ⟨rfl, ⟨h, by omega, by omega, by omega⟩, by omega, by omega, by omega⟩
      · rw [dec_t h1, dec_t h2, dec_f h3]; exact .inl rfl
    · rw [dec_t h1, dec_f h2]; exact .inl rfl
  · rw [dec_f h1]; exact .inl rfl
/-- How long the lists of a program that may be are. -/
theorem good_lens {p : Prg} (hg : goodP 4 4 p = true) : p.2.2.2.1.length ≤ 3 ∧ p.2.2.2.2.1.length ≤ 12 ∧ p.2.2.2.2.2.1.length ≤ 3 := by
  have tk : ∀ {id : Int} {l : List Tk}, takesB 4 4 id l = true → l.length ≤ 12 := fun h => by
    unfold takesB at h
    simp only [Bool.and_eq_true, decide_eq_true_eq] at h
    omega
  have lk : ∀ {l : List Ln}, linesB 4 l = true → l.length ≤ 3 := fun h => by
    unfold linesB at h
    simp only [Bool.and_eq_true, decide_eq_true_eq] at h
    omega
  have bare : ∀ {p : Prg}, bareB p = true → p.2.2.2.1.length = 0 := fun h => by
    unfold bareB at h
    simp only [Bool.and_eq_true, beq_iff_eq] at h
    omega
  unfold goodP goodKind at hg
  simp only [Bool.and_eq_true] at hg
  have hk := hg.2
  clear hg
  cases c1 : p.1 == 1 with
  | true =>
    rw [c1] at hk
    simp only [cond_true, Bool.and_eq_true] at hk
    have := lk hk.2.2.2.1; have := tk hk.2.2.2.2.1; have := lk hk.2.2.2.2.2.1
    omega
  | false =>
  rw [c1] at hk
  cases c2 : p.1 == 2 with
  | true =>
    rw [c2] at hk
    simp only [cond_true, cond_false, Bool.and_eq_true] at hk
    have := bare hk.2.1; have := tk hk.2.2.1; have := lk hk.2.2.2.1
    omega
  | false =>
  rw [c2] at hk
  cases c3 : (p.1 == 3) || (p.1 == 4) with
  | true =>
    rw [c3] at hk
    simp only [cond_true, cond_false, Bool.and_eq_true, beq_iff_eq] at hk
    have := bare hk.2.1; have := tk hk.2.2.1; have := hk.2.2.2.2
    omega
  | false =>
  rw [c3] at hk
  have mv : movedB 4 4 p = true → p.2.2.2.1.length = 0 ∧ p.2.2.2.2.2.1.length = 0 := fun h => by
    unfold movedB at h
    simp only [Bool.and_eq_true, beq_iff_eq] at h
    have := bare h.2.1
    exact ⟨this, by have := h.2.2.1; omega⟩
  cases c5 : p.1 == 5 with
  | true =>
    rw [c5] at hk
    simp only [cond_true, cond_false, Bool.and_eq_true] at hk
    have := mv hk.1
    have hfl := hk.2.2
    unfold fillsB at hfl
    simp only [Bool.and_eq_true, decide_eq_true_eq] at hfl
    omega
  | false =>
  rw [c5] at hk
  cases c6 : p.1 == 6 with
  | true =>
    rw [c6] at hk
    simp only [cond_true, cond_false, Bool.and_eq_true, beq_iff_eq] at hk
    have := mv hk.1
    have := hk.2.1
    omega
  | false =>
    rw [c6] at hk
    simp only [cond_false] at hk
    cases hk

/-! ### What is decoded may be few -/
theorem bd_ok {α β : Type} {x : PR α} {f : α → List Int → PR β} {z : β × List Int} (h : bd x f = .ok z) : ∃ v r, x = .ok (v, r) ∧ f v r = .ok z := by
  cases x with
  | error e => cases h
  | ok vr => obtain ⟨v, r⟩ := vr; exact ⟨v, r, rfl, h⟩
theorem rdI_ok {b r : List Int} {v : Int} (h : rdI b = .ok (v, r)) : I64 v := by
  obtain ⟨x, r1, -, h2⟩ := bd_ok h
  cases h2; exact i64_bnd x
theorem rdLine_ok {b r : List Int} {x : Ln} (h : rdLine b = .ok (x, r)) : WfE kLine x := by
  obtain ⟨s, r1, -, h2⟩ := bd_ok h
  obtain ⟨q, r2, h3, h4⟩ := bd_ok h2
  cases h4
  have := rdI_ok h3
  exact ⟨wfw_u8 s, wfm_i64 this.1 this.2, trivial⟩
theorem rdTake_ok {b r : List Int} {x : Tk} (h : rdTake b = .ok (x, r)) : WfE kTake x := by
  obtain ⟨o, r1, -, h2⟩ := bd_ok h
  obtain ⟨s, r2, -, h3⟩ := bd_ok h2
  obtain ⟨w, r3, -, h4⟩ := bd_ok h3
  obtain ⟨q, r4, h5, h6⟩ := bd_ok h4
  cases h6
  have := rdI_ok h5
  exact ⟨wfw_u32 o, wfw_u8 s, wfw_u8 w, wfm_i64 this.1 this.2, trivial⟩
theorem rdMany_ok {α : Type} {Q : α → Prop} {one : List Int → PR α} (ho : ∀ b x r, one b = .ok (x, r) → Q x) : ∀ (n : Nat) (b : List Int) (l : List α) (r : List Int), rdMany one n b = .ok (l, r) → l.length = n ∧ ∀ x ∈ l, Q x
  | 0, b, l, r, h => by cases h; exact ⟨rfl, fun x hx => by cases hx⟩
  | n + 1, b, l, r, h => by
    obtain ⟨x, r1, h1, h2⟩ := bd_ok h
    obtain ⟨l1, r2, h3, h4⟩ := bd_ok h2
    cases h4
    obtain ⟨g1, g2⟩ := rdMany_ok ho n _ _ _ h3
    refine ⟨by simp [g1], fun y hy => ?_⟩
    rcases List.mem_cons.1 hy with e | e
    · rw [e]; exact ho _ _ _ h1
    · exact g2 y e
theorem rdList_ok {α : Type} {Q : α → Prop} {one : List Int → PR α} (ho : ∀ b x r, one b = .ok (x, r) → Q x) {most : Nat} {b r : List Int} {l : List α} (h : rdList one (most : Int) b = .ok (l, r)) : l.length ≤ most ∧ ∀ x ∈ l, Q x := by
  obtain ⟨n, r1, -, h2⟩ := bd_ok h
  by_cases hn : n > (most : Int)
  · rw [if_pos hn] at h2; cases h2
  · rw [if_neg hn] at h2
    obtain ⟨g1, g2⟩ := rdMany_ok ho _ _ _ _ h2
    exact ⟨by omega, g2⟩
theorem rdProg_few {b r : List Int} {p : Prg} (h : rdProg b = .ok (p, r)) : Few p ∧ p.2.2.2.2.1.length ≤ 12 := by
  obtain ⟨k, r1, -, h⟩ := bd_ok h
  obtain ⟨o, r2, -, h⟩ := bd_ok h
  obtain ⟨po, r3, -, h⟩ := bd_ok h
  obtain ⟨ls, r4, a1, h⟩ := bd_ok h
  obtain ⟨ts, r5, a2, h⟩ := bd_ok h
  obtain ⟨os, r6, a3, h⟩ := bd_ok h
  obtain ⟨sk, r7, -, h⟩ := bd_ok h
  obtain ⟨fr, r8, -, h⟩ := bd_ok h
  obtain ⟨to, r9, -, h⟩ := bd_ok h
  obtain ⟨q, r10, a4, h⟩ := bd_ok h
  cases h
  have h2 := rdList_ok (Q := fun x => WfE kTake x) (most := 12) (fun _ _ _ => rdTake_ok) a2
  exact ⟨mkP_few (k := k) (o := o) (po := po) (sk := sk) (fr := fr) (to := to) (rdList_ok (Q := fun x => WfE kLine x) (most := 3) (fun _ _ _ => rdLine_ok) a1) h2 (rdList_ok (Q := fun x => WfE kLine x) (most := 3) (fun _ _ _ => rdLine_ok) a3) (rdI_ok a4), h2.1⟩
theorem fin_small (b : List Int) : (fin (rdProg b)).1.2.2.2.1.length < 1000 ∧ (fin (rdProg b)).1.2.2.2.2.1.length < 1000 ∧ (fin (rdProg b)).1.2.2.2.2.2.1.length < 1000 := by
  have hz : prgZ.2.2.2.1.length < 1000 ∧ prgZ.2.2.2.2.1.length < 1000 ∧ prgZ.2.2.2.2.2.1.length < 1000 := ⟨by decide, by decide, by decide⟩
  cases h : rdProg b with
  | error e => exact hz
  | ok vr =>
    obtain ⟨p, r⟩ := vr
    have hf := (rdProg_few h).1
    have l1 := hf.lines; have l2 := hf.takes; have l3 := hf.owes
    unfold fin
    simp only
    split
    · exact hz
    · cases goodP 4 4 p
      · exact hz
      · exact ⟨by show p.2.2.2.1.length < 1000; omega, by show p.2.2.2.2.1.length < 1000; omega, by show p.2.2.2.2.2.1.length < 1000; omega⟩

/-! ### The law -/
def cut400 (x : List Int) : List Int := x.take (if 400 < (x.length : Int) then 400 else (x.length : Int) : Int).toNat
theorem cut400_ok {x : List Int} (h : BytesOk x) : BytesOk (cut400 x) := h.take _
theorem cut400_len (x : List Int) : (cut400 x).length ≤ 400 := by
  unfold cut400
  rw [List.length_take]
  split <;> omega
theorem cut400_chk (x : List Int) : (decide (0 ≤ (if 400 < (x.length : Int) then 400 else (x.length : Int))) && decide ((if 400 < (x.length : Int) then 400 else (x.length : Int)) ≤ (x.length : Int))) = true := by
  split <;> simp <;> omega
theorem bytes_of {x : List Int} (h : ∀ b ∈ x, WfE (.int .u8) b) : BytesOk x := fun b hb => wf_u8 (h b hb)
theorem progBytes (p : Prg) (x : List Int) (hw : WfE kProgram p) (hx : BytesOk x) : pledgelaw13_ProgBytes p x = some true := by
  unfold pledgelaw13_ProgBytes
  rcases few13_cases p hw with e | ⟨e, hf, hT0, hT, hT1⟩
  · exact (bind_of e).trans (by rw [works13]; rfl)
  refine (bind_of e).trans ?_
  show chk _ _ = _
  rw [chk_true (cut400_chk x)]
  have hb := cut400_ok hx
  have hl := cut400_len x
  have tail : (prog_Decode (cut400 x)).bind (fun r9 => (pledgeref13_Decode (cut400 x)).bind fun r10 => (pledgeref13_Same r9.1 r10.1).bind fun r11 => bif r11 then bif (r9.2.1 : Int) == r10.2.1 then pledgelaw13_works.bind fun r12 => some r12 else some false else some false) = some true := by
    have hs := fin_small (cut400 x)
    refine (bind_of (decode_val _ hb (by omega))).trans ?_
    refine (bind_of (refDecode_val _ hb)).trans ?_
    generalize fin (rdProg (cut400 x)) = f at hs ⊢
    rw [refSameP_val _ _ hs.1 hs.2.1 hs.2.2, sameP_refl, works13]
    simp
  cases hg : goodP 4 4 p with
  | false =>
    refine (bind_of (encode_bad p hf hg)).trans ?_
    rw [refGoodP_val 4 4 p hf, hg]
    exact tail
  | true =>
    have hn := good_lens hg
    refine (bind_of (encode_val p hf hg (by omega))).trans ?_
    rw [refGoodP_val 4 4 p hf, hg, refBytes_val p hf]
    simp only [Option.bind_some, Bool.not_true, cond_false, bne_self_eq_false, beq_self_eq_true]
    exact tail
theorem ProgBytes (p : El kProgram) (x : El (.slice (.int .u8))) (hp : WfE kProgram p) (hx : WfE (.slice (.int .u8)) x) : pledgelaw13_ProgBytes p x = some true := progBytes p x hp (bytes_of hx.2)
end Go.Proofs.Pure

/- What is encoded is decoded as it was; what is decoded is encoded so. -/
namespace Go.Proofs.Pure
open Go.Proofs.D Go.Proofs.F

theorem bd_val {α β : Type} {x : PR α} {v : α} {r : List Int} {f : α → List Int → PR β} (h : x = .ok (v, r)) : bd x f = f v r := by rw [h]; rfl
theorem bd_err {α β : Type} {x : PR α} {f : α → List Int → PR β} {e : Int} (h : bd x f = .error e) : x = .error e ∨ ∃ v r, x = .ok (v, r) ∧ f v r = .error e := by
  cases x with
  | error d =>
    have h : (Except.error d : PR β) = .error e := h
    cases h; exact .inl rfl
  | ok vr => obtain ⟨v, r⟩ := vr; exact .inr ⟨v, r, rfl, h⟩
theorem rdN_err {n : Nat} {b : List Int} {e : Int} (h : rdN n b = .error e) : e ≠ 0 := by
  unfold rdN at h
  split at h
  · cases h; omega
  · cases h
theorem rdI_err {b : List Int} {e : Int} (h : rdI b = .error e) : e ≠ 0 := by
  rcases bd_err h with h | ⟨v, r, -, h⟩
  · exact rdN_err h
  · cases h
theorem rdLine_err {b : List Int} {e : Int} (h : rdLine b = .error e) : e ≠ 0 := by
  rcases bd_err h with h | ⟨v, r, -, h⟩
  · exact rdN_err h
  rcases bd_err h with h | ⟨v, r, -, h⟩
  · exact rdI_err h
  · cases h
theorem rdTake_err {b : List Int} {e : Int} (h : rdTake b = .error e) : e ≠ 0 := by
  rcases bd_err h with h | ⟨v, r, -, h⟩
  · exact rdN_err h
  rcases bd_err h with h | ⟨v, r, -, h⟩
  · exact rdN_err h
  rcases bd_err h with h | ⟨v, r, -, h⟩
  · exact rdN_err h
  rcases bd_err h with h | ⟨v, r, -, h⟩
  · exact rdI_err h
  · cases h
theorem rdMany_err {α : Type} {one : List Int → PR α} (ho : ∀ b e, one b = .error e → e ≠ 0) : ∀ (n : Nat) (b : List Int) (e : Int), rdMany one n b = .error e → e ≠ 0
  | 0, b, e, h => by cases h
  | n + 1, b, e, h => by
    rcases bd_err h with h | ⟨v, r, -, h⟩
    · exact ho _ _ h
    rcases bd_err h with h | ⟨v, r, -, h⟩
    · exact rdMany_err ho n _ _ h
    · cases h
theorem rdList_err {α : Type} {one : List Int → PR α} (ho : ∀ b e, one b = .error e → e ≠ 0) {most : Int} {b : List Int} {e : Int} (h : rdList one most b = .error e) : e ≠ 0 := by
  rcases bd_err h with h | ⟨v, r, -, h⟩
  · exact rdN_err h
  by_cases hv : v > most
  · rw [if_pos hv] at h; cases h; omega
  · rw [if_neg hv] at h; exact rdMany_err ho _ _ _ h
theorem rdProg_err (b : List Int) {e : Int} (h : rdProg b = .error e) : e ≠ 0 := by
  rcases bd_err h with h | ⟨v, r, -, h⟩
  · exact rdN_err h
  rcases bd_err h with h | ⟨v, r, -, h⟩
  · exact rdN_err h
  rcases bd_err h with h | ⟨v, r, -, h⟩
  · exact rdN_err h
  rcases bd_err h with h | ⟨v, r, -, h⟩
  · exact rdList_err (fun _ _ => rdLine_err) h
  rcases bd_err h with h | ⟨v, r, -, h⟩
  · exact rdList_err (fun _ _ => rdTake_err) h
  rcases bd_err h with h | ⟨v, r, -, h⟩
  · exact rdList_err (fun _ _ => rdLine_err) h
  rcases bd_err h with h | ⟨v, r, -, h⟩
  · exact rdN_err h
  rcases bd_err h with h | ⟨v, r, -, h⟩
  · exact rdN_err h
  rcases bd_err h with h | ⟨v, r, -, h⟩
  · exact rdN_err h
  rcases bd_err h with h | ⟨v, r, -, h⟩
  · exact rdI_err h
  · cases h

/-! ### What is written is read -/
theorem rdN_app (n : Nat) (x : Int) (r : List Int) (h0 : 0 ≤ x) (h : x < 256 ^ n) : rdN n (leN n x ++ r) = .ok (x, r) := by
  unfold rdN
  rw [if_neg (by rw [List.length_append, leN_len]; omega), List.take_left' (leN_len n x), List.drop_left' (leN_len n x), leVal_leN n x h0 h]
theorem i64_u64 (x : Int) (h : I64 x) : IntKind.i64.wrap (IntKind.u64.wrap x) = x := by
  obtain ⟨h1, h2⟩ := h
  have e : IntKind.u64.wrap x = x % 18446744073709551616 := rfl
  rw [e]
  unfold IntKind.wrap
  simp only [IntKind.bits, IntKind.signed, Bool.true_and, decide_eq_true_eq, show (2 : Int) ^ 64 = 18446744073709551616 by decide, show (2 : Int) ^ (64 - 1) = 9223372036854775808 by decide]
  split <;> omega
theorem rdI_app (x : Int) (r : List Int) (h : I64 x) : rdI (le8 x ++ r) = .ok (x, r) := by
  have hb := u64_bnd x
  unfold rdI le8
  refine (bd_val (rdN_app 8 _ r hb.1 hb.2)).trans ?_
  show Except.ok (IntKind.i64.wrap (IntKind.u64.wrap x), r) = _
  rw [i64_u64 x h]
theorem rd1_app (x : Int) (r : List Int) (h0 : 0 ≤ x) (h : x < 256) : rdN 1 (leN 1 x ++ r) = .ok (x, r) := rdN_app 1 x r h0 (by omega)
theorem rd4_app (x : Int) (r : List Int) (h0 : 0 ≤ x) (h : x < 4294967296) : rdN 4 (leN 4 x ++ r) = .ok (x, r) := rdN_app 4 x r h0 (by omega)
theorem u32_of {x : Int} (h0 : 0 ≤ x) (h : x < 4294967296) : IntKind.u32.wrap x = x := by
  show x % 4294967296 = x
  omega
theorem rdLine_app (x : Ln) (r : List Int) (h : WfE kLine x) : rdLine (lineV x ++ r) = .ok (x, r) := by
  have h1 := wf_u8 h.1
  have h2 : I64 x.2.1 := wf_i64 h.2.1
  unfold rdLine lineV
  rw [List.append_assoc]
  refine (bd_val (rd1_app _ _ (by omega) (by omega))).trans ?_
  refine (bd_val (rdI_app _ _ h2)).trans ?_
  show Except.ok ((IntKind.u8.wrap x.1, (x.2.1, ())), r) = _
  rw [u8_of (by omega) (by omega)]
theorem rdTake_app (x : Tk) (r : List Int) (h : WfE kTake x) : rdTake (takeV x ++ r) = .ok (x, r) := by
  have h1 := wf_u32 h.1
  have h2 := wf_u8 h.2.1
  have h3 := wf_u8 h.2.2.1
  have h4 : I64 x.2.2.2.1 := wf_i64 h.2.2.2.1
  have e : takeV x ++ r = leN 4 x.1 ++ (leN 1 x.2.1 ++ (leN 1 x.2.2.1 ++ (le8 x.2.2.2.1 ++ r))) := by
    unfold takeV
    rw [leN1 x.2.1 (by omega) (by omega), leN1 x.2.2.1 (by omega) (by omega)]
    simp
  unfold rdTake
  rw [e]
  refine (bd_val (rd4_app _ _ (by omega) (by omega))).trans ?_
  refine (bd_val (rd1_app _ _ (by omega) (by omega))).trans ?_
  refine (bd_val (rd1_app _ _ (by omega) (by omega))).trans ?_
  refine (bd_val (rdI_app _ _ h4)).trans ?_
  show Except.ok ((IntKind.u32.wrap x.1, (IntKind.u8.wrap x.2.1, (IntKind.u8.wrap x.2.2.1, (x.2.2.2.1, ())))), r) = _
  rw [u32_of (by omega) (by omega), u8_of (by omega) (by omega), u8_of (by omega) (by omega)]
theorem rdMany_app {α : Type} {Q : α → Prop} {one : List Int → PR α} {f : α → List Int} (ho : ∀ x r, Q x → one (f x ++ r) = .ok (x, r)) : ∀ (l : List α) (r : List Int), (∀ x ∈ l, Q x) → rdMany one l.length (l.flatMap f ++ r) = .ok (l, r)
  | [], r, _ => rfl
  | x :: l, r, h => by
    show bd (one ((x :: l).flatMap f ++ r)) _ = _
    rw [List.flatMap_cons, List.append_assoc]
    refine (bd_val (ho x _ (h x List.mem_cons_self))).trans ?_
    exact (bd_val (rdMany_app ho l r fun y hy => h y (List.mem_cons_of_mem _ hy))).trans rfl
theorem rdList_app {α : Type} {Q : α → Prop} {one : List Int → PR α} {f : α → List Int} (ho : ∀ x r, Q x → one (f x ++ r) = .ok (x, r)) {most : Nat} (hm : most ≤ 100) (l : List α) (r : List Int) (hl : l.length ≤ most) (h : ∀ x ∈ l, Q x) : rdList one (most : Int) (leN 1 (l.length : Int) ++ l.flatMap f ++ r) = .ok (l, r) := by
  unfold rdList
  rw [List.append_assoc]
  refine (bd_val (rd1_app _ _ (by omega) (by omega))).trans ?_
  show (if (l.length : Int) > (most : Int) then .error 8 else rdMany one ((l.length : Int)).toNat (l.flatMap f ++ r) : PR (List α)) = _
  rw [if_neg (by omega), Int.toNat_natCast, rdMany_app ho l r h]
theorem rdProg_enc (p : Prg) (hf : Few p) (hg : goodP 4 4 p = true) : rdProg (encV p) = .ok (p, []) := by
  obtain ⟨n1, n2, n3⟩ := good_lens hg
  obtain ⟨w1, w2, w3, w4, w5, w6, w7, w8, w9, w10, -⟩ := hf.wf
  have w1 := wf_u8 w1; have w2 := wf_u32 w2; have w3 := wf_u8 w3
  have w7 := wf_u8 w7; have w8 := wf_u8 w8; have w9 := wf_u8 w9
  have e : encV p = leN 1 p.1 ++ (leN 4 p.2.1 ++ (leN 1 p.2.2.1 ++ (leN 1 (p.2.2.2.1.length : Int) ++ p.2.2.2.1.flatMap lineV ++ (leN 1 (p.2.2.2.2.1.length : Int) ++ p.2.2.2.2.1.flatMap takeV ++ (leN 1 (p.2.2.2.2.2.1.length : Int) ++ p.2.2.2.2.2.1.flatMap lineV ++ (leN 1 p.2.2.2.2.2.2.1 ++ (leN 1 p.2.2.2.2.2.2.2.1 ++ (leN 1 p.2.2.2.2.2.2.2.2.1 ++ (le8 p.2.2.2.2.2.2.2.2.2.1 ++ []))))))))) := by
    unfold encV linesV takesV
    rw [leN1 p.2.2.2.2.2.2.1 (by omega) (by omega), leN1 p.2.2.2.2.2.2.2.1 (by omega) (by omega), leN1 p.2.2.2.2.2.2.2.2.1 (by omega) (by omega)]
    simp
  unfold rdProg
  rw [e]
  refine (bd_val (rd1_app _ _ (by omega) (by omega))).trans ?_
  refine (bd_val (rd4_app _ _ (by omega) (by omega))).trans ?_
  refine (bd_val (rd1_app _ _ (by omega) (by omega))).trans ?_
  refine (bd_val (rdList_app (Q := fun x => WfE kLine x) (most := 3) rdLine_app (by omega) _ _ n1 w4.2)).trans ?_
  refine (bd_val (rdList_app (Q := fun x => WfE kTake x) (most := 12) rdTake_app (by omega) _ _ n2 w5.2)).trans ?_
  refine (bd_val (rdList_app (Q := fun x => WfE kLine x) (most := 3) rdLine_app (by omega) _ _ n3 w6.2)).trans ?_
  refine (bd_val (rd1_app _ _ (by omega) (by omega))).trans ?_
  refine (bd_val (rd1_app _ _ (by omega) (by omega))).trans ?_
  refine (bd_val (rd1_app _ _ (by omega) (by omega))).trans ?_
  refine (bd_val (rdI_app _ _ (wf_i64 w10))).trans ?_
  show Except.ok ((IntKind.u8.wrap p.1, (IntKind.u32.wrap p.2.1, (IntKind.u8.wrap p.2.2.1, (p.2.2.2.1, (p.2.2.2.2.1, (p.2.2.2.2.2.1, (IntKind.u8.wrap p.2.2.2.2.2.2.1, (IntKind.u8.wrap p.2.2.2.2.2.2.2.1, (IntKind.u8.wrap p.2.2.2.2.2.2.2.2.1, (p.2.2.2.2.2.2.2.2.2.1, ())))))))))), ([] : List Int)) = _
  rw [u8_of (by omega) (by omega), u32_of (by omega) (by omega), u8_of (by omega) (by omega), u8_of (by omega) (by omega), u8_of (by omega) (by omega), u8_of (by omega) (by omega)]

/-! ### What is read is written -/
theorem rdN_inv {n : Nat} {b r : List Int} {v : Int} (hb : BytesOk b) (h : rdN n b = .ok (v, r)) : b = leN n v ++ r ∧ BytesOk r ∧ 0 ≤ v ∧ v < 256 ^ n := by
  unfold rdN at h
  split at h
  · cases h
  · rename_i hl
    cases h
    have hlen : (b.take n).length = n := by rw [List.length_take]; omega
    have hv := leVal_bnd _ (hb.take n)
    have hi := leN_leVal _ (hb.take n)
    rw [hlen] at hv hi
    exact ⟨by rw [hi, List.take_append_drop], hb.drop n, hv⟩
theorem u64_i64 (v : Int) (h0 : 0 ≤ v) (h : v < 18446744073709551616) : IntKind.u64.wrap (IntKind.i64.wrap v) = v := by
  show (IntKind.i64.wrap v) % 18446744073709551616 = v
  unfold IntKind.wrap
  simp only [IntKind.bits, IntKind.signed, Bool.true_and, decide_eq_true_eq, show (2 : Int) ^ 64 = 18446744073709551616 by decide, show (2 : Int) ^ (64 - 1) = 9223372036854775808 by decide]
  split <;> omega
theorem rdI_inv {b r : List Int} {x : Int} (hb : BytesOk b) (h : rdI b = .ok (x, r)) : b = le8 x ++ r ∧ BytesOk r := by
  obtain ⟨v, r1, h1, h2⟩ := bd_ok h
  cases h2
  obtain ⟨g1, g2, g3, g4⟩ := rdN_inv hb h1
  refine ⟨?_, g2⟩
  unfold le8
  rw [u64_i64 v g3 (by omega)]; exact g1
theorem rd1_inv {b r : List Int} {v : Int} (hb : BytesOk b) (h : rdN 1 b = .ok (v, r)) : b = leN 1 (IntKind.u8.wrap v) ++ r ∧ BytesOk r ∧ IntKind.u8.wrap v = v ∧ 0 ≤ v ∧ v < 256 := by
  obtain ⟨g1, g2, g3, g4⟩ := rdN_inv hb h
  have e := u8_of g3 (show v < 256 by omega)
  exact ⟨by rw [e]; exact g1, g2, e, g3, by omega⟩
theorem rd4_inv {b r : List Int} {v : Int} (hb : BytesOk b) (h : rdN 4 b = .ok (v, r)) : b = leN 4 (IntKind.u32.wrap v) ++ r ∧ BytesOk r := by
  obtain ⟨g1, g2, g3, g4⟩ := rdN_inv hb h
  exact ⟨by rw [u32_of g3 (by omega)]; exact g1, g2⟩
theorem rdLine_inv {b r : List Int} {x : Ln} (hb : BytesOk b) (h : rdLine b = .ok (x, r)) : b = lineV x ++ r ∧ BytesOk r := by
  obtain ⟨s, r1, h1, h⟩ := bd_ok h
  obtain ⟨q, r2, h2, h⟩ := bd_ok h
  cases h
  obtain ⟨a1, a2, -⟩ := rd1_inv hb h1
  obtain ⟨b1, b2⟩ := rdI_inv a2 h2
  refine ⟨?_, b2⟩
  unfold lineV
  rw [a1, b1, List.append_assoc]
theorem rdTake_inv {b r : List Int} {x : Tk} (hb : BytesOk b) (h : rdTake b = .ok (x, r)) : b = takeV x ++ r ∧ BytesOk r := by
  obtain ⟨o, r1, h1, h⟩ := bd_ok h
  obtain ⟨s, r2, h2, h⟩ := bd_ok h
  obtain ⟨w, r3, h3, h⟩ := bd_ok h
  obtain ⟨q, r4, h4, h⟩ := bd_ok h
  cases h
  obtain ⟨a1, a2⟩ := rd4_inv hb h1
  obtain ⟨b1, b2, b3, b4, b5⟩ := rd1_inv a2 h2
  obtain ⟨c1, c2, c3, c4, c5⟩ := rd1_inv b2 h3
  obtain ⟨d1, d2⟩ := rdI_inv c2 h4
  refine ⟨?_, d2⟩
  unfold takeV
  rw [a1, b1, c1, d1, leN1 (IntKind.u8.wrap s) (by rw [b3]; omega) (by rw [b3]; omega), leN1 (IntKind.u8.wrap w) (by rw [c3]; omega) (by rw [c3]; omega)]
  simp
theorem rdMany_inv {α : Type} {one : List Int → PR α} {f : α → List Int} (ho : ∀ b x r, BytesOk b → one b = .ok (x, r) → b = f x ++ r ∧ BytesOk r) : ∀ (n : Nat) (b : List Int) (l : List α) (r : List Int), BytesOk b → rdMany one n b = .ok (l, r) → b = l.flatMap f ++ r ∧ BytesOk r ∧ l.length = n
  | 0, b, l, r, hb, h => by cases h; exact ⟨rfl, hb, rfl⟩
  | n + 1, b, l, r, hb, h => by
    obtain ⟨x, r1, h1, h⟩ := bd_ok h
    obtain ⟨l1, r2, h2, h⟩ := bd_ok h
    cases h
    obtain ⟨a1, a2⟩ := ho _ _ _ hb h1
    obtain ⟨b1, b2, b3⟩ := rdMany_inv ho n _ _ _ a2 h2
    exact ⟨by rw [a1, b1, List.flatMap_cons, List.append_assoc], b2, by simp [b3]⟩
theorem rdList_inv {α : Type} {one : List Int → PR α} {f : α → List Int} (ho : ∀ b x r, BytesOk b → one b = .ok (x, r) → b = f x ++ r ∧ BytesOk r) {most : Int} {b r : List Int} {l : List α} (hb : BytesOk b) (h : rdList one most b = .ok (l, r)) : b = leN 1 (l.length : Int) ++ l.flatMap f ++ r ∧ BytesOk r := by
  obtain ⟨n, r1, h1, h⟩ := bd_ok h
  obtain ⟨a1, a2, a3, a4, a5⟩ := rd1_inv hb h1
  by_cases hn : n > most
  · rw [if_pos hn] at h; cases h
  · rw [if_neg hn] at h
    obtain ⟨b1, b2, b3⟩ := rdMany_inv ho _ _ _ _ a2 h
    refine ⟨?_, b2⟩
    rw [a1, b1, a3, b3, show ((n.toNat : Nat) : Int) = n by omega, List.append_assoc]
theorem rdProg_inv {b r : List Int} {p : Prg} (hb : BytesOk b) (h : rdProg b = .ok (p, r)) : b = encV p ++ r := by
  obtain ⟨k, r1, h1, h⟩ := bd_ok h
  obtain ⟨o, r2, h2, h⟩ := bd_ok h
  obtain ⟨po, r3, h3, h⟩ := bd_ok h
  obtain ⟨ls, r4, h4, h⟩ := bd_ok h
  obtain ⟨ts, r5, h5, h⟩ := bd_ok h
  obtain ⟨os, r6, h6, h⟩ := bd_ok h
  obtain ⟨sk, r7, h7, h⟩ := bd_ok h
  obtain ⟨fr, r8, h8, h⟩ := bd_ok h
  obtain ⟨to, r9, h9, h⟩ := bd_ok h
  obtain ⟨q, r10, h10, h⟩ := bd_ok h
  cases h
  obtain ⟨a1, x1, -⟩ := rd1_inv hb h1
  obtain ⟨a2, x2⟩ := rd4_inv x1 h2
  obtain ⟨a3, x3, -⟩ := rd1_inv x2 h3
  obtain ⟨a4, x4⟩ := rdList_inv (fun _ _ _ => rdLine_inv) x3 h4
  obtain ⟨a5, x5⟩ := rdList_inv (fun _ _ _ => rdTake_inv) x4 h5
  obtain ⟨a6, x6⟩ := rdList_inv (fun _ _ _ => rdLine_inv) x5 h6
  obtain ⟨a7, x7, y7, u7, v7⟩ := rd1_inv x6 h7
  obtain ⟨a8, x8, y8, u8, v8⟩ := rd1_inv x7 h8
  obtain ⟨a9, x9, y9, u9, v9⟩ := rd1_inv x8 h9
  obtain ⟨a10, x10⟩ := rdI_inv x9 h10
  unfold encV linesV takesV
  simp only
  rw [a1, a2, a3, a4, a5, a6, a7, a8, a9, a10, leN1 (IntKind.u8.wrap sk) (by rw [y7]; omega) (by rw [y7]; omega), leN1 (IntKind.u8.wrap fr) (by rw [y8]; omega) (by rw [y8]; omega), leN1 (IntKind.u8.wrap to) (by rw [y9]; omega) (by rw [y9]; omega)]
  simp

/-! ### The law -/
theorem sameP_val (x y : Prg) (h1 : x.2.2.2.1.length < 1000) (h2 : x.2.2.2.2.1.length < 1000) (h3 : x.2.2.2.2.2.1.length < 1000) : prog_Same x y = some (sameP x y) := by
  unfold prog_Same sameP
  rw [equal_val _ _ h1, equalT_val _ _ h2, equal_val _ _ h3]
  simp only [Option.bind_some]
  simp only [cond_some, cond_no]
theorem clone_val {α : Type} (l : List α) (hl : l.length < 1000) : (room (0 + l.length) (some ((), (l, ()))) : Option (Unit × List α × Unit)) = some ((), (l, ())) := room_ok (by omega)
theorem progBack (p : Prg) (x : List Int) (hw : WfE kProgram p) (hx : BytesOk x) : pledgelaw13_ProgBack p x = some true := by
  unfold pledgelaw13_ProgBack
  rcases few13_cases p hw with e | ⟨e, hf, hT0, hT, hT1⟩
  · exact (bind_of e).trans (by rw [works13]; rfl)
  refine (bind_of e).trans ?_
  show chk _ _ = _
  rw [chk_true (cut400_chk x)]
  have hb := cut400_ok hx
  have hl := cut400_len x
  have l1 := hf.lines; have l2 := hf.takes; have l3 := hf.owes
  have s1 : pledgeref13_Same p p = some true := by rw [refSameP_val p p (by omega) (by omega) (by omega), sameP_refl]
  have s2 : prog_Same p p = some true := by rw [sameP_val p p (by omega) (by omega) (by omega), sameP_refl]
  have first : ((prog_Encode p).bind fun r15 => bif (r15.2.1 : Int) == 0 then (prog_Decode r15.1).bind fun r16 => bif (r16.2.1 : Int) != 0 then some (Sum.inr false) else (pledgeref13_Same p r16.1).bind fun r17 => bif !r17 then some (Sum.inr false) else (prog_Same p r16.1).bind fun r18 => bif !r18 then some (Sum.inr false) else some (Sum.inl ((cut400 x, ()), (p, ()))) else some (Sum.inl ((cut400 x, ()), (p, ()))) : Option (((List Int × Unit) × Prg × Unit) ⊕ Bool)) = some (Sum.inl ((cut400 x, ()), (p, ()))) := by
    cases hg : goodP 4 4 p with
    | false => exact (bind_of (encode_bad p hf hg)).trans rfl
    | true =>
      obtain ⟨n1, n2, n3⟩ := good_lens hg
      refine (bind_of (encode_val p hf hg (by omega))).trans ?_
      have hE : BytesOk (encV p) := by
        have w := hf.wf
        have w7 := wf_u8 w.2.2.2.2.2.2.1; have w8 := wf_u8 w.2.2.2.2.2.2.2.1; have w9 := wf_u8 w.2.2.2.2.2.2.2.2.1
        have app : ∀ {a b : List Int}, BytesOk a → BytesOk b → BytesOk (a ++ b) := fun ha hb c hc => (List.mem_append.1 hc).elim (ha c) (hb c)
        have flat : ∀ {α : Type} {f : α → List Int} {l : List α}, (∀ y ∈ l, BytesOk (f y)) → BytesOk (l.flatMap f) := fun h c hc => by
          obtain ⟨y, hy, hc⟩ := List.mem_flatMap.1 hc
          exact h y hy c hc
        have line : ∀ y ∈ p.2.2.2.1, BytesOk (lineV y) := fun y _ => app (leN_ok 1 _) (leN_ok 8 _)
        have lineO : ∀ y ∈ p.2.2.2.2.2.1, BytesOk (lineV y) := fun y _ => app (leN_ok 1 _) (leN_ok 8 _)
        have take : ∀ y ∈ p.2.2.2.2.1, BytesOk (takeV y) := fun y hy => by
          have hwy := w.2.2.2.2.1.2 y hy
          have v1 := wf_u8 hwy.2.1; have v2 := wf_u8 hwy.2.2.1
          refine app (leN_ok 4 _) (app (fun c hc => ?_) (leN_ok 8 _))
          rcases List.mem_cons.1 hc with e | e
          · rw [e]; exact v1
          · rw [List.mem_singleton] at e; rw [e]; exact v2
        refine app (leN_ok 1 _) (app (leN_ok 4 _) (app (leN_ok 1 _) (app (app (leN_ok 1 _) (flat line)) (app (app (leN_ok 1 _) (flat take)) (app (app (leN_ok 1 _) (flat lineO)) (app (fun c hc => ?_) (leN_ok 8 _)))))))
        rcases List.mem_cons.1 hc with e | e
        · rw [e]; exact w7
        rcases List.mem_cons.1 e with e | e
        · rw [e]; exact w8
        · rw [List.mem_singleton] at e; rw [e]; exact w9
      have hEl : (encV p).length ≤ 4294967296 := by unfold encV; simp only [List.length_append, List.length_cons, List.length_nil, leN_len, linesV_len, takesV_len, le8_len]; omega
      have hd : prog_Decode (encV p) = some (p, (0, ())) := by
        rw [decode_val _ hE hEl, rdProg_enc p hf hg]
        unfold fin
        simp only [List.length_nil, hg]
        rfl
      show ((prog_Decode (encV p)).bind _) = _
      rw [hd]
      show ((pledgeref13_Same p p).bind _) = _
      rw [s1]
      show ((prog_Same p p).bind _) = _
      rw [s2]; rfl
  have second : ((prog_Decode (cut400 x)).bind fun r22 => bif (r22.2.1 : Int) == 0 then (prog_Encode r22.1).bind fun r23 => bif (r23.2.1 : Int) != 0 then some (Sum.inr false) else bif !((bytesE r23.1).toList == (bytesE (cut400 x)).toList) then some (Sum.inr false) else (prog_Good 4 4 r22.1).bind fun r24 => bif !r24 then some (Sum.inr false) else some (Sum.inl ((), (p, ()))) else some (Sum.inl ((), (p, ()))) : Option ((Unit × Prg × Unit) ⊕ Bool)) = some (Sum.inl ((), (p, ()))) := by
    refine (bind_of (decode_val _ hb (by omega))).trans ?_
    cases h : rdProg (cut400 x) with
    | error e =>
      have he : e ≠ 0 := rdProg_err _ h
      show (bif (e == 0) then _ else _) = _
      rw [show (e == 0) = false by simpa using he]; rfl
    | ok vr =>
      obtain ⟨q, r⟩ := vr
      obtain ⟨fq, tq⟩ := rdProg_few h
      have hi := rdProg_inv hb h
      unfold fin
      simp only
      by_cases hr : r.length > 0
      · rw [if_pos hr]; rfl
      · rw [if_neg hr]
        have hr0 : r = [] := List.length_eq_zero_iff.1 (by omega)
        rw [hr0, List.append_nil] at hi
        cases hg : goodP 4 4 q with
        | false => rfl
        | true =>
          obtain ⟨n1, n2, n3⟩ := good_lens hg
          simp only [cond_true]
          show ((prog_Encode q).bind _) = _
          rw [encode_val q fq hg (by omega), Option.bind_some]
          rw [← hi, progGood_val 4 4 q fq, hg]
          simp
  refine (congrArg (fun o => Option.bind o _) first).trans ?_
  rw [Option.bind_some]
  refine (congrArg (fun o => Option.bind o _) second).trans ?_
  rw [Option.bind_some]
  have hcp : prog_Copy p = some ((p.1, (p.2.1, (p.2.2.1, ((), ((), ((), p.2.2.2.2.2.2)))))), (p.2.2.2.1, (p.2.2.2.2.1, (p.2.2.2.2.2.1, ())))) := by
    unfold prog_Copy slices_Clone_api_Line_api_Line slices_Clone_api_Take_api_Take
    rw [clone_val _ (by omega), clone_val _ (by omega), clone_val _ (by omega)]; rfl
  refine (bind_of hcp).trans ?_
  by_cases h0 : p.2.2.2.2.1.length = 0
  · show (Option.bind (bif decide ((p.2.2.2.2.1.length : Int) > 0) then _ else some _) _) = _
    rw [dec_f (by omega), cond_false, Option.bind_some]
    show ((pledgeref13_Same p p).bind fun r31 => bif !r31 then some false else (prog_Same p p).bind fun r32 => bif !r32 then some false else bif decide ((p.2.2.2.2.1.length : Int) > 0) then _ else _) = _
    rw [s1, s2, dec_f (by omega), works13]; rfl
  · have ht : p.2.2.2.2.1[0]? = some (p.2.2.2.2.1[0]'(by omega)) := List.getElem?_eq_getElem (by omega)
    generalize p.2.2.2.2.1[0]'(by omega) = t at ht
    show (Option.bind (bif decide ((p.2.2.2.2.1.length : Int) > 0) then nthK p.2.2.2.2.1 0 _ else some _) _) = _
    rw [dec_t (by omega), cond_true, nthK_get0 ht, Option.bind_some]
    show ((pledgeref13_Same p p).bind fun r31 => bif !r31 then some false else (prog_Same p p).bind fun r32 => bif !r32 then some false else bif decide ((p.2.2.2.2.1.length : Int) > 0) then chk (true && decide (0 < (p.2.2.2.2.1.length : Int))) (nthK p.2.2.2.2.1 0 fun e33 => chk (true && decide (0 < (p.2.2.2.2.1.length : Int))) (nthN p.2.2.2.2.1 0 fun e34 => nthK p.2.2.2.2.1 0 fun e35 => bif (e35.2.2.2.1 : Int) == t.2.2.2.1 then pledgelaw13_works.bind fun r36 => some r36 else some false)) else _) = _
    have hc : (true && decide (0 < (p.2.2.2.2.1.length : Int))) = true := by simp; omega
    rw [s1, Option.bind_some, s2, Option.bind_some, dec_t (by omega), chk_true (show (true && true) = true from rfl), nthK_get0 ht, chk_true (show (true && true) = true from rfl), nthN_get ht, nthK_get0 ht, works13]
    simp
theorem ProgBack (p : El kProgram) (x : El (.slice (.int .u8))) (hp : WfE kProgram p) (hx : WfE (.slice (.int .u8)) x) : pledgelaw13_ProgBack p x = some true := progBack p x hp (bytes_of hx.2)
end Go.Proofs.Pure
