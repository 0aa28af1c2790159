/- Whatever records come to a journal (texts in one) -/
import Derived.Test.YtmmhjcimijfipaaGreatFnJpl
import Derived.Test.YtmmhjcimijfipaaGreatPLib
import Derived.Test.YtmmhjcimijfipaaGreatDOpen
set_option linter.unusedVariables false
set_option linter.unusedSimpArgs false
set_option maxRecDepth 100000

/- Programs: which may be, which are the same (texts of P in one). -/

/- Lists of lines, of takes: which are the same. -/
namespace Go.Proofs.Pure
open Go.Proofs.D Go.Proofs.F

abbrev Ln := Int × Int × Unit
def ln0 : Ln := (0, (0, ()))
def at0 (l : List Ln) (i : Nat) : Ln := l.getD i ln0
theorem at_get {l : List Ln} {i : Nat} (h : i < l.length) : l[i]? = some (at0 l i) := by
  unfold at0; rw [List.getD_eq_getElem?_getD, List.getElem?_eq_getElem h]; rfl

def sameL (x y : List Ln) : Bool := (x.length == y.length) && allFrom (fun i => eqE kLine (at0 x i) (at0 y i)) 0 x.length

theorem equal_val (x y : List Ln) (hx : x.length < 1000) : s_Equal_api_Line_api_Line x y = some (sameL x y) := by
  unfold s_Equal_api_Line_api_Line sameL
  by_cases h : x.length = y.length
  · have e : (((x.length : Int) : Int) != (y.length : Int)) = false := by simp [h]
    rw [e]
    simp only [cond_false]
    have := loop_all (step := s_Equal_api_Line_api_Line.l1) (fun i => (x, (y, ((x.length : Int), (i : Int))))) (fun i => eqE kLine (at0 x i) (at0 y i)) (.inl ()) (.inr false) x.length (by omega) (fun i hi => by
      unfold s_Equal_api_Line_api_Line.l1
      simp only [dec_t (show (i : Int) < (x.length : Int) by omega), cond_true]
      rw [nthK_get (at_get hi), nthK_get (at_get (by omega : i < y.length))]
      cases eqE kLine (at0 x i) (at0 y i) with
      | true => simp only [Bool.not_true, cond_false, cond_true]; rw [succ_i64 (by omega)]
      | false => rfl) (by
      unfold s_Equal_api_Line_api_Line.l1
      simp only [dec_f (show ¬ (x.length : Int) < (x.length : Int) by omega), cond_false])
    rw [show (((0 : Nat) : Int)) = 0 from rfl] at this
    rw [this, Option.bind_some]
    rw [show (x.length == y.length) = true by simp [h], Bool.true_and]
    cases allFrom (fun i => eqE kLine (at0 x i) (at0 y i)) 0 x.length <;> rfl
  · have e : (((x.length : Int) : Int) != (y.length : Int)) = true := by simp; omega
    rw [e, show (x.length == y.length) = false by simp [h]]
    rfl

theorem ref_equal_val (x y : List Ln) (hx : x.length < 1000) : ref12_SameLines x y = some (sameL x y) := by
  unfold ref12_SameLines sameL
  by_cases h : x.length = y.length
  · have e : (((x.length : Int) : Int) != (y.length : Int)) = false := by simp [h]
    rw [e]
    simp only [cond_false]
    have := loop_all (step := ref12_SameLines.l1) (fun i => (x, (y, (i : Int)))) (fun i => eqE kLine (at0 x i) (at0 y i)) (.inl ()) (.inr false) x.length (by omega) (fun i hi => by
      unfold ref12_SameLines.l1
      simp only [dec_t (show (i : Int) < (x.length : Int) by omega), cond_true]
      rw [nthK_get (at_get hi), nthK_get (at_get (by omega : i < y.length))]
      cases eqE kLine (at0 x i) (at0 y i) with
      | true => simp only [Bool.not_true, cond_false, cond_true]; rw [succ_i64 (by omega)]
      | false => rfl) (by
      unfold ref12_SameLines.l1
      simp only [dec_f (show ¬ (x.length : Int) < (x.length : Int) by omega), cond_false])
    rw [show (((0 : Nat) : Int)) = 0 from rfl] at this
    rw [this, Option.bind_some]
    rw [show (x.length == y.length) = true by simp [h], Bool.true_and]
    cases allFrom (fun i => eqE kLine (at0 x i) (at0 y i)) 0 x.length <;> rfl
  · have e : (((x.length : Int) : Int) != (y.length : Int)) = true := by simp; omega
    rw [e, show (x.length == y.length) = false by simp [h]]
    rfl

theorem eqLine_refl (a : Ln) : eqE kLine a a = true := by
  show ((a.1 == a.1) && ((a.2.1 == a.2.1) && true)) = true
  simp

theorem sameL_refl (x : List Ln) : sameL x x = true := by
  unfold sameL
  rw [show (x.length == x.length) = true by simp, Bool.true_and, allFrom_iff]
  exact fun j _ _ => eqLine_refl _


abbrev Tk := Int × Int × Int × Int × Unit
def tk0 : Tk := (0, (0, (0, (0, ()))))
def at1 (l : List Tk) (i : Nat) : Tk := l.getD i tk0
theorem at1_get {l : List Tk} {i : Nat} (h : i < l.length) : l[i]? = some (at1 l i) := by
  unfold at1; rw [List.getD_eq_getElem?_getD, List.getElem?_eq_getElem h]; rfl

def sameT (x y : List Tk) : Bool := (x.length == y.length) && allFrom (fun i => eqE kTake (at1 x i) (at1 y i)) 0 x.length

theorem equalT_val (x y : List Tk) (hx : x.length < 1000) : s_Equal_api_Take_api_Take x y = some (sameT x y) := by
  unfold s_Equal_api_Take_api_Take sameT
  by_cases h : x.length = y.length
  · have e : (((x.length : Int) : Int) != (y.length : Int)) = false := by simp [h]
    rw [e]
    simp only [cond_false]
    have := loop_all (step := s_Equal_api_Take_api_Take.l1) (fun i => (x, (y, ((x.length : Int), (i : Int))))) (fun i => eqE kTake (at1 x i) (at1 y i)) (.inl ()) (.inr false) x.length (by omega) (fun i hi => by
      unfold s_Equal_api_Take_api_Take.l1
      simp only [dec_t (show (i : Int) < (x.length : Int) by omega), cond_true]
      rw [nthK_get (at1_get hi), nthK_get (at1_get (by omega : i < y.length))]
      cases eqE kTake (at1 x i) (at1 y i) with
      | true => simp only [Bool.not_true, cond_false, cond_true]; rw [succ_i64 (by omega)]
      | false => rfl) (by
      unfold s_Equal_api_Take_api_Take.l1
      simp only [dec_f (show ¬ (x.length : Int) < (x.length : Int) by omega), cond_false])
    rw [show (((0 : Nat) : Int)) = 0 from rfl] at this
    rw [this, Option.bind_some]
    rw [show (x.length == y.length) = true by simp [h], Bool.true_and]
    cases allFrom (fun i => eqE kTake (at1 x i) (at1 y i)) 0 x.length <;> rfl
  · have e : (((x.length : Int) : Int) != (y.length : Int)) = true := by simp; omega
    rw [e, show (x.length == y.length) = false by simp [h]]
    rfl

theorem ref_equalT_val (x y : List Tk) (hx : x.length < 1000) : ref13_SameTakes x y = some (sameT x y) := by
  unfold ref13_SameTakes sameT
  by_cases h : x.length = y.length
  · have e : (((x.length : Int) : Int) != (y.length : Int)) = false := by simp [h]
    rw [e]
    simp only [cond_false]
    have := loop_all (step := ref13_SameTakes.l1) (fun i => (x, (y, (i : Int)))) (fun i => eqE kTake (at1 x i) (at1 y i)) (.inl ()) (.inr false) x.length (by omega) (fun i hi => by
      unfold ref13_SameTakes.l1
      simp only [dec_t (show (i : Int) < (x.length : Int) by omega), cond_true]
      rw [nthK_get (at1_get hi), nthK_get (at1_get (by omega : i < y.length))]
      cases eqE kTake (at1 x i) (at1 y i) with
      | true => simp only [Bool.not_true, cond_false, cond_true]; rw [succ_i64 (by omega)]
      | false => rfl) (by
      unfold ref13_SameTakes.l1
      simp only [dec_f (show ¬ (x.length : Int) < (x.length : Int) by omega), cond_false])
    rw [show (((0 : Nat) : Int)) = 0 from rfl] at this
    rw [this, Option.bind_some]
    rw [show (x.length == y.length) = true by simp [h], Bool.true_and]
    cases allFrom (fun i => eqE kTake (at1 x i) (at1 y i)) 0 x.length <;> rfl
  · have e : (((x.length : Int) : Int) != (y.length : Int)) = true := by simp; omega
    rw [e, show (x.length == y.length) = false by simp [h]]
    rfl

theorem eqTake_refl (a : Tk) : eqE kTake a a = true := by
  show ((a.1 == a.1) && ((a.2.1 == a.2.1) && ((a.2.2.1 == a.2.2.1) && ((a.2.2.2.1 == a.2.2.2.1) && true)))) = true
  simp

theorem sameT_refl (x : List Tk) : sameT x x = true := by
  unfold sameT
  rw [show (x.length == x.length) = true by simp, Bool.true_and, allFrom_iff]
  exact fun j _ _ => eqTake_refl _

end Go.Proofs.Pure

/- Lines, takes: which may be. -/
namespace Go.Proofs.Pure
open Go.Proofs.D Go.Proofs.F

abbrev Prg := Int × Int × Int × List Ln × List Tk × List Ln × Int × Int × Int × Int × Unit

theorem wfL {l : List Ln} (h : ∀ x ∈ l, WfE kLine x) {i : Nat} (hi : i < l.length) : (0 ≤ (at0 l i).1 ∧ (at0 l i).1 < 256) ∧ -9223372036854775808 ≤ (at0 l i).2.1 ∧ (at0 l i).2.1 < 9223372036854775808 := by
  have := h (at0 l i) (get_mem (at_get hi))
  exact ⟨wf_u8 this.1, wf_i64 this.2.1⟩
theorem wfT {l : List Tk} (h : ∀ x ∈ l, WfE kTake x) {i : Nat} (hi : i < l.length) : (0 ≤ (at1 l i).2.1 ∧ (at1 l i).2.1 < 256) ∧ (0 ≤ (at1 l i).2.2.1 ∧ (at1 l i).2.2.1 < 256) ∧ -9223372036854775808 ≤ (at1 l i).2.2.2.1 ∧ (at1 l i).2.2.2.1 < 9223372036854775808 := by
  have := h (at1 l i) (get_mem (at1_get hi))
  exact ⟨wf_u8 this.2.1, wf_u8 this.2.2.1, wf_i64 this.2.2.2.1⟩

/-! ### Lines -/
def lineR (s : Int) (l : List Ln) (i : Nat) : Bool := !decide ((at0 l i).1 ≥ s) && (!decide ((at0 l i).2.1 < 1) && (Nat.beq i 0 || !decide ((at0 l (i - 1)).1 ≥ (at0 l i).1)))
def linesB (s : Int) (l : List Ln) : Bool := allFrom (lineR s l) 0 l.length && decide ((l.length : Int) ≤ 3)

def lineBody {R : Type} (g : Int → Int) (l : List Ln) (s i : Int) (no yes : Option R) : Option R :=
  nthK l i fun e => bif decide (g e.1 ≥ s) then no else bif decide (e.2.1 < 1) then no else bif decide (i > 0) then nthK l (IntKind.i64.wrap (i - 1)) fun e' => bif decide (e'.1 ≥ e.1) then no else yes else yes

theorem lineBody_val {R : Type} (g : Int → Int) (l : List Ln) (s : Int) (i : Nat) (no yes : Option R) (hi : i < l.length) (hl : l.length < 1000) (hg : g (at0 l i).1 = (at0 l i).1) : lineBody g l s i no yes = bif lineR s l i then yes else no := by
  unfold lineBody lineR
  rw [nthK_get (at_get hi), hg]
  cases decide ((at0 l i).1 ≥ s) with
  | true => rfl
  | false =>
    cases decide ((at0 l i).2.1 < 1) with
    | true => rfl
    | false =>
      cases i with
      | zero => rfl
      | succ i =>
        rw [dec_t (by omega : ((i + 1 : Nat) : Int) > 0), pred_i64 (by omega)]
        simp only [cond_true, cond_false]
        rw [nthK_get (at_get (by omega : i < l.length)), show Nat.beq (i + 1) 0 = false from rfl, Nat.add_sub_cancel]
        cases decide ((at0 l i).1 ≥ (at0 l (i + 1)).1) <;> rfl

theorem wrapL {l : List Ln} (h : ∀ x ∈ l, WfE kLine x) {i : Nat} (hi : i < l.length) : IntKind.i64.wrap (at0 l i).1 = (at0 l i).1 := by
  have := wfL h hi
  exact wrap_i64 (by omega) (by omega)

theorem progLines_val (s : Int) (l : List Ln) (hl : l.length < 1000) (hw : ∀ x ∈ l, WfE kLine x) : prog_lines s l = some (linesB s l) := by
  unfold prog_lines linesB
  have := loop_all (step := prog_lines.l1) (fun i => (s, (l, (l, ((l.length : Int), (i : Int)))))) (lineR s l) (.inl l) (.inr false) l.length (by omega) (fun i hi => by
    have e : prog_lines.l1 (s, (l, (l, ((l.length : Int), (i : Int))))) = bif decide ((i : Int) < (l.length : Int)) then lineBody IntKind.i64.wrap l s i (some (.inr (.inr false))) (some (.inl (s, (l, (l, ((l.length : Int), IntKind.i64.wrap ((i : Int) + 1))))))) else some (.inr (.inl l)) := rfl
    rw [e, dec_t (show (i : Int) < (l.length : Int) by omega), lineBody_val _ l s i _ _ hi hl (wrapL hw hi), succ_i64 (by omega)]
    rfl) (by
    unfold prog_lines.l1
    simp only [dec_f (show ¬ (l.length : Int) < (l.length : Int) by omega), cond_false])
  rw [show (((0 : Nat) : Int)) = 0 from rfl] at this
  rw [this, Option.bind_some]
  cases allFrom (lineR s l) 0 l.length <;> rfl

theorem refLines_val (s : Int) (l : List Ln) (hl : l.length < 1000) (hw : ∀ x ∈ l, WfE kLine x) : ref12_Lines s l = some (linesB s l) := by
  unfold ref12_Lines linesB
  have := loop_all (step := ref12_Lines.l1) (fun i => (s, (l, (i : Int)))) (lineR s l) (.inl l) (.inr false) l.length (by omega) (fun i hi => by
    unfold ref12_Lines.l1
    simp only [dec_t (show (i : Int) < (l.length : Int) by omega), cond_true]
    have e : ∀ (no yes : Option ((Int × List Ln × Int) ⊕ (List Ln ⊕ Bool))), (nthK l (i : Int) fun e6 => bif decide ((IntKind.i64.wrap e6.1) ≥ s) then no else nthK l (i : Int) fun e7 => bif decide (e7.2.1 < 1) then no else bif decide ((i : Int) > 0) then nthK l (IntKind.i64.wrap ((i : Int) - 1)) fun e8 => nthK l (i : Int) fun e9 => bif decide (e8.1 ≥ e9.1) then no else yes else yes) = lineBody IntKind.i64.wrap l s i no yes := by
      intro no yes
      unfold lineBody
      rw [nthK_get (at_get hi), nthK_get (at_get hi), nthK_get (at_get hi)]
      congr 1
      congr 1
      cases i with
      | zero => rfl
      | succ i =>
        rw [dec_t (by omega : ((i + 1 : Nat) : Int) > 0), pred_i64 (by omega)]
        simp only [cond_true]
        rw [nthK_get (at_get (by omega : i < l.length)), nthK_get (at_get (by omega : i < l.length)), nthK_get (at_get hi)]
    rw [e, lineBody_val _ l s i _ _ hi hl (wrapL hw hi), succ_i64 (by omega)]) (by
    unfold ref12_Lines.l1
    simp only [dec_f (show ¬ (l.length : Int) < (l.length : Int) by omega), cond_false])
  rw [show (((0 : Nat) : Int)) = 0 from rfl] at this
  rw [this, Option.bind_some]
  cases allFrom (lineR s l) 0 l.length <;> rfl

/-! ### Takes -/
def tkBase (s w id : Int) (x : Tk) : Bool := !(x.1 != id) && (!decide (x.2.1 ≥ s) && (!decide (x.2.2.1 ≥ w) && !decide (x.2.2.2.1 < 1)))
def tkPrev (y x : Tk) : Bool := !decide (y.2.2.1 > x.2.2.1) && !((y.2.2.1 == x.2.2.1) && decide (y.2.1 ≥ x.2.1))
def takeQ (s w id : Int) (l : List Tk) (i : Nat) : Bool := tkBase s w id (at1 l i) && (Nat.beq i 0 || tkPrev (at1 l (i - 1)) (at1 l i))
def takeR (s w id : Int) (l : List Tk) (i : Nat) : Bool := takeQ s w id l i && (Nat.ble i 2 || !((at1 l (i - 3)).2.2.1 == (at1 l i).2.2.1))
def takesB (s w id : Int) (l : List Tk) : Bool := allFrom (takeR s w id l) 0 l.length && decide ((l.length : Int) ≤ 12)

theorem wrapT {l : List Tk} (h : ∀ x ∈ l, WfE kTake x) {i : Nat} (hi : i < l.length) : IntKind.i64.wrap (at1 l i).2.1 = (at1 l i).2.1 ∧ IntKind.i64.wrap (at1 l i).2.2.1 = (at1 l i).2.2.1 := by
  have := wfT h hi
  exact ⟨wrap_i64 (by omega) (by omega), wrap_i64 (by omega) (by omega)⟩

theorem progTakes_val (s w : Int) (p : Prg) (hl : p.2.2.2.2.1.length < 1000) (hw : ∀ x ∈ p.2.2.2.2.1, WfE kTake x) : prog_takes s w p = some (takesB s w p.2.1 p.2.2.2.2.1) := by
  obtain ⟨kind, id, pol, lines, l, owes, rest⟩ := p
  simp only at hl hw ⊢
  unfold prog_takes takesB
  have := loop_all (step := prog_takes.l1) (fun i => ((s, (w, ((), (l, ((l.length : Int), (i : Int)))))), ((kind, id, pol, lines, l, owes, rest), ()))) (takeR s w id l) (.inl ((), ((kind, id, pol, lines, l, owes, rest), ()))) (.inr false) l.length (by omega) (fun i hi => by
    obtain ⟨w1, w2⟩ := wrapT hw hi
    unfold prog_takes.l1 takeR takeQ tkBase
    simp only [dec_t (show (i : Int) < (l.length : Int) by omega), cond_true]
    have w3 := succ_i64 (show i < 9223372036854775807 by omega)
    rw [nthK_get (at1_get hi), w1, w2]
    cases ((at1 l i).1 != id) with
    | true => rfl
    | false =>
      cases decide ((at1 l i).2.1 ≥ s) with
      | true => rfl
      | false =>
        cases decide ((at1 l i).2.2.1 ≥ w) with
        | true => rfl
        | false =>
          cases decide ((at1 l i).2.2.2.1 < 1) with
          | true => rfl
          | false =>
            simp only [cond_false, Bool.not_false, Bool.true_and]
            -- the one ahead
            have prev : ∀ (no yes : Option (((Int × Int × Unit × List Tk × Int × Int) × Prg × Unit) ⊕ ((Unit × Prg × Unit) ⊕ Bool))), (bif decide ((i : Int) > 0) then nthK l (IntKind.i64.wrap ((i : Int) - 1)) fun e33 => bif decide (e33.2.2.1 > (at1 l i).2.2.1) then no else nthK l (IntKind.i64.wrap ((i : Int) - 1)) fun e34 => bif e34.2.2.1 == (at1 l i).2.2.1 then nthK l (IntKind.i64.wrap ((i : Int) - 1)) fun e35 => bif decide (e35.2.1 ≥ (at1 l i).2.1) then no else yes else yes else yes) =
                bif (Nat.beq i 0 || tkPrev (at1 l (i - 1)) (at1 l i)) then yes else no := by
              intro no yes
              cases i with
              | zero => rfl
              | succ i =>
                rw [dec_t (by omega : ((i + 1 : Nat) : Int) > 0), pred_i64 (by omega)]
                have hi' := at1_get (by omega : i < l.length)
                simp only [cond_true]
                rw [nthK_get hi', nthK_get hi', nthK_get hi', show Nat.beq (i + 1) 0 = false from rfl, Nat.add_sub_cancel]
                unfold tkPrev
                cases decide ((at1 l i).2.2.1 > (at1 l (i + 1)).2.2.1) <;> cases ((at1 l i).2.2.1 == (at1 l (i + 1)).2.2.1) <;> cases decide ((at1 l i).2.1 ≥ (at1 l (i + 1)).2.1) <;> rfl
            by_cases h3 : i ≤ 2
            · rw [dec_f (by omega : ¬ (i : Int) ≥ 3), Nat.ble_eq_true_of_le h3]
              simp only [cond_false, Option.bind_some, w3]
              rw [prev]
              cases (Nat.beq i 0 || tkPrev (at1 l (i - 1)) (at1 l i)) <;> rfl
            · have hw3 : IntKind.i64.wrap ((i : Int) - 3) = ((i - 3 : Nat) : Int) := by rw [wrap_i64 (by omega) (by omega)]; omega
              have hb : Nat.ble i 2 = false := by cases hq : Nat.ble i 2 with
                | false => rfl
                | true => exact absurd (Nat.le_of_ble_eq_true hq) h3
              rw [dec_t (by omega : (i : Int) ≥ 3), hw3, hb]
              simp only [cond_true]
              rw [nthK_get (at1_get (by omega : i - 3 < l.length))]
              cases ((at1 l (i - 3)).2.2.1 == (at1 l i).2.2.1) with
              | true => simp only [cond_true, Option.bind_some]; cases (Nat.beq i 0 || tkPrev (at1 l (i - 1)) (at1 l i)) <;> rfl
              | false =>
                simp only [cond_false, Option.bind_some, w3]
                rw [prev]
                cases (Nat.beq i 0 || tkPrev (at1 l (i - 1)) (at1 l i)) <;> rfl) (by
    unfold prog_takes.l1
    simp only [dec_f (show ¬ (l.length : Int) < (l.length : Int) by omega), cond_false])
  rw [show (((0 : Nat) : Int)) = 0 from rfl] at this
  rw [this, Option.bind_some]
  cases allFrom (takeR s w id l) 0 l.length <;> rfl

theorem refTakes_val (s w : Int) (p : Prg) (hl : p.2.2.2.2.1.length < 1000) (hw : ∀ x ∈ p.2.2.2.2.1, WfE kTake x) : ref13_takes s w p = some (takesB s w p.2.1 p.2.2.2.2.1) := by
  obtain ⟨kind, id, pol, lines, l, owes, rest⟩ := p
  simp only at hl hw ⊢
  unfold ref13_takes takesB
  have := loop_all (step := ref13_takes.l1) (fun i => ((s, (w, ((), (l, (i : Int))))), ((kind, id, pol, lines, l, owes, rest), ()))) (takeR s w id l) (.inl l) (.inr false) l.length (by omega) (fun i hi => by
    obtain ⟨w1, w2⟩ := wrapT hw hi
    have hg := at1_get hi
    unfold ref13_takes.l1 takeR takeQ tkBase
    simp only [dec_t (show (i : Int) < (l.length : Int) by omega), cond_true]
    have w3 := succ_i64 (show i < 9223372036854775807 by omega)
    rw [nthK_get hg, nthK_get hg, nthK_get hg, nthK_get hg, w1, w2]
    cases ((at1 l i).1 != id) with
    | true => rfl
    | false =>
      cases decide ((at1 l i).2.1 ≥ s) with
      | true => rfl
      | false =>
        cases decide ((at1 l i).2.2.1 ≥ w) with
        | true => rfl
        | false =>
          cases decide ((at1 l i).2.2.2.1 < 1) with
          | true => rfl
          | false =>
            simp only [cond_false, Bool.not_false, Bool.true_and]
            -- the one ahead
            have prev : ∀ (R : Type) (no yes : Option R), (bif decide ((i : Int) > 0) then nthK l (IntKind.i64.wrap ((i : Int) - 1)) fun e43 => nthK l (i : Int) fun e44 => bif decide (e43.2.2.1 > e44.2.2.1) then no else nthK l (IntKind.i64.wrap ((i : Int) - 1)) fun e45 => nthK l (i : Int) fun e46 => bif e45.2.2.1 == e46.2.2.1 then nthK l (IntKind.i64.wrap ((i : Int) - 1)) fun e47 => nthK l (i : Int) fun e48 => bif decide (e47.2.1 ≥ e48.2.1) then no else yes else yes else yes) =
                bif (Nat.beq i 0 || tkPrev (at1 l (i - 1)) (at1 l i)) then yes else no := by
              intro R no yes
              cases i with
              | zero => rfl
              | succ i =>
                rw [dec_t (by omega : ((i + 1 : Nat) : Int) > 0), pred_i64 (by omega)]
                have hi' := at1_get (by omega : i < l.length)
                simp only [cond_true]
                rw [nthK_get hi', nthK_get hg, nthK_get hi', nthK_get hg, nthK_get hi', nthK_get hg, show Nat.beq (i + 1) 0 = false from rfl, Nat.add_sub_cancel]
                unfold tkPrev
                cases decide ((at1 l i).2.2.1 > (at1 l (i + 1)).2.2.1) <;> cases ((at1 l i).2.2.1 == (at1 l (i + 1)).2.2.1) <;> cases decide ((at1 l i).2.1 ≥ (at1 l (i + 1)).2.1) <;> rfl
            rw [prev]
            cases (Nat.beq i 0 || tkPrev (at1 l (i - 1)) (at1 l i)) with
            | false => rfl
            | true =>
              simp only [cond_true, Option.bind_some, Bool.true_and]
              by_cases h3 : i ≤ 2
              · rw [dec_f (by omega : ¬ (i : Int) ≥ 3), Nat.ble_eq_true_of_le h3]
                simp only [cond_false, w3, Bool.true_or, cond_true]
              · have hw3 : IntKind.i64.wrap ((i : Int) - 3) = ((i - 3 : Nat) : Int) := by rw [wrap_i64 (by omega) (by omega)]; omega
                have hb : Nat.ble i 2 = false := by cases hq : Nat.ble i 2 with
                  | false => rfl
                  | true => exact absurd (Nat.le_of_ble_eq_true hq) h3
                rw [dec_t (by omega : (i : Int) ≥ 3), hw3, hb]
                simp only [cond_true]
                rw [nthK_get (at1_get (by omega : i - 3 < l.length)), nthK_get hg, w3]
                cases ((at1 l (i - 3)).2.2.1 == (at1 l i).2.2.1) <;> rfl) (by
    unfold ref13_takes.l1
    simp only [dec_f (show ¬ (l.length : Int) < (l.length : Int) by omega), cond_false])
  rw [show (((0 : Nat) : Int)) = 0 from rfl] at this
  rw [this, Option.bind_some]
  cases allFrom (takeR s w id l) 0 l.length <;> rfl
end Go.Proofs.Pure

/- What calc.Sum answers. -/
namespace Go.Proofs.Pure
open Go.Proofs.D Go.Proofs.F

def total : List Int → Int | [] => 0 | x :: l => x + total l
theorem total_append : ∀ (a b : List Int), total (a ++ b) = total a + total b
  | [], b => by simp [total]
  | x :: a, b => by simp only [List.cons_append, total, total_append a b]; omega

theorem wrap_u64 (n : Int) : IntKind.u64.wrap n = n % 18446744073709551616 := by
  simp only [IntKind.wrap, IntKind.bits, IntKind.signed, Bool.false_and, Bool.false_eq_true, if_false, show (2 : Int) ^ 64 = 18446744073709551616 by decide]

theorem add64_val {a b c : Int} (ha : 0 ≤ a) (hb : 0 ≤ b) (hc : c = 0 ∨ c = 1) : add64 a b c = some ((a + b + c) % 18446744073709551616, ((a + b + c) / 18446744073709551616, ())) := by
  obtain ⟨a, rfl⟩ := Int.eq_ofNat_of_zero_le ha
  obtain ⟨b, rfl⟩ := Int.eq_ofNat_of_zero_le hb
  rcases hc with e | e <;> subst e <;> rfl

theorem fdiv63 {e : Int} (h1 : -9223372036854775808 ≤ e) (h2 : e < 9223372036854775808) : Int.fdiv e (2 ^ 63) = if e < 0 then -1 else 0 := by
  rw [show (2 : Int) ^ 63 = 9223372036854775808 by decide, Int.fdiv_eq_ediv_of_nonneg _ (by omega)]
  split <;> omega

/-- One number more, in two halves. -/
theorem sum_step {s e : Int} (h1 : -9223372036854775808 ≤ e) (h2 : e < 9223372036854775808) :
    ((s % 18446744073709551616 + e % 18446744073709551616 + 0) % 18446744073709551616 = (s + e) % 18446744073709551616) ∧
    (((s / 18446744073709551616) % 18446744073709551616 + (if e < 0 then -1 else 0) % 18446744073709551616 + (s % 18446744073709551616 + e % 18446744073709551616 + 0) / 18446744073709551616) % 18446744073709551616 = ((s + e) / 18446744073709551616) % 18446744073709551616) ∧
    ((s % 18446744073709551616 + e % 18446744073709551616 + 0) / 18446744073709551616 = 0 ∨ (s % 18446744073709551616 + e % 18446744073709551616 + 0) / 18446744073709551616 = 1) := by
  split <;> omega

theorem sum_loop (l : List Int) (hl : l.length < 9223372036854775807) (hx : ∀ x ∈ l, -9223372036854775808 ≤ x ∧ x < 9223372036854775808) : ∀ (k j : Nat), j + k = l.length →
    iterL calc_Sum.l1 (k + 1) ((total (l.take j) / 18446744073709551616) % 18446744073709551616, (total (l.take j) % 18446744073709551616, (l, ((l.length : Int), (j : Int))))) =
      some ((total l / 18446744073709551616) % 18446744073709551616, total l % 18446744073709551616)
  | 0, j, h => by
    have e : l.take j = l := List.take_of_length_le (by omega)
    rw [e]
    refine iterL_done ?_
    unfold calc_Sum.l1
    simp only [dec_f (show ¬ (j : Int) < (l.length : Int) by omega), cond_false]
  | k + 1, j, h => by
    have hj : j < l.length := by omega
    have hget : l[j]? = some l[j] := List.getElem?_eq_getElem hj
    obtain ⟨b1, b2⟩ := hx l[j] (List.getElem_mem hj)
    have htake : total (l.take (j + 1)) = total (l.take j) + l[j] := by
      rw [List.take_add_one, hget, total_append]; simp [total]
    obtain ⟨s1, s2, s3⟩ := sum_step (s := total (l.take j)) b1 b2
    have hstep : calc_Sum.l1 ((total (l.take j) / 18446744073709551616) % 18446744073709551616, (total (l.take j) % 18446744073709551616, (l, ((l.length : Int), (j : Int))))) =
        some (.inl ((total (l.take (j + 1)) / 18446744073709551616) % 18446744073709551616, (total (l.take (j + 1)) % 18446744073709551616, (l, ((l.length : Int), ((j + 1 : Nat) : Int)))))) := by
      unfold calc_Sum.l1
      simp only [dec_t (show (j : Int) < (l.length : Int) by omega), cond_true]
      rw [nthK_get hget, fdiv63 b1 b2, wrap_u64, wrap_u64, add64_val (by omega) (by omega) (.inl rfl), Option.bind_some]
      simp only []
      rw [add64_val (by omega) (by omega) s3, Option.bind_some, succ_i64 (by omega), s1, s2, htake]
    rw [iterL_next hstep]
    exact sum_loop l hl hx k (j + 1) (by omega)

/-- All numbers together, if that fits. -/
theorem sum_val (l : List Int) (hl : l.length < 4611686018427387904) (hx : ∀ x ∈ l, -9223372036854775808 ≤ x ∧ x < 9223372036854775808) (h1 : -9223372036854775808 ≤ total l) (h2 : total l < 9223372036854775808) : calc_Sum l = some (total l, (true, ())) := by
  unfold calc_Sum
  have := iterL_mono (sum_loop l (by omega) hx l.length 0 (by omega)) (m := loopN) (by rw [loopN_eq]; omega)
  simp only [List.take_zero, total, show (0 : Int) / 18446744073709551616 % 18446744073709551616 = 0 by decide, show (0 : Int) % 18446744073709551616 = 0 by decide] at this
  rw [show (((0 : Nat) : Int)) = 0 from rfl] at this
  rw [this, Option.bind_some]
  have hw : IntKind.i64.wrap (total l % 18446744073709551616) = total l := by
    unfold IntKind.wrap
    simp only [IntKind.bits, IntKind.signed, Bool.true_and, decide_eq_true_eq, show (2 : Int) ^ 64 = 18446744073709551616 by decide, show (2 : Int) ^ (64 - 1) = 9223372036854775808 by decide]
    split <;> omega
  simp only [hw]
  rw [fdiv63 h1 h2, wrap_u64]
  have : (((if total l < 0 then -1 else 0 : Int) % 18446744073709551616 : Int) == total l / 18446744073709551616 % 18446744073709551616) = true := by
    rw [beq_iff_eq]
    split <;> omega
  rw [this]
  rfl

theorem total_bound : ∀ (l : List Int), (∀ x ∈ l, -9223372036854775808 ≤ x ∧ x < 9223372036854775808) → -9223372036854775808 * (l.length : Int) ≤ total l ∧ total l ≤ 9223372036854775808 * (l.length : Int)
  | [], _ => by simp [total]
  | x :: l, h => by
    have h1 := h x List.mem_cons_self
    have h2 := total_bound l fun y hy => h y (List.mem_cons_of_mem _ hy)
    simp only [total, List.length_cons, Int.natCast_add, Int.natCast_one]
    omega

def fitsI (n : Int) : Bool := decide (-9223372036854775808 ≤ n) && decide (n < 9223372036854775808)
/-- All numbers together, or that they do not fit. -/
def sumOf (l : List Int) : Int × Bool × Unit := if fitsI (total l) = true then (total l, (true, ())) else (0, (false, ()))

theorem sum_all (l : List Int) (hl : l.length < 1000000) (hx : ∀ x ∈ l, -9223372036854775808 ≤ x ∧ x < 9223372036854775808) : calc_Sum l = some (sumOf l) := by
  by_cases hf : fitsI (total l) = true
  · have h := hf
    unfold fitsI at h
    simp only [Bool.and_eq_true, decide_eq_true_eq] at h
    unfold sumOf
    rw [if_pos hf]
    exact sum_val l (by omega) hx h.1 h.2
  · unfold sumOf
    rw [if_neg hf]
    have hb := total_bound l hx
    have hlen : (l.length : Int) < 1000000 := by omega
    unfold calc_Sum
    have := iterL_mono (sum_loop l (by omega) hx l.length 0 (by omega)) (m := loopN) (by rw [loopN_eq]; omega)
    simp only [List.take_zero, total, show (0 : Int) / 18446744073709551616 % 18446744073709551616 = 0 by decide, show (0 : Int) % 18446744073709551616 = 0 by decide] at this
    rw [show (((0 : Nat) : Int)) = 0 from rfl] at this
    rw [this, Option.bind_some]
    have hnf : ¬ (-9223372036854775808 ≤ total l ∧ total l < 9223372036854775808) := fun q => hf (by unfold fitsI; simp [q.1, q.2])
    generalize hw : IntKind.i64.wrap (total l % 18446744073709551616) = r
    have hr : -9223372036854775808 ≤ r ∧ r < 9223372036854775808 ∧ ((r = total l % 18446744073709551616 ∧ total l % 18446744073709551616 < 9223372036854775808) ∨ (r = total l % 18446744073709551616 - 18446744073709551616 ∧ 9223372036854775808 ≤ total l % 18446744073709551616)) := by
      rw [← hw]
      unfold IntKind.wrap
      simp only [IntKind.bits, IntKind.signed, Bool.true_and, decide_eq_true_eq, show (2 : Int) ^ 64 = 18446744073709551616 by decide, show (2 : Int) ^ (64 - 1) = 9223372036854775808 by decide]
      split <;> omega
    rw [fdiv63 hr.1 hr.2.1, wrap_u64]
    have : (((if r < 0 then -1 else 0 : Int) % 18446744073709551616 : Int) == total l / 18446744073709551616 % 18446744073709551616) = false := by
      rw [beq_eq_false_iff_ne]
      split <;> omega
    rw [this]
    rfl
end Go.Proofs.Pure

/- What the reference's sum answers: the same. -/
namespace Go.Proofs.Pure
open Go.Proofs.D Go.Proofs.F

theorem halves_val {a : Int} (h1 : -9223372036854775808 ≤ a) (h2 : a < 9223372036854775808) : ref01_halves a = some (a / 4294967296, (a % 4294967296, ())) := by
  unfold ref01_halves ref01_halves_v2
  by_cases h : a < 0
  · rw [dec_t h]
    have e1 : IntKind.i64.wrap (a + 1) = a + 1 := wrap_i64 (by omega) (by omega)
    have e2 : IntKind.i64.wrap (0 - (a + 1)) = -(a + 1) := by rw [wrap_i64 (by omega) (by omega)]; omega
    simp only [cond_true, e1, e2]
    rw [dec_f (by omega : ¬ -(a + 1) < 0)]
    simp only [cond_false, Option.bind_some]
    have e3 : Int.tdiv (-(a + 1)) 4294967296 = -(a + 1) / 4294967296 := Int.tdiv_eq_ediv_of_nonneg (by omega)
    have e4 : Int.tmod (-(a + 1)) 4294967296 = -(a + 1) % 4294967296 := Int.tmod_eq_emod_of_nonneg (by omega)
    have w1 : IntKind.i64.wrap (-(a + 1) / 4294967296) = -(a + 1) / 4294967296 := wrap_i64 (by omega) (by omega)
    have w2 : IntKind.i64.wrap (-1 - -(a + 1) / 4294967296) = -1 - -(a + 1) / 4294967296 := wrap_i64 (by omega) (by omega)
    have w3 : IntKind.i64.wrap (4294967295 - -(a + 1) % 4294967296) = 4294967295 - -(a + 1) % 4294967296 := wrap_i64 (by omega) (by omega)
    simp only [e3, e4, w1, w2, w3]
    have g1 : -1 - -(a + 1) / 4294967296 = a / 4294967296 := by omega
    have g2 : 4294967295 - -(a + 1) % 4294967296 = a % 4294967296 := by omega
    rw [g1, g2]
  · rw [dec_f h]
    have e3 : Int.tdiv a 4294967296 = a / 4294967296 := Int.tdiv_eq_ediv_of_nonneg (by omega)
    have e4 : Int.tmod a 4294967296 = a % 4294967296 := Int.tmod_eq_emod_of_nonneg (by omega)
    simp only [cond_false, e3, e4]
    rw [wrap_i64 (by omega) (by omega)]

theorem total_take (l : List Int) {j : Nat} (hj : j < l.length) : total (l.take (j + 1)) = total (l.take j) + l[j] := by
  rw [List.take_add_one, List.getElem?_eq_getElem hj, total_append]; simp [total]

theorem refsum_loop (l : List Int) (hl : l.length < 1000000) (hx : ∀ x ∈ l, -9223372036854775808 ≤ x ∧ x < 9223372036854775808) : ∀ (k j : Nat), j + k = l.length →
    iterL ref01_Sum.l1 (k + 1) ((l, ((), (j : Int))), ((total (l.take j) / 4294967296, (total (l.take j) % 4294967296, ())), ())) = some ((), ((total l / 4294967296, (total l % 4294967296, ())), ()))
  | 0, j, h => by
    have e : l.take j = l := List.take_of_length_le (by omega)
    rw [e]
    refine iterL_done ?_
    unfold ref01_Sum.l1
    simp only [dec_f (show ¬ (j : Int) < (l.length : Int) by omega), cond_false]
  | k + 1, j, h => by
    have hj : j < l.length := by omega
    have hget : l[j]? = some l[j] := List.getElem?_eq_getElem hj
    obtain ⟨b1, b2⟩ := hx l[j] (List.getElem_mem hj)
    have htake := total_take l hj
    have hb := total_bound (l.take j) fun x hx' => hx x (List.mem_of_mem_take hx')
    have hlen : ((l.take j).length : Int) < 1000000 := by rw [List.length_take]; omega
    generalize hT : total (l.take j) = t at hb htake
    have hstep : ref01_Sum.l1 ((l, ((), (j : Int))), ((t / 4294967296, (t % 4294967296, ())), ())) = some (.inl ((l, ((), ((j + 1 : Nat) : Int))), ((total (l.take (j + 1)) / 4294967296, (total (l.take (j + 1)) % 4294967296, ())), ()))) := by
      unfold ref01_Sum.l1
      simp only [dec_t (show (j : Int) < (l.length : Int) by omega), cond_true]
      rw [nthK_get hget, halves_val b1 b2, Option.bind_some, succ_i64 (by omega), htake]
      have e1 : IntKind.i64.wrap (t % 4294967296 + l[j] % 4294967296) = t % 4294967296 + l[j] % 4294967296 := wrap_i64 (by omega) (by omega)
      have e2 : IntKind.i64.wrap (t / 4294967296 + l[j] / 4294967296) = t / 4294967296 + l[j] / 4294967296 := wrap_i64 (by omega) (by omega)
      simp only [e1, e2]
      by_cases q : t % 4294967296 + l[j] % 4294967296 ≥ 4294967296
      · rw [dec_t q]
        simp only [cond_true]
        rw [wrap_i64 (n := t / 4294967296 + l[j] / 4294967296 + 1) (by omega) (by omega), wrap_i64 (n := t % 4294967296 + l[j] % 4294967296 - 4294967296) (by omega) (by omega)]
        rw [show t / 4294967296 + l[j] / 4294967296 + 1 = (t + l[j]) / 4294967296 by omega, show t % 4294967296 + l[j] % 4294967296 - 4294967296 = (t + l[j]) % 4294967296 by omega]
      · rw [dec_f q]
        simp only [cond_false]
        rw [show t / 4294967296 + l[j] / 4294967296 = (t + l[j]) / 4294967296 by omega, show t % 4294967296 + l[j] % 4294967296 = (t + l[j]) % 4294967296 by omega]
    rw [iterL_next hstep]
    exact refsum_loop l hl hx k (j + 1) (by omega)

theorem refsum_all (l : List Int) (hl : l.length < 1000000) (hx : ∀ x ∈ l, -9223372036854775808 ≤ x ∧ x < 9223372036854775808) : ref01_Sum l = some (sumOf l) := by
  unfold ref01_Sum sumOf fitsI
  have := iterL_mono (refsum_loop l hl hx l.length 0 (by omega)) (m := loopN) (by rw [loopN_eq]; omega)
  simp only [List.take_zero, total, show (0 : Int) / 4294967296 = 0 by decide, show (0 : Int) % 4294967296 = 0 by decide] at this
  rw [show (((0 : Nat) : Int)) = 0 from rfl] at this
  rw [this, Option.bind_some]
  have hb := total_bound l hx
  have hlen : (l.length : Int) < 1000000 := by omega
  simp only []
  by_cases h1 : total l / 4294967296 < -2147483648
  · rw [dec_t h1, dec_f (by omega : ¬ -9223372036854775808 ≤ total l)]; rfl
  · rw [dec_f h1]
    by_cases h2 : total l / 4294967296 > 2147483647
    · rw [dec_t h2, dec_f (by omega : ¬ total l < 9223372036854775808), Bool.and_false]; rfl
    · rw [dec_f h2, dec_t (by omega : -9223372036854775808 ≤ total l), dec_t (by omega : total l < 9223372036854775808)]
      simp only [cond_false, Bool.and_true, if_true]
      rw [wrap_i64 (n := total l / 4294967296 * 4294967296) (by omega) (by omega), wrap_i64 (by omega) (by omega), show total l / 4294967296 * 4294967296 + total l % 4294967296 = total l by omega]
end Go.Proofs.Pure

/- What takes and items name of an article. -/
namespace Go.Proofs.Pure
open Go.Proofs.D Go.Proofs.F

def ofTake (a : Int) (t : Tk) : List Int := bif t.2.1 == a then [t.2.2.2.1] else []
def ofLine (a : Int) (t : Ln) : List Int := bif t.1 == a then [t.2.1] else []
def namedOf (a : Int) (t : List Tk) (l : List Ln) : List Int := t.flatMap (ofTake a) ++ l.flatMap (ofLine a)

theorem ofTake_len (a : Int) (t : Tk) : (ofTake a t).length ≤ 1 := by unfold ofTake; cases (t.2.1 == a) <;> simp
theorem ofLine_len (a : Int) (t : Ln) : (ofLine a t).length ≤ 1 := by unfold ofLine; cases (t.1 == a) <;> simp
theorem flat_len {α B : Type} {g : α → List B} (h : ∀ x, (g x).length ≤ 1) : ∀ l : List α, (l.flatMap g).length ≤ l.length
  | [] => by simp
  | x :: l => by
    have := h x; have := flat_len h l
    simp only [List.flatMap_cons, List.length_append, List.length_cons]; omega

theorem ref_named_l1 (a : Int) (l : List Ln) (t : List Tk) (ht : t.length < 1000000) : iterL ref13_Named.l1 loopN ((t, (l, (a, ((), 0)))), ([], ())) = some ((l, (a, ())), (t.flatMap (ofTake a), ())) := by
  have := loop_walk (step := ref13_Named.l1) t (fun i (acc : List Int) => ((t, (l, (a, ((), (i : Int))))), (acc, ()))) (fun _ y acc => .inl (acc ++ ofTake a y)) (fun acc => ((l, (a, ())), (acc, ()))) (fun i acc => acc.length ≤ i) [] (by omega) (by simp) (fun i y acc hx hI => by
    have hi := get_lt hx
    refine ⟨?_, fun _ h => by cases h; have := ofTake_len a y; simp only [List.length_append]; omega⟩
    unfold ref13_Named.l1 ofTake
    simp only [dec_t (show (i : Int) < (t.length : Int) by omega), cond_true]
    rw [nthK_get hx, nthK_get hx]
    cases (y.2.1 == a) with
    | true =>
      simp only [cond_true]
      rw [room_ok (by simp; omega), succ_i64 (by omega)]
    | false => simp only [cond_false, List.append_nil]; rw [succ_i64 (by omega)]) (fun acc _ => by
    unfold ref13_Named.l1
    simp only [dec_f (show ¬ (t.length : Int) < (t.length : Int) by omega), cond_false])
  rw [show (((0 : Nat) : Int)) = 0 from rfl] at this
  rw [this, walk_gather, List.nil_append]

theorem ref_named_l2 (a : Int) (acc0 : List Int) (t : List Ln) (h0 : acc0.length < 1000000) (ht : t.length < 1000000) : iterL ref13_Named.l2 loopN ((t, (a, ((), 0))), (acc0, ())) = some ((), (acc0 ++ t.flatMap (ofLine a), ())) := by
  have := loop_walk (step := ref13_Named.l2) t (fun i (acc : List Int) => ((t, (a, ((), (i : Int)))), (acc, ()))) (fun _ y acc => .inl (acc ++ ofLine a y)) (fun acc => ((), (acc, ()))) (fun i acc => acc.length ≤ i + acc0.length) acc0 (by omega) (by simp) (fun i y acc hx hI => by
    have hi := get_lt hx
    refine ⟨?_, fun _ h => by cases h; have := ofLine_len a y; simp only [List.length_append]; omega⟩
    unfold ref13_Named.l2 ofLine
    simp only [dec_t (show (i : Int) < (t.length : Int) by omega), cond_true]
    rw [nthK_get hx, nthK_get hx]
    cases (y.1 == a) with
    | true =>
      simp only [cond_true]
      rw [room_ok (by simp; omega), succ_i64 (by omega)]
    | false => simp only [cond_false, List.append_nil]; rw [succ_i64 (by omega)]) (fun acc _ => by
    unfold ref13_Named.l2
    simp only [dec_f (show ¬ (t.length : Int) < (t.length : Int) by omega), cond_false])
  rw [show (((0 : Nat) : Int)) = 0 from rfl] at this
  rw [this, walk_gather]

theorem wfTake {t : Tk} (h : WfE kTake t) : -9223372036854775808 ≤ t.2.2.2.1 ∧ t.2.2.2.1 < 9223372036854775808 := wf_i64 h.2.2.2.1
theorem wfLine {t : Ln} (h : WfE kLine t) : -9223372036854775808 ≤ t.2.1 ∧ t.2.1 < 9223372036854775808 := wf_i64 h.2.1

theorem named_fit (a : Int) (t : List Tk) (l : List Ln) (ht : ∀ x ∈ t, WfE kTake x) (hl : ∀ x ∈ l, WfE kLine x) : ∀ n ∈ namedOf a t l, -9223372036854775808 ≤ n ∧ n < 9223372036854775808 := by
  intro n hn
  unfold namedOf at hn
  rcases List.mem_append.mp hn with h | h
  · obtain ⟨x, hx, h2⟩ := List.mem_flatMap.mp h
    unfold ofTake at h2
    cases e : (x.2.1 == a) <;> rw [e] at h2
    · exact absurd h2 List.not_mem_nil
    · rw [List.mem_singleton.mp h2]; exact wfTake (ht x hx)
  · obtain ⟨x, hx, h2⟩ := List.mem_flatMap.mp h
    unfold ofLine at h2
    cases e : (x.1 == a) <;> rw [e] at h2
    · exact absurd h2 List.not_mem_nil
    · rw [List.mem_singleton.mp h2]; exact wfLine (hl x hx)

theorem named_len (a : Int) (t : List Tk) (l : List Ln) : (namedOf a t l).length ≤ t.length + l.length := by
  unfold namedOf
  have := flat_len (ofTake_len a) t
  have := flat_len (ofLine_len a) l
  simp only [List.length_append]; omega

theorem refNamed_val (a : Int) (t : List Tk) (l : List Ln) (h1 : t.length < 400000) (h2 : l.length < 400000) (ht : ∀ x ∈ t, WfE kTake x) (hl : ∀ x ∈ l, WfE kLine x) : ref13_Named t l a = some (sumOf (namedOf a t l)) := by
  unfold ref13_Named
  have := flat_len (ofTake_len a) t
  rw [ref_named_l1 a l t (by omega), Option.bind_some]
  simp only []
  rw [ref_named_l2 a _ l (by omega) (by omega), Option.bind_some]
  have hn := named_len a t l
  rw [show t.flatMap (ofTake a) ++ l.flatMap (ofLine a) = namedOf a t l from rfl, refsum_all _ (by omega) (named_fit a t l ht hl)]
  rfl
end Go.Proofs.Pure

/- Takes and what is owed are just what is ordered: the program's way and the document's. -/
namespace Go.Proofs.Pure
open Go.Proofs.D Go.Proofs.F

abbrev P4 := List Int × List Int × List Int × List Int
theorem walk4 {α X : Type} (g0 g1 g2 g3 : α → List Int) (fin : P4 → X) : ∀ (l : List α) (i : Nat) (a : P4),
    walkL (fun _ x (a : P4) => .inl (a.1 ++ g0 x, a.2.1 ++ g1 x, a.2.2.1 ++ g2 x, a.2.2.2 ++ g3 x)) fin i l a = fin (a.1 ++ l.flatMap g0, a.2.1 ++ l.flatMap g1, a.2.2.1 ++ l.flatMap g2, a.2.2.2 ++ l.flatMap g3)
  | [], _, _ => by simp [walkL]
  | x :: l, i, a => by simp only [walkL, walk4 g0 g1 g2 g3 fin l (i + 1), List.flatMap_cons, List.append_assoc]

abbrev U5 := Unit × Unit × Unit × Unit × Unit
def u5 : U5 := ((), ((), ((), ((), ()))))
def put4 (a : P4) : List Int × List Int × List Int × List Int × Unit := (a.1, (a.2.1, (a.2.2.1, (a.2.2.2, ()))))

theorem four {n : Int} (h : 0 ≤ n ∧ n < 4) : n = 0 ∨ n = 1 ∨ n = 2 ∨ n = 3 := by omega

theorem covered_l1 (p : Prg) (t : List Tk) (ht : t.length < 100000) (hs : ∀ x ∈ t, 0 ≤ x.2.1 ∧ x.2.1 < 4) :
    iterL prog_covered.l1 loopN (((), ((), (t, ((t.length : Int), 0)))), (p, (u5, put4 ([], [], [], [])))) = some (((), ()), (p, (u5, put4 (t.flatMap (ofTake 0), t.flatMap (ofTake 1), t.flatMap (ofTake 2), t.flatMap (ofTake 3))))) := by
  have := loop_walk (step := prog_covered.l1) t (fun i (a : P4) => (((), ((), (t, ((t.length : Int), (i : Int))))), (p, (u5, put4 a)))) (fun _ x a => .inl (a.1 ++ ofTake 0 x, a.2.1 ++ ofTake 1 x, a.2.2.1 ++ ofTake 2 x, a.2.2.2 ++ ofTake 3 x))
    (fun a => (((), ()), (p, (u5, put4 a)))) (fun i a => a.1.length ≤ i ∧ a.2.1.length ≤ i ∧ a.2.2.1.length ≤ i ∧ a.2.2.2.length ≤ i) ([], [], [], []) (by omega) (by simp) (fun i x a hx hI => by
    have hi := get_lt hx
    have h0 := hs x (get_mem hx)
    obtain ⟨i1, i2, i3, i4⟩ := hI
    refine ⟨?_, fun _ h => by
      cases h
      have q0 := ofTake_len 0 x; have q1 := ofTake_len 1 x; have q2 := ofTake_len 2 x; have q3 := ofTake_len 3 x
      simp only [List.length_append]; omega⟩
    unfold prog_covered.l1 put4
    simp only [dec_t (show (i : Int) < (t.length : Int) by omega), cond_true]
    rw [nthK_get hx, succ_i64 (by omega)]
    obtain ⟨id, sku, ware, qty, u⟩ := x
    simp only at h0 ⊢
    rcases four h0 with e | e | e | e <;> subst e
    · show room (a.1.length + [qty].length) _ = _
      rw [room_ok (by simp; omega)]
      unfold ofTake
      simp only [show ((0 : Int) == 0) = true by decide, show ((0 : Int) == 1) = false by decide, show ((0 : Int) == 2) = false by decide, show ((0 : Int) == 3) = false by decide, cond_true, cond_false, List.append_nil]
    · show room (a.2.1.length + [qty].length) _ = _
      rw [room_ok (by simp; omega)]
      unfold ofTake
      simp only [show ((1 : Int) == 0) = false by decide, show ((1 : Int) == 1) = true by decide, show ((1 : Int) == 2) = false by decide, show ((1 : Int) == 3) = false by decide, cond_true, cond_false, List.append_nil]
    · show room (a.2.2.1.length + [qty].length) _ = _
      rw [room_ok (by simp; omega)]
      unfold ofTake
      simp only [show ((2 : Int) == 0) = false by decide, show ((2 : Int) == 1) = false by decide, show ((2 : Int) == 2) = true by decide, show ((2 : Int) == 3) = false by decide, cond_true, cond_false, List.append_nil]
    · show room (a.2.2.2.length + [qty].length) _ = _
      rw [room_ok (by simp; omega)]
      unfold ofTake
      simp only [show ((3 : Int) == 0) = false by decide, show ((3 : Int) == 1) = false by decide, show ((3 : Int) == 2) = false by decide, show ((3 : Int) == 3) = true by decide, cond_true, cond_false, List.append_nil]) (fun a _ => by
    unfold prog_covered.l1
    simp only [dec_f (show ¬ (t.length : Int) < (t.length : Int) by omega), cond_false])
  rw [show (((0 : Nat) : Int)) = 0 from rfl] at this
  rw [this, walk4]
  simp only [List.nil_append]

theorem covered_l2 (p : Prg) (t : List Ln) (a0 : P4) (h0 : a0.1.length < 100000 ∧ a0.2.1.length < 100000 ∧ a0.2.2.1.length < 100000 ∧ a0.2.2.2.length < 100000) (ht : t.length < 100000) (hs : ∀ x ∈ t, 0 ≤ x.1 ∧ x.1 < 4) :
    iterL prog_covered.l2 loopN (((), ((), (t, ((t.length : Int), 0)))), (p, (u5, put4 a0))) = some (((), ()), (p, (u5, put4 (a0.1 ++ t.flatMap (ofLine 0), a0.2.1 ++ t.flatMap (ofLine 1), a0.2.2.1 ++ t.flatMap (ofLine 2), a0.2.2.2 ++ t.flatMap (ofLine 3))))) := by
  have := loop_walk (step := prog_covered.l2) t (fun i (a : P4) => (((), ((), (t, ((t.length : Int), (i : Int))))), (p, (u5, put4 a)))) (fun _ x a => .inl (a.1 ++ ofLine 0 x, a.2.1 ++ ofLine 1 x, a.2.2.1 ++ ofLine 2 x, a.2.2.2 ++ ofLine 3 x))
    (fun a => (((), ()), (p, (u5, put4 a)))) (fun i a => a.1.length ≤ i + 100000 ∧ a.2.1.length ≤ i + 100000 ∧ a.2.2.1.length ≤ i + 100000 ∧ a.2.2.2.length ≤ i + 100000) a0 (by omega) (by omega) (fun i x a hx hI => by
    have hi := get_lt hx
    have h0 := hs x (get_mem hx)
    obtain ⟨i1, i2, i3, i4⟩ := hI
    refine ⟨?_, fun _ h => by
      cases h
      have q0 := ofLine_len 0 x; have q1 := ofLine_len 1 x; have q2 := ofLine_len 2 x; have q3 := ofLine_len 3 x
      simp only [List.length_append]; omega⟩
    unfold prog_covered.l2 put4
    simp only [dec_t (show (i : Int) < (t.length : Int) by omega), cond_true]
    rw [nthK_get hx, succ_i64 (by omega)]
    obtain ⟨sku, qty, u⟩ := x
    simp only at h0 ⊢
    rcases four h0 with e | e | e | e <;> subst e
    · show room (a.1.length + [qty].length) _ = _
      rw [room_ok (by simp; omega)]
      unfold ofLine
      simp only [show ((0 : Int) == 0) = true by decide, show ((0 : Int) == 1) = false by decide, show ((0 : Int) == 2) = false by decide, show ((0 : Int) == 3) = false by decide, cond_true, cond_false, List.append_nil]
    · show room (a.2.1.length + [qty].length) _ = _
      rw [room_ok (by simp; omega)]
      unfold ofLine
      simp only [show ((1 : Int) == 0) = false by decide, show ((1 : Int) == 1) = true by decide, show ((1 : Int) == 2) = false by decide, show ((1 : Int) == 3) = false by decide, cond_true, cond_false, List.append_nil]
    · show room (a.2.2.1.length + [qty].length) _ = _
      rw [room_ok (by simp; omega)]
      unfold ofLine
      simp only [show ((2 : Int) == 0) = false by decide, show ((2 : Int) == 1) = false by decide, show ((2 : Int) == 2) = true by decide, show ((2 : Int) == 3) = false by decide, cond_true, cond_false, List.append_nil]
    · show room (a.2.2.2.length + [qty].length) _ = _
      rw [room_ok (by simp; omega)]
      unfold ofLine
      simp only [show ((3 : Int) == 0) = false by decide, show ((3 : Int) == 1) = false by decide, show ((3 : Int) == 2) = false by decide, show ((3 : Int) == 3) = true by decide, cond_true, cond_false, List.append_nil]) (fun a _ => by
    unfold prog_covered.l2
    simp only [dec_f (show ¬ (t.length : Int) < (t.length : Int) by omega), cond_false])
  rw [show (((0 : Nat) : Int)) = 0 from rfl] at this
  rw [this, walk4]

def wantOf (l : List Ln) : List Int := l.foldl (fun a x => a.set x.1.toNat x.2.1) (List.replicate 4 0)
theorem walk_fold {α A X : Type} (h : A → α → A) (fin : A → X) : ∀ (l : List α) (i : Nat) (a : A), walkL (fun _ x a => .inl (h a x)) fin i l a = fin (l.foldl h a)
  | [], _, _ => rfl
  | x :: l, i, a => by simp only [walkL, walk_fold h fin l (i + 1), List.foldl_cons]

theorem covered_l3 (t : List Ln) (a0 : P4) (ht : t.length < 100000) (hs : ∀ x ∈ t, 0 ≤ x.1 ∧ x.1 < 4) :
    iterL prog_covered.l3 loopN (((), ((), (t, ((t.length : Int), 0)))), (u5, (List.replicate 4 0, put4 a0))) = some (((), ()), (u5, (wantOf t, put4 a0))) := by
  have := loop_walk (step := prog_covered.l3) t (fun i (a : List Int) => (((), ((), (t, ((t.length : Int), (i : Int))))), (u5, (a, put4 a0)))) (fun _ x a => .inl (a.set x.1.toNat x.2.1))
    (fun a => (((), ()), (u5, (a, put4 a0)))) (fun i a => a.length = 4) (List.replicate 4 0) (by omega) (by simp) (fun i x a hx hI => by
    have hi := get_lt hx
    have h0 := hs x (get_mem hx)
    refine ⟨?_, fun _ h => by cases h; simpa using hI⟩
    unfold prog_covered.l3
    simp only [dec_t (show (i : Int) < (t.length : Int) by omega), cond_true]
    rw [nthK_get hx, succ_i64 (by omega), chk_true (by rw [dec_t h0.1, dec_t h0.2]; rfl)]
    obtain ⟨sku, qty, u⟩ := x
    obtain ⟨n, rfl⟩ := Int.eq_ofNat_of_zero_le h0.1
    simp only at h0
    show nthN a n _ = _
    rw [nthN_get (List.getElem?_eq_getElem (by omega : n < a.length))]
    rfl) (fun a _ => by
    unfold prog_covered.l3
    simp only [dec_f (show ¬ (t.length : Int) < (t.length : Int) by omega), cond_false])
  rw [show (((0 : Nat) : Int)) = 0 from rfl] at this
  rw [this, walk_fold]
  rfl

/-- Of one article: the parts come to what is wanted. -/
def coverK (a : List Int) (n : Int) : Bool := (sumOf a).2.1 && !((sumOf a).1 != n)
def coverP (a : P4) (w : List Int) : Bool := coverK a.1 (w.getD 0 0) && (coverK a.2.1 (w.getD 1 0) && (coverK a.2.2.1 (w.getD 2 0) && coverK a.2.2.2 (w.getD 3 0)))

theorem covered_step (a : P4) (w : List Int) (hw : w.length = 4) (k : Nat) (hk : k < 4) (q : List Int) (hq : q = [a.1, a.2.1, a.2.2.1, a.2.2.2].getD k []) (hl : q.length < 1000000) (hf : ∀ n ∈ q, -9223372036854775808 ≤ n ∧ n < 9223372036854775808) :
    prog_covered.l4 (((), (u5, (k : Int))), (w, put4 a)) = bif coverK q (w.getD k 0) then some (.inl (((), (u5, ((k + 1 : Nat) : Int))), (w, put4 a))) else some (.inr (.inr false)) := by
  have hs := sum_all q hl hf
  have hget : w[k]? = some (w.getD k 0) := by rw [List.getD_eq_getElem?_getD, List.getElem?_eq_getElem (by omega)]; rfl
  have fin : ∀ (x : (Unit × U5 × Int) × List Int × List Int × List Int × List Int × List Int × Unit), ((calc_Sum q).bind fun r50 => bif !r50.2.1 then some (Sum.inr (Sum.inr false)) else chk (decide (0 ≤ (k : Int)) && decide ((k : Int) < 4)) (nthK w (k : Int) fun e51 => bif (r50.1 : Int) != e51 then some (Sum.inr (Sum.inr false)) else some (Sum.inl x))) =
      (bif coverK q (w.getD k 0) then some (Sum.inl x) else some (Sum.inr (Sum.inr false)) : Option (_ ⊕ (Unit ⊕ Bool))) := by
    intro x
    rw [hs, Option.bind_some, chk_true (by rw [dec_t (by omega : 0 ≤ (k : Int)), dec_t (by omega : (k : Int) < 4)]; rfl), nthK_get hget]
    unfold coverK
    cases (sumOf q).2.1 <;> cases ((sumOf q).1 != w.getD k 0) <;> rfl
  have hw1 := succ_i64 (show k < 9223372036854775807 by omega)
  rw [← hw1, ← fin]
  subst hq
  match k, hk with
  | 0, _ => rfl
  | 1, _ => rfl
  | 2, _ => rfl
  | 3, _ => rfl

theorem covered_l4 (a : P4) (w : List Int) (hw : w.length = 4) (hl : ∀ q ∈ [a.1, a.2.1, a.2.2.1, a.2.2.2], q.length < 1000000 ∧ ∀ n ∈ q, -9223372036854775808 ≤ n ∧ n < 9223372036854775808) :
    iterL prog_covered.l4 loopN (((), (u5, 0)), (w, put4 a)) = some (bif coverP a w then .inl () else .inr false) := by
  have h0 := hl a.1 (by simp)
  have h1 := hl a.2.1 (by simp)
  have h2 := hl a.2.2.1 (by simp)
  have h3 := hl a.2.2.2 (by simp)
  have s0 := covered_step a w hw 0 (by omega) a.1 rfl h0.1 h0.2
  have s1 := covered_step a w hw 1 (by omega) a.2.1 rfl h1.1 h1.2
  have s2 := covered_step a w hw 2 (by omega) a.2.2.1 rfl h2.1 h2.2
  have s3 := covered_step a w hw 3 (by omega) a.2.2.2 rfl h3.1 h3.2
  have s4 : prog_covered.l4 (((), (u5, ((4 : Nat) : Int))), (w, put4 a)) = some (.inr (.inl ())) := rfl
  refine iterL_mono (n := 5) ?_ (by rw [loopN_eq]; omega)
  unfold coverP
  rw [show (0 : Int) = ((0 : Nat) : Int) from rfl]
  cases c0 : coverK a.1 (w.getD 0 0) with
  | false => rw [c0] at s0; exact iterL_done s0
  | true =>
    rw [c0] at s0
    rw [iterL_next s0]
    cases c1 : coverK a.2.1 (w.getD 1 0) with
    | false => rw [c1] at s1; exact iterL_done s1
    | true =>
      rw [c1] at s1
      rw [iterL_next s1]
      cases c2 : coverK a.2.2.1 (w.getD 2 0) with
      | false => rw [c2] at s2; exact iterL_done s2
      | true =>
        rw [c2] at s2
        rw [iterL_next s2]
        cases c3 : coverK a.2.2.2 (w.getD 3 0) with
        | false => rw [c3] at s3; exact iterL_done s3
        | true =>
          rw [c3] at s3
          rw [iterL_next s3]
          exact iterL_done s4

/-- The parts of each article, what is wanted of it. -/
def partsOf (t : List Tk) (l : List Ln) : P4 := (namedOf 0 t l, namedOf 1 t l, namedOf 2 t l, namedOf 3 t l)
def coveredB (t : List Tk) (owes lines : List Ln) : Bool := coverP (partsOf t owes) (wantOf lines)

theorem wantOf_len : ∀ (l : List Ln) (a : List Int), a.length = 4 → (l.foldl (fun a x => a.set x.1.toNat x.2.1) a).length = 4
  | [], a, h => h
  | x :: l, a, h => by rw [List.foldl_cons]; exact wantOf_len l _ (by simpa using h)

theorem progCovered_val (p : Prg) (h1 : p.2.2.2.1.length < 100000) (h2 : p.2.2.2.2.1.length < 100000) (h3 : p.2.2.2.2.2.1.length < 100000) (w2 : ∀ x ∈ p.2.2.2.2.1, WfE kTake x) (w3 : ∀ x ∈ p.2.2.2.2.2.1, WfE kLine x)
    (g1 : ∀ x ∈ p.2.2.2.1, 0 ≤ x.1 ∧ x.1 < 4) (g2 : ∀ x ∈ p.2.2.2.2.1, 0 ≤ x.2.1 ∧ x.2.1 < 4) (g3 : ∀ x ∈ p.2.2.2.2.2.1, 0 ≤ x.1 ∧ x.1 < 4) : prog_covered p = some (coveredB p.2.2.2.2.1 p.2.2.2.2.2.1 p.2.2.2.1) := by
  have e0 := flat_len (ofTake_len 0) p.2.2.2.2.1
  have e1 := flat_len (ofTake_len 1) p.2.2.2.2.1
  have e2 := flat_len (ofTake_len 2) p.2.2.2.2.1
  have e3 := flat_len (ofTake_len 3) p.2.2.2.2.1
  have l1 := covered_l1 p p.2.2.2.2.1 h2 g2
  have l2 := covered_l2 p p.2.2.2.2.2.1 (p.2.2.2.2.1.flatMap (ofTake 0), p.2.2.2.2.1.flatMap (ofTake 1), p.2.2.2.2.1.flatMap (ofTake 2), p.2.2.2.2.1.flatMap (ofTake 3)) (by simp only []; omega) h3 g3
  have l3 := covered_l3 p.2.2.2.1 (partsOf p.2.2.2.2.1 p.2.2.2.2.2.1) h1 g1
  have fit : ∀ k : Int, (namedOf k p.2.2.2.2.1 p.2.2.2.2.2.1).length < 1000000 ∧ ∀ n ∈ namedOf k p.2.2.2.2.1 p.2.2.2.2.2.1, -9223372036854775808 ≤ n ∧ n < 9223372036854775808 := fun k => ⟨by have := named_len k p.2.2.2.2.1 p.2.2.2.2.2.1; omega, named_fit k _ _ w2 w3⟩
  have l4 := covered_l4 (partsOf p.2.2.2.2.1 p.2.2.2.2.2.1) (wantOf p.2.2.2.1) (wantOf_len _ _ (by simp)) (fun q hq => by
    unfold partsOf at hq
    simp only [List.mem_cons, List.not_mem_nil, or_false] at hq
    rcases hq with e | e | e | e <;> subst e <;> exact fit _)
  unfold prog_covered
  unfold put4 u5 at l1 l2 l3 l4
  rw [l1, Option.bind_some]
  simp only []
  rw [l2, Option.bind_some]
  simp only []
  unfold partsOf namedOf at l3 l4
  rw [l3, Option.bind_some]
  simp only []
  rw [l4, Option.bind_some]
  unfold coveredB partsOf namedOf
  cases coverP _ (wantOf p.2.2.2.1) <;> rfl

/-! ### The document's way -/
theorem allFrom_at {p : Nat → Bool} {k : Nat} (h : allFrom p 0 k = true) {j : Nat} (hj : j < k) : p j = true := (allFrom_iff.1 h) j (by omega) (by omega)

theorem linesB_lt {s : Int} {l : List Ln} (h : linesB s l = true) : ∀ x ∈ l, x.1 < s ∧ 1 ≤ x.2.1 := by
  unfold linesB at h
  simp only [Bool.and_eq_true, decide_eq_true_eq] at h
  intro x hx
  obtain ⟨i, hi, e⟩ := List.getElem_of_mem hx
  have := allFrom_at h.1 hi
  unfold lineR at this
  have ea : at0 l i = x := by unfold at0; rw [List.getD_eq_getElem?_getD, List.getElem?_eq_getElem hi, e]; rfl
  rw [ea] at this
  simp only [Bool.and_eq_true, Bool.not_eq_true', decide_eq_false_iff_not] at this
  omega

theorem linesB_shape {s : Int} {l : List Ln} (h : linesB s l = true) : l = [] ∨ (∃ a, l = [a]) ∨ (∃ a b, l = [a, b] ∧ a.1 < b.1) ∨ (∃ a b c, l = [a, b, c] ∧ a.1 < b.1 ∧ b.1 < c.1) := by
  have h0 := h
  unfold linesB at h
  simp only [Bool.and_eq_true, decide_eq_true_eq] at h
  obtain ⟨ha, hl⟩ := h
  match l, ha, hl with
  | [], _, _ => exact .inl rfl
  | [a], _, _ => exact .inr (.inl ⟨a, rfl⟩)
  | [a, b], ha, _ =>
    have h1 := allFrom_at ha (show 1 < 2 by omega)
    simp only [lineR, Bool.and_eq_true, Bool.or_eq_true, Bool.not_eq_true', decide_eq_false_iff_not] at h1
    have h2 : ¬ a.1 ≥ b.1 := by rcases h1.2.2 with q | q; cases q; exact q
    exact .inr (.inr (.inl ⟨a, b, rfl, by omega⟩))
  | [a, b, c], ha, _ =>
    have h1 := allFrom_at ha (show 1 < 3 by omega)
    have h3 := allFrom_at ha (show 2 < 3 by omega)
    simp only [lineR, Bool.and_eq_true, Bool.or_eq_true, Bool.not_eq_true', decide_eq_false_iff_not] at h1 h3
    have h2 : ¬ a.1 ≥ b.1 := by rcases h1.2.2 with q | q; cases q; exact q
    have h4 : ¬ b.1 ≥ c.1 := by rcases h3.2.2 with q | q; cases q; exact q
    exact .inr (.inr (.inr ⟨a, b, c, rfl, by omega, by omega⟩))
  | a :: b :: c :: d :: l, _, hl => simp only [List.length_cons] at hl; omega

theorem sumOf_one {q : Int} (h : -9223372036854775808 ≤ q ∧ q < 9223372036854775808) : sumOf [q] = (q, (true, ())) := by
  unfold sumOf fitsI total total
  rw [Int.add_zero, dec_t h.1, dec_t h.2]; rfl

theorem set_at (l : List Int) (n k : Nat) (q : Int) (hl : l.length = 4) (hn : n < 4) : (l.set n q).getD k 0 = if n = k then q else l.getD k 0 := by
  rw [List.getD_eq_getElem?_getD, List.getElem?_set]
  by_cases h : n = k
  · subst h; simp [hl, hn]
  · simp [h]

theorem want_line {s : Int} {l : List Ln} (h : linesB s l = true) (hs : s ≤ 4) (hw : ∀ x ∈ l, WfE kLine x) (k : Nat) (hk : k < 4) : sumOf (l.flatMap (ofLine k)) = ((wantOf l).getD k 0, (true, ())) := by
  have hlt := linesB_lt h
  have hz : (List.replicate 4 (0 : Int)).getD k 0 = 0 := by
    match k, hk with
    | 0, _ => rfl
    | 1, _ => rfl
    | 2, _ => rfl
    | 3, _ => rfl
  have hb : ∀ x ∈ l, (0 ≤ x.1 ∧ x.1 < 4) ∧ -9223372036854775808 ≤ x.2.1 ∧ x.2.1 < 9223372036854775808 := fun x hx => by
    have q1 := hlt x hx
    have q2 := wf_u8 (hw x hx).1
    exact ⟨⟨q2.1, by omega⟩, wf_i64 (hw x hx).2.1⟩
  have eqk : ∀ x : Ln, 0 ≤ x.1 → ((x.1 == (k : Int)) = decide (x.1.toNat = k)) := fun x h0 => by
    by_cases q : x.1 = (k : Int)
    · rw [dec_t (by omega), beq_iff_eq]; exact q
    · rw [dec_f (by omega), beq_eq_false_iff_ne]; exact q
  rcases linesB_shape h with e | ⟨a, e⟩ | ⟨a, b, e, h1⟩ | ⟨a, b, c, e, h1, h2⟩ <;> subst e
  · show sumOf [] = ((List.replicate 4 (0 : Int)).getD k 0, (true, ()))
    rw [hz]; rfl
  · have ha := hb a (by simp)
    simp only [wantOf, List.foldl_cons, List.foldl_nil, List.flatMap_cons, List.flatMap_nil, List.append_nil]
    rw [set_at _ _ _ _ (by simp) (by omega), hz]
    unfold ofLine
    rw [eqk a ha.1.1]
    by_cases q : a.1.toNat = k
    · rw [dec_t q, if_pos q]; exact sumOf_one ha.2
    · rw [dec_f q, if_neg q]; rfl
  · have ha := hb a (by simp)
    have hb' := hb b (by simp)
    simp only [wantOf, List.foldl_cons, List.foldl_nil, List.flatMap_cons, List.flatMap_nil, List.append_nil]
    rw [set_at _ _ _ _ (by simp) (by omega), set_at _ _ _ _ (by simp) (by omega), hz]
    unfold ofLine
    rw [eqk a ha.1.1, eqk b hb'.1.1]
    by_cases q : a.1.toNat = k
    · rw [dec_t q, if_pos q, dec_f (by omega : ¬ b.1.toNat = k), if_neg (by omega)]; exact sumOf_one ha.2
    · rw [dec_f q, if_neg q]
      by_cases r : b.1.toNat = k
      · rw [dec_t r, if_pos r]; exact sumOf_one hb'.2
      · rw [dec_f r, if_neg r]; rfl
  · have ha := hb a (by simp)
    have hb' := hb b (by simp)
    have hc := hb c (by simp)
    simp only [wantOf, List.foldl_cons, List.foldl_nil, List.flatMap_cons, List.flatMap_nil, List.append_nil]
    rw [set_at _ _ _ _ (by simp) (by omega), set_at _ _ _ _ (by simp) (by omega), set_at _ _ _ _ (by simp) (by omega), hz]
    unfold ofLine
    rw [eqk a ha.1.1, eqk b hb'.1.1, eqk c hc.1.1]
    by_cases q : a.1.toNat = k
    · rw [dec_t q, if_pos q, dec_f (by omega : ¬ b.1.toNat = k), if_neg (by omega), dec_f (by omega : ¬ c.1.toNat = k), if_neg (by omega)]; exact sumOf_one ha.2
    · rw [dec_f q, if_neg q]
      by_cases r : b.1.toNat = k
      · rw [dec_t r, if_pos r, dec_f (by omega : ¬ c.1.toNat = k), if_neg (by omega)]; exact sumOf_one hb'.2
      · rw [dec_f r, if_neg r]
        by_cases t : c.1.toNat = k
        · rw [dec_t t, if_pos t]; exact sumOf_one hc.2
        · rw [dec_f t, if_neg t]; rfl

theorem refCovered_val (p : Prg) {s : Int} (hs : s ≤ 4) (hL : linesB s p.2.2.2.1 = true) (h1 : p.2.2.2.1.length < 100000) (h2 : p.2.2.2.2.1.length < 100000) (h3 : p.2.2.2.2.2.1.length < 100000)
    (w1 : ∀ x ∈ p.2.2.2.1, WfE kLine x) (w2 : ∀ x ∈ p.2.2.2.2.1, WfE kTake x) (w3 : ∀ x ∈ p.2.2.2.2.2.1, WfE kLine x) : ref13_covered p = some (coveredB p.2.2.2.2.1 p.2.2.2.2.2.1 p.2.2.2.1) := by
  have step : ∀ k : Nat, k < 4 → ref13_covered.l1 (((), (k : Int)), (p, ())) = bif coverK (namedOf k p.2.2.2.2.1 p.2.2.2.2.2.1) ((wantOf p.2.2.2.1).getD k 0) then some (.inl (((), ((k + 1 : Nat) : Int)), (p, ()))) else some (.inr (.inr false)) := by
    intro k hk
    unfold ref13_covered.l1
    have e : IntKind.u8.wrap (k : Int) = (k : Int) := wrap_u8 (by omega) (by omega)
    simp only [dec_t (by omega : (k : Int) < 4), cond_true, e]
    rw [refNamed_val _ _ _ (by omega) (by omega) w2 w3, Option.bind_some, refNamed_val _ _ _ (by simp) (by omega) (by simp) w1, Option.bind_some]
    have en : namedOf (k : Int) [] p.2.2.2.1 = p.2.2.2.1.flatMap (ofLine k) := rfl
    rw [en, want_line hL hs w1 k hk, succ_i64 (by omega)]
    unfold coverK
    cases (sumOf (namedOf (k : Int) p.2.2.2.2.1 p.2.2.2.2.2.1)).2.1 <;> cases ((sumOf (namedOf (k : Int) p.2.2.2.2.1 p.2.2.2.2.2.1)).1 != (wantOf p.2.2.2.1).getD k 0) <;> rfl
  have run := loop_all (step := ref13_covered.l1) (fun k => (((), (k : Int)), (p, ()))) (fun k => coverK (namedOf k p.2.2.2.2.1 p.2.2.2.2.2.1) ((wantOf p.2.2.2.1).getD k 0)) (.inl ()) (.inr false) 4 (by omega) (fun k hk => step k hk) rfl
  rw [show (((0 : Nat) : Int)) = 0 from rfl] at run
  have ec : allFrom (fun k => coverK (namedOf k p.2.2.2.2.1 p.2.2.2.2.2.1) ((wantOf p.2.2.2.1).getD k 0)) 0 4 = coveredB p.2.2.2.2.1 p.2.2.2.2.2.1 p.2.2.2.1 := by
    unfold coveredB coverP partsOf
    simp only [allFrom, Bool.and_true]
    rfl
  rw [ec] at run
  unfold ref13_covered
  rw [run, Option.bind_some]
  cases coveredB p.2.2.2.2.1 p.2.2.2.2.2.1 p.2.2.2.1 <;> rfl
end Go.Proofs.Pure

/- Which takes of a restock may be: the program's way and the document's. -/
namespace Go.Proofs.Pure
open Go.Proofs.D Go.Proofs.F

abbrev Seen := List (Int × Int)
abbrev gM (m : Seen) (o : Int) : Int := getM (.int .u32) (.int .i64) m o
abbrev pM (m : Seen) (o v : Int) : Seen := putM (.int .u32) (.int .i64) m o v

theorem gM_same (o v : Int) : ∀ m : Seen, gM (pM m o v) o = v
  | [] => by
    show (bif eqE (.int .u32) o o then v else _) = v
    rw [show eqE (.int .u32) o o = true by simp [eqE]]; rfl
  | e :: m => by
    show gM (bif eqE (.int .u32) o e.1 then (o, v) :: m else e :: pM m o v) o = v
    cases h : eqE (.int .u32) o e.1 with
    | true =>
      show (bif eqE (.int .u32) o o then v else _) = v
      rw [show eqE (.int .u32) o o = true by simp [eqE]]; rfl
    | false =>
      show (bif eqE (.int .u32) o e.1 then e.2 else gM (pM m o v) o) = v
      rw [h]; exact gM_same o v m
theorem gM_other {o q : Int} (v : Int) (hne : o ≠ q) : ∀ m : Seen, gM (pM m o v) q = gM m q
  | [] => by
    show (bif eqE (.int .u32) q o then v else _) = _
    rw [show eqE (.int .u32) q o = false by simp [eqE]; exact fun h => hne h.symm]; rfl
  | e :: m => by
    show gM (bif eqE (.int .u32) o e.1 then (o, v) :: m else e :: pM m o v) q = (bif eqE (.int .u32) q e.1 then e.2 else gM m q)
    cases h : eqE (.int .u32) o e.1 with
    | true =>
      have he : o = e.1 := by simpa [eqE] using h
      show (bif eqE (.int .u32) q o then v else gM m q) = _
      rw [← he, show eqE (.int .u32) q o = false by simp [eqE]; exact fun h => hne h.symm]; rfl
    | false =>
      show (bif eqE (.int .u32) q e.1 then e.2 else gM (pM m o v) q) = _
      rw [gM_other v hne m]

def seenAt (l : List Tk) : Nat → Seen
  | 0 => [] | i + 1 => pM (seenAt l i) (at1 l i).1 (IntKind.i64.wrap (gM (seenAt l i) (at1 l i).1 + 1))
def cnt (l : List Tk) (o : Int) : Nat → Nat
  | 0 => 0 | i + 1 => cnt l o i + bif (at1 l i).1 == o then 1 else 0
theorem cnt_le (l : List Tk) (o : Int) : ∀ i, cnt l o i ≤ i
  | 0 => Nat.le_refl _ | i + 1 => by have := cnt_le l o i; simp only [cnt]; cases ((at1 l i).1 == o) <;> simp <;> omega

theorem seen_cnt (l : List Tk) : ∀ (i : Nat), i < 1000 → ∀ o, gM (seenAt l i) o = (cnt l o i : Int)
  | 0, _, o => rfl
  | i + 1, h, o => by
    have ih := seen_cnt l i (by omega)
    simp only [seenAt, cnt]
    by_cases q : (at1 l i).1 = o
    · rw [q, gM_same, ih o, show (o == o) = true by simp, wrap_i64 (by have := cnt_le l o i; omega) (by have := cnt_le l o i; omega)]
      simp
    · rw [gM_other _ q, ih o, show ((at1 l i).1 == o) = false by rw [beq_eq_false_iff_ne]; exact q]
      simp

/-- None ahead is of the same order. -/
def alone (l : List Tk) (i : Nat) : Bool := allFrom (fun k => !((at1 l k).1 == (at1 l i).1)) 0 i
theorem cnt_zero (l : List Tk) (o : Int) : ∀ i, cnt l o i = 0 ↔ ∀ k, k < i → ((at1 l k).1 == o) = false
  | 0 => by simp [cnt]
  | i + 1 => by
    simp only [cnt]
    constructor
    · intro h k hk
      have h1 : cnt l o i = 0 := by omega
      by_cases e : k = i
      · subst e
        cases q : ((at1 l k).1 == o) with
        | false => rfl
        | true => rw [q] at h; simp at h
      · exact (cnt_zero l o i).1 h1 k (by omega)
    · intro h
      rw [(cnt_zero l o i).2 fun k hk => h k (by omega), h i (by omega)]
      rfl
theorem alone_cnt (l : List Tk) (i : Nat) : alone l i = decide (cnt l (at1 l i).1 i = 0) := boolEq (by
  unfold alone
  rw [allFrom_iff, decide_eq_true_eq, cnt_zero]
  constructor
  · intro h k hk; have := h k (by omega) (by omega); simpa using this
  · intro h k _ hk; have := h k (by omega); simpa using this)

def fillR (p : Prg) (l : List Tk) (i : Nat) : Bool := alone l i && (!((at1 l i).1 == 0) && (!((at1 l i).2.1 != p.2.2.2.2.2.2.1) && (!((at1 l i).2.2.1 != p.2.2.2.2.2.2.2.2.1) && !decide ((at1 l i).2.2.2.1 < 1))))
def qtyOf (t : Tk) : Int := t.2.2.2.1
def fillsB (p : Prg) : Bool := allFrom (fillR p p.2.2.2.2.1) 0 p.2.2.2.2.1.length && (decide ((p.2.2.2.2.1.length : Int) ≤ 12) && ((sumOf (p.2.2.2.2.1.map qtyOf)).2.1 && decide ((sumOf (p.2.2.2.2.1.map qtyOf)).1 ≤ p.2.2.2.2.2.2.2.2.2.1)))

theorem flat_single : ∀ t : List Tk, t.flatMap (fun y => [qtyOf y]) = t.map qtyOf
  | [] => rfl
  | a :: t => by rw [List.flatMap_cons, flat_single t]; rfl
theorem flat_same {k : Int} : ∀ {t : List Tk}, (∀ x ∈ t, x.2.1 = k) → t.flatMap (ofTake k) = t.map qtyOf
  | [], _ => rfl
  | a :: t, h => by
    rw [List.flatMap_cons, flat_same fun x hx => h x (List.mem_cons_of_mem _ hx)]
    have h1 : ofTake k a = [qtyOf a] := by
      unfold ofTake
      rw [h a List.mem_cons_self, show (k == k) = true by simp]; rfl
    rw [h1]; rfl

theorem together_val (t : List Tk) (ht : t.length < 1000) (hw : ∀ x ∈ t, WfE kTake x) : prog_together t = some (sumOf (t.map qtyOf)) := by
  unfold prog_together
  have := loop_walk (step := prog_together.l1) t (fun i (acc : List Int) => (((), (t, ((t.length : Int), (i : Int)))), (acc, ()))) (fun _ y acc => .inl (acc ++ [qtyOf y])) (fun acc => ((), (acc, ()))) (fun i acc => acc.length ≤ i) [] (by omega) (by simp) (fun i y acc hx hI => by
    have hi := get_lt hx
    refine ⟨?_, fun _ h => by cases h; simp only [List.length_append, List.length_singleton]; omega⟩
    unfold prog_together.l1
    simp only [dec_t (show (i : Int) < (t.length : Int) by omega), cond_true]
    rw [nthK_get hx, room_ok (by simp; omega), succ_i64 (by omega)]
    rfl) (fun acc _ => by
    unfold prog_together.l1
    simp only [dec_f (show ¬ (t.length : Int) < (t.length : Int) by omega), cond_false])
  rw [show (((0 : Nat) : Int)) = 0 from rfl] at this
  rw [this, walk_gather, List.nil_append, Option.bind_some]
  simp only [flat_single]
  rw [sum_all _ (by simp; omega) (fun n hn => by
    obtain ⟨x, hx, e⟩ := List.mem_map.1 hn
    subst e; exact wfTake (hw x hx))]
  rfl

theorem progFills_val (p : Prg) (hl : p.2.2.2.2.1.length < 1000) (hw : ∀ x ∈ p.2.2.2.2.1, WfE kTake x) : prog_fills p = some (fillsB p) := by
  unfold prog_fills fillsB
  generalize hL : p.2.2.2.2.1 = l at *
  have := loop_all (step := prog_fills.l1) (fun i => (((), ((), (l, ((l.length : Int), (i : Int))))), (p, (seenAt l i, ())))) (fillR p l) (.inl ((), (p, ()))) (.inr false) l.length (by omega) (fun i hi => by
    unfold prog_fills.l1 fillR
    simp only [dec_t (show (i : Int) < (l.length : Int) by omega), cond_true]
    rw [nthK_get (at1_get hi), succ_i64 (by omega)]
    have hc := seen_cnt l i (by omega) (at1 l i).1
    have hle := cnt_le l (at1 l i).1 i
    have e1 : getM (.int .u32) (.int .i64) (seenAt l (i + 1)) (at1 l i).1 = (cnt l (at1 l i).1 i : Int) + 1 := by
      show gM (pM (seenAt l i) (at1 l i).1 (IntKind.i64.wrap (gM (seenAt l i) (at1 l i).1 + 1))) (at1 l i).1 = _
      rw [gM_same, hc, wrap_i64 (by omega) (by omega)]
    show (bif decide (getM (.int .u32) (.int .i64) (seenAt l (i + 1)) (at1 l i).1 > 1) then _ else _) = _
    rw [e1, alone_cnt]
    by_cases q : cnt l (at1 l i).1 i = 0
    · rw [dec_t q, dec_f (by omega : ¬ (cnt l (at1 l i).1 i : Int) + 1 > 1)]
      cases ((at1 l i).1 == 0) <;> cases ((at1 l i).2.1 != p.2.2.2.2.2.2.1) <;> cases ((at1 l i).2.2.1 != p.2.2.2.2.2.2.2.2.1) <;> cases decide ((at1 l i).2.2.2.1 < 1) <;> rfl
    · rw [dec_f q, dec_t (by omega : (cnt l (at1 l i).1 i : Int) + 1 > 1)]; rfl) (by
    unfold prog_fills.l1
    simp only [dec_f (show ¬ (l.length : Int) < (l.length : Int) by omega), cond_false])
  rw [show (((0 : Nat) : Int)) = 0 from rfl] at this
  have this' : iterL prog_fills.l1 loopN (((), ((), (l, ((l.length : Int), 0)))), (p, ([], ()))) = _ := this
  rw [this', Option.bind_some]
  cases allFrom (fillR p l) 0 l.length with
  | false => rfl
  | true =>
    simp only [cond_true, hL, Bool.true_and]
    rw [together_val l hl hw, Option.bind_some]
    cases decide ((l.length : Int) ≤ 12) <;> cases (sumOf (l.map qtyOf)).2.1 <;> rfl

theorem refFills_val (p : Prg) (hl : p.2.2.2.2.1.length < 1000) (hw : ∀ x ∈ p.2.2.2.2.1, WfE kTake x) : ref13_fills p = some (fillsB p) := by
  unfold ref13_fills fillsB
  generalize hL : p.2.2.2.2.1 = l at *
  have := loop_all (step := ref13_fills.l1) (fun i => (((), (l, (i : Int))), (p, ()))) (fillR p l) (.inl (((), l), (p, ()))) (.inr false) l.length (by omega) (fun i hi => by
    have hg := at1_get hi
    unfold ref13_fills.l1 fillR
    simp only [dec_t (show (i : Int) < (l.length : Int) by omega), cond_true]
    rw [nthK_get hg, nthK_get hg, nthK_get hg, nthK_get hg]
    have inner := loop_all (step := ref13_fills.l2) (fun k => (((), (l, ((i : Int), (k : Int)))), (p, ()))) (fun k => !((at1 l k).1 == (at1 l i).1)) (.inl (((), (l, (i : Int))), (p, ()))) (.inr false) i (by omega) (fun k hk => by
      unfold ref13_fills.l2
      simp only [dec_t (show (k : Int) < (i : Int) by omega), cond_true]
      rw [nthK_get (at1_get (by omega : k < l.length)), nthK_get hg, succ_i64 (by omega)]
      cases ((at1 l k).1 == (at1 l i).1) <;> rfl) (by
      unfold ref13_fills.l2
      simp only [dec_f (show ¬ (i : Int) < (i : Int) by omega), cond_false])
    rw [show (((0 : Nat) : Int)) = 0 from rfl] at inner
    rw [inner, Option.bind_some]
    have w3 := succ_i64 (show i < 9223372036854775807 by omega)
    unfold alone
    cases ((at1 l i).1 == 0) with
    | true => simp
    | false =>
      cases ((at1 l i).2.1 != p.2.2.2.2.2.2.1) with
      | true => simp
      | false =>
        cases ((at1 l i).2.2.1 != p.2.2.2.2.2.2.2.2.1) with
        | true => simp
        | false =>
          cases decide ((at1 l i).2.2.2.1 < 1) with
          | true => simp
          | false =>
            cases allFrom (fun k => !((at1 l k).1 == (at1 l i).1)) 0 i with
            | false => rfl
            | true => simp only [cond_true, cond_false, w3, Bool.not_false, Bool.and_true]) (by
    unfold ref13_fills.l1
    simp only [dec_f (show ¬ (l.length : Int) < (l.length : Int) by omega), cond_false])
  rw [show (((0 : Nat) : Int)) = 0 from rfl] at this
  rw [this, Option.bind_some]
  cases ha : allFrom (fillR p l) 0 l.length with
  | false => rfl
  | true =>
    simp only [cond_true, Bool.true_and]
    have hsku : ∀ x ∈ l, x.2.1 = p.2.2.2.2.2.2.1 := by
      intro x hx
      obtain ⟨i, hi, e⟩ := List.getElem_of_mem hx
      have h1 := (allFrom_iff.1 ha) i (by omega) (by omega)
      have ea : at1 l i = x := by unfold at1; rw [List.getD_eq_getElem?_getD, List.getElem?_eq_getElem hi, e]; rfl
      unfold fillR at h1
      rw [ea] at h1
      simp only [Bool.and_eq_true, Bool.not_eq_true', bne_eq_false_iff_eq] at h1
      exact h1.2.2.1
    have en : namedOf p.2.2.2.2.2.2.1 l [] = l.map qtyOf := by
      unfold namedOf
      rw [List.flatMap_nil, List.append_nil]
      exact flat_same hsku
    rw [refNamed_val _ l [] (by omega) (by simp) hw (by simp), Option.bind_some, en]
    cases decide ((l.length : Int) ≤ 12) <;> cases (sumOf (l.map qtyOf)).2.1 <;> rfl
end Go.Proofs.Pure

/- Which programs may be. -/
namespace Go.Proofs.Pure
open Go.Proofs.D Go.Proofs.F

def stillB (p : Prg) : Bool := (p.2.2.2.2.2.2.1 == 0) && ((p.2.2.2.2.2.2.2.1 == 0) && ((p.2.2.2.2.2.2.2.2.1 == 0) && (p.2.2.2.2.2.2.2.2.2.1 == 0)))
def bareB (p : Prg) : Bool := (p.2.2.1 == 0) && ((p.2.2.2.1.length : Int) == 0)
theorem still_val (p : Prg) : prog_still p = some (stillB p) := by
  unfold prog_still stillB
  cases (p.2.2.2.2.2.2.1 == 0) <;> cases (p.2.2.2.2.2.2.2.1 == 0) <;> cases (p.2.2.2.2.2.2.2.2.1 == 0) <;> rfl
theorem bare_val (p : Prg) : prog_bare p = some (bareB p) := by
  unfold prog_bare bareB
  cases (p.2.2.1 == 0) <;> rfl

def orderedB (p : Prg) : Bool := (p.2.1 != 0) && stillB p
def movedB (s w : Int) (p : Prg) : Bool := (p.2.1 == 0) && (bareB p && (((p.2.2.2.2.2.1.length : Int) == 0) && (decide (p.2.2.2.2.2.2.1 < s) && (decide (p.2.2.2.2.2.2.2.2.1 < w) && decide (p.2.2.2.2.2.2.2.2.2.1 ≥ 1)))))

def goodKind (s w : Int) (p : Prg) : Bool :=
  bif p.1 == 1 then orderedB p && (decide (p.2.2.1 ≤ 1) && (decide ((p.2.2.2.1.length : Int) > 0) && (linesB s p.2.2.2.1 && (takesB s w p.2.1 p.2.2.2.2.1 && (linesB s p.2.2.2.2.2.1 && (coveredB p.2.2.2.2.1 p.2.2.2.2.2.1 p.2.2.2.1 && ((p.2.2.1 == 0) || ((p.2.2.2.2.2.1.length : Int) == 0))))))))
  else bif p.1 == 2 then orderedB p && (bareB p && (takesB s w p.2.1 p.2.2.2.2.1 && (linesB s p.2.2.2.2.2.1 && decide ((p.2.2.2.2.1.length : Int) + (p.2.2.2.2.2.1.length : Int) > 0))))
  else bif (p.1 == 3) || (p.1 == 4) then orderedB p && (bareB p && (takesB s w p.2.1 p.2.2.2.2.1 && (decide ((p.2.2.2.2.1.length : Int) > 0) && ((p.2.2.2.2.2.1.length : Int) == 0))))
  else bif p.1 == 5 then movedB s w p && ((p.2.2.2.2.2.2.2.1 == 0) && fillsB p)
  else bif p.1 == 6 then movedB s w p && (((p.2.2.2.2.1.length : Int) == 0) && (decide (p.2.2.2.2.2.2.2.1 < w) && (p.2.2.2.2.2.2.2.1 != p.2.2.2.2.2.2.2.2.1)))
  else false
def fineB (s w : Int) : Bool := !decide (s < 1) && (!decide (s > 4) && (!decide (w < 1) && !decide (w > 4)))
def goodP (s w : Int) (p : Prg) : Bool := fineB s w && goodKind s w p

structure Few (p : Prg) : Prop where
  wf : WfE kProgram p
  lines : p.2.2.2.1.length ≤ 100
  takes : p.2.2.2.2.1.length ≤ 100
  owes : p.2.2.2.2.2.1.length ≤ 100

theorem takesB_lt {s w id : Int} {l : List Tk} (h : takesB s w id l = true) : ∀ x ∈ l, x.1 = id ∧ x.2.1 < s ∧ x.2.2.1 < w ∧ 1 ≤ x.2.2.2.1 := by
  unfold takesB at h
  simp only [Bool.and_eq_true, decide_eq_true_eq] at h
  intro x hx
  obtain ⟨i, hi, e⟩ := List.getElem_of_mem hx
  have := allFrom_at h.1 hi
  have ea : at1 l i = x := by unfold at1; rw [List.getD_eq_getElem?_getD, List.getElem?_eq_getElem hi, e]; rfl
  unfold takeR takeQ tkBase at this
  rw [ea] at this
  simp only [Bool.and_eq_true, Bool.not_eq_true', decide_eq_false_iff_not, bne_eq_false_iff_eq] at this
  obtain ⟨⟨⟨h1, h2, h3, h4⟩, _⟩, _⟩ := this
  exact ⟨h1, by omega, by omega, by omega⟩

theorem Few.w1 {p : Prg} (h : Few p) : ∀ x ∈ p.2.2.2.1, WfE kLine x := h.wf.2.2.2.1.2
theorem Few.w2 {p : Prg} (h : Few p) : ∀ x ∈ p.2.2.2.2.1, WfE kTake x := h.wf.2.2.2.2.1.2
theorem Few.w3 {p : Prg} (h : Few p) : ∀ x ∈ p.2.2.2.2.2.1, WfE kLine x := h.wf.2.2.2.2.2.1.2
theorem Few.k {p : Prg} (h : Few p) : (0 ≤ p.2.2.2.2.2.2.1 ∧ p.2.2.2.2.2.2.1 < 256) ∧ (0 ≤ p.2.2.2.2.2.2.2.1 ∧ p.2.2.2.2.2.2.2.1 < 256) ∧ (0 ≤ p.2.2.2.2.2.2.2.2.1 ∧ p.2.2.2.2.2.2.2.2.1 < 256) :=
  ⟨wf_u8 h.wf.2.2.2.2.2.2.1, wf_u8 h.wf.2.2.2.2.2.2.2.1, wf_u8 h.wf.2.2.2.2.2.2.2.2.1⟩

theorem covered_of {s w : Int} {p : Prg} (h : Few p) (hs : s ≤ 4) (h1 : linesB s p.2.2.2.1 = true) (h2 : takesB s w p.2.1 p.2.2.2.2.1 = true) (h3 : linesB s p.2.2.2.2.2.1 = true) :
    prog_covered p = some (coveredB p.2.2.2.2.1 p.2.2.2.2.2.1 p.2.2.2.1) := by
  have l1 := h.lines; have l2 := h.takes; have l3 := h.owes
  exact progCovered_val p (by omega) (by omega) (by omega) h.w2 h.w3
    (fun x hx => ⟨(wf_u8 (h.w1 x hx).1).1, by have := (linesB_lt h1 x hx).1; omega⟩) (fun x hx => ⟨(wf_u8 (h.w2 x hx).2.1).1, by have := (takesB_lt h2 x hx).2.1; omega⟩) (fun x hx => ⟨(wf_u8 (h.w3 x hx).1).1, by have := (linesB_lt h3 x hx).1; omega⟩)

theorem progGood_val (s w : Int) (p : Prg) (h : Few p) : prog_Good s w p = some (goodP s w p) := by
  have l1 := h.lines; have l2 := h.takes; have l3 := h.owes
  obtain ⟨k1, k2, k3⟩ := h.k
  unfold prog_Good goodP fineB
  cases hs1 : decide (s < 1) with
  | true => rfl
  | false =>
  cases hs2 : decide (s > 4) with
  | true => rfl
  | false =>
  cases hw1 : decide (w < 1) with
  | true => rfl
  | false =>
  cases hw2 : decide (w > 4) with
  | true => rfl
  | false =>
  have hs : s ≤ 4 := by simpa using hs2
  simp only [cond_false, Bool.not_false, Bool.true_and, still_val, bare_val, progLines_val s _ (show p.2.2.2.1.length < 1000 by omega) h.w1, progLines_val s _ (show p.2.2.2.2.2.1.length < 1000 by omega) h.w3, progTakes_val s w p (by omega) h.w2, progFills_val p (by omega) h.w2,
    wrap_i64 (show -9223372036854775808 ≤ p.2.2.2.2.2.2.1 by omega) (by omega), wrap_i64 (show -9223372036854775808 ≤ p.2.2.2.2.2.2.2.1 by omega) (by omega), wrap_i64 (show -9223372036854775808 ≤ p.2.2.2.2.2.2.2.2.1 by omega) (by omega),
    Option.bind_some, cond_some, fst_cond, snd_cond, Bool.cond_self, cond_no]
  have e34 : (bif p.1 == 3 then p.1 == 3 else p.1 == 4) = ((p.1 == 3) || (p.1 == 4)) := by cases (p.1 == 3) <;> rfl
  have hwr : IntKind.i64.wrap ((p.2.2.2.2.1.length : Int) + (p.2.2.2.2.2.1.length : Int)) = (p.2.2.2.2.1.length : Int) + (p.2.2.2.2.2.1.length : Int) := wrap_i64 (by omega) (by omega)
  unfold goodKind orderedB movedB
  rw [e34, hwr]
  cases p.1 == 1 with
  | false => simp only [cond_false, cond_no]
  | true =>
    simp only [cond_true]
    cases ((p.2.1 != 0) && stillB p) with
    | false => rfl
    | true =>
    cases decide (p.2.2.1 ≤ 1) with
    | false => rfl
    | true =>
    cases decide ((p.2.2.2.1.length : Int) > 0) with
    | false => rfl
    | true =>
    cases c1 : linesB s p.2.2.2.1 with
    | false => rfl
    | true =>
    cases c2 : takesB s w p.2.1 p.2.2.2.2.1 with
    | false => rfl
    | true =>
    cases c3 : linesB s p.2.2.2.2.2.1 with
    | false => rfl
    | true =>
    simp only [cond_true, Bool.true_and]
    rw [covered_of h hs c1 c2 c3, Option.bind_some, cond_yes]
end Go.Proofs.Pure

/- Which programs may be, by the document: the same. -/
namespace Go.Proofs.Pure
open Go.Proofs.D Go.Proofs.F

def sameP (x y : Prg) : Bool := (x.1 == y.1) && ((x.2.1 == y.2.1) && ((x.2.2.1 == y.2.2.1) && (sameL x.2.2.2.1 y.2.2.2.1 && (sameT x.2.2.2.2.1 y.2.2.2.2.1 && (sameL x.2.2.2.2.2.1 y.2.2.2.2.2.1 && ((x.2.2.2.2.2.2.1 == y.2.2.2.2.2.2.1) && ((x.2.2.2.2.2.2.2.1 == y.2.2.2.2.2.2.2.1) && ((x.2.2.2.2.2.2.2.2.1 == y.2.2.2.2.2.2.2.2.1) && (x.2.2.2.2.2.2.2.2.2.1 == y.2.2.2.2.2.2.2.2.2.1)))))))))
theorem refSameP_val (x y : Prg) (h1 : x.2.2.2.1.length < 1000) (h2 : x.2.2.2.2.1.length < 1000) (h3 : x.2.2.2.2.2.1.length < 1000) : ref13_Same x y = some (sameP x y) := by
  unfold ref13_Same sameP
  rw [ref_equal_val _ _ h1, ref_equalT_val _ _ h2, ref_equal_val _ _ h3]
  simp only [Option.bind_some, cond_some, cond_no]

theorem sameL_nil (x : List Ln) : sameL x [] = ((x.length : Int) == 0) := by
  unfold sameL
  cases x with
  | nil => rfl
  | cons a x => rw [show ((a :: x).length == ([] : List Ln).length) = false by simp, show (((a :: x).length : Int) == 0) = false by rw [beq_eq_false_iff_ne]; simp only [List.length_cons]; omega]; rfl
theorem sameT_nil (x : List Tk) : sameT x [] = ((x.length : Int) == 0) := by
  unfold sameT
  cases x with
  | nil => rfl
  | cons a x => rw [show ((a :: x).length == ([] : List Tk).length) = false by simp, show (((a :: x).length : Int) == 0) = false by rw [beq_eq_false_iff_ne]; simp only [List.length_cons]; omega]; rfl

theorem refCovered_of {s : Int} {p : Prg} (h : Few p) (hs : s ≤ 4) (h1 : linesB s p.2.2.2.1 = true) : ref13_covered p = some (coveredB p.2.2.2.2.1 p.2.2.2.2.2.1 p.2.2.2.1) := by
  have l1 := h.lines; have l2 := h.takes; have l3 := h.owes
  exact refCovered_val p hs h1 (by omega) (by omega) (by omega) h.w1 h.w2 h.w3

theorem refGoodP_val (s w : Int) (p : Prg) (h : Few p) : ref13_Good s w p = some (goodP s w p) := by
  have l1 := h.lines; have l2 := h.takes; have l3 := h.owes
  obtain ⟨k1, k2, k3⟩ := h.k
  unfold ref13_Good goodP fineB
  cases hs1 : decide (s < 1) with
  | true => rfl
  | false =>
  cases hs2 : decide (s > 4) with
  | true => rfl
  | false =>
  cases hw1 : decide (w < 1) with
  | true => rfl
  | false =>
  cases hw2 : decide (w > 4) with
  | true => rfl
  | false =>
  have hs : s ≤ 4 := by simpa using hs2
  simp only [cond_false, Bool.not_false, Bool.true_and, refLines_val s _ (show p.2.2.2.1.length < 1000 by omega) h.w1, refLines_val s _ (show p.2.2.2.2.2.1.length < 1000 by omega) h.w3, refTakes_val s w p (by omega) h.w2, refFills_val p (by omega) h.w2,
    wrap_i64 (show -9223372036854775808 ≤ p.2.2.2.2.2.2.1 by omega) (by omega), wrap_i64 (show -9223372036854775808 ≤ p.2.2.2.2.2.2.2.1 by omega) (by omega), wrap_i64 (show -9223372036854775808 ≤ p.2.2.2.2.2.2.2.2.1 by omega) (by omega),
    Option.bind_some, cond_some, fst_cond, snd_cond, Bool.cond_self]
  have e34 : (bif p.1 == 3 then p.1 == 3 else p.1 == 4) = ((p.1 == 3) || (p.1 == 4)) := by cases (p.1 == 3) <;> rfl
  have hwr : IntKind.i64.wrap ((p.2.2.2.2.1.length : Int) + (p.2.2.2.2.2.1.length : Int)) = (p.2.2.2.2.1.length : Int) + (p.2.2.2.2.2.1.length : Int) := wrap_i64 (by omega) (by omega)
  have hsame : ∀ q : Prg, ref13_Same p q = some (sameP p q) := fun q => refSameP_val p q (by omega) (by omega) (by omega)
  have fin : ∀ (x : (Unit × Unit × Bool) × Prg × Prg × Unit), x.2.1 = p → ((some x).bind fun y47 => bif y47.1.2.2 then (ref13_Same y47.2.1 y47.2.2.1).bind fun r48 => some r48 else some false) = some (x.1.2.2 && sameP p x.2.2.1) := by
    intro x hx
    rw [Option.bind_some, hx, hsame, Option.bind_some]
    cases x.1.2.2 <;> rfl
  unfold goodKind orderedB movedB
  by_cases c1 : p.1 = 1
  · simp only [show (p.1 == 1) = true by rw [beq_iff_eq]; exact c1, cond_true]
    cases (p.2.1 != 0) with
    | false => rfl
    | true =>
    cases decide (p.2.2.1 ≤ 1) with
    | false => rw [Bool.and_comm]; rfl
    | true =>
    cases decide ((p.2.2.2.1.length : Int) > 0) with
    | false => rw [Bool.and_comm]; rfl
    | true =>
    cases c2 : linesB s p.2.2.2.1 with
    | false => rw [Bool.and_comm]; rfl
    | true =>
    cases takesB s w p.2.1 p.2.2.2.2.1 with
    | false => rw [Bool.and_comm]; rfl
    | true =>
    cases linesB s p.2.2.2.2.2.1 with
    | false => rw [Bool.and_comm]; rfl
    | true =>
    simp only [cond_true, Bool.true_and]
    rw [refCovered_of h hs c2, Option.bind_some]
    cases coveredB p.2.2.2.2.1 p.2.2.2.2.2.1 p.2.2.2.1 with
    | false => rw [Bool.and_comm]; rfl
    | true =>
    have hst : sameP p (p.1, p.2.1, p.2.2.1, p.2.2.2.1, p.2.2.2.2.1, p.2.2.2.2.2.1, 0, 0, 0, 0, ()) = stillB p := by
      unfold sameP stillB
      simp only [beq_self_eq_true, sameL_refl, sameT_refl, Bool.true_and]
    simp only [cond_true, Bool.true_and]
    cases (p.2.2.1 == 0) with
    | true => simp only [cond_true]; refine (fin _ rfl).trans ?_; simp only [hst, Bool.true_or, Bool.true_and, Bool.and_true]
    | false => simp only [cond_false]; refine (fin _ rfl).trans ?_; simp only [hst, Bool.false_or, Bool.and_comm]
  simp only [show (p.1 == 1) = false by rw [beq_eq_false_iff_ne]; exact c1, cond_false, e34, hwr]
  by_cases c2 : p.1 = 2
  · simp only [show (p.1 == 2) = true by rw [beq_iff_eq]; exact c2, cond_true]
    have hst : sameP p (p.1, p.2.1, 0, [], p.2.2.2.2.1, p.2.2.2.2.2.1, 0, 0, 0, 0, ()) = (bareB p && stillB p) := by
      unfold sameP stillB bareB
      simp only [beq_self_eq_true, sameL_refl, sameT_refl, sameL_nil, Bool.true_and, Bool.and_assoc]
    cases (p.2.1 != 0) with
    | false => rfl
    | true =>
    cases takesB s w p.2.1 p.2.2.2.2.1 with
    | false => simp
    | true =>
    cases linesB s p.2.2.2.2.2.1 with
    | false => simp
    | true =>
    simp only [cond_true]
    refine (fin _ rfl).trans ?_
    simp only [hst, Bool.true_and]
    cases decide ((p.2.2.2.2.1.length : Int) + (p.2.2.2.2.2.1.length : Int) > 0) <;> cases bareB p <;> cases stillB p <;> rfl
  simp only [show (p.1 == 2) = false by rw [beq_eq_false_iff_ne]; exact c2, cond_false]
  cases c34 : ((p.1 == 3) || (p.1 == 4)) with
  | true =>
    simp only [cond_true]
    have hst : sameP p (p.1, p.2.1, 0, [], p.2.2.2.2.1, [], 0, 0, 0, 0, ()) = (bareB p && (((p.2.2.2.2.2.1.length : Int) == 0) && stillB p)) := by
      unfold sameP stillB bareB
      simp only [beq_self_eq_true, sameT_refl, sameL_nil, Bool.true_and, Bool.and_assoc]
    cases (p.2.1 != 0) with
    | false => rfl
    | true =>
    cases takesB s w p.2.1 p.2.2.2.2.1 with
    | false => simp
    | true =>
    simp only [cond_true]
    refine (fin _ rfl).trans ?_
    simp only [hst, Bool.true_and]
    cases decide ((p.2.2.2.2.1.length : Int) > 0) <;> cases bareB p <;> cases stillB p <;> cases ((p.2.2.2.2.2.1.length : Int) == 0) <;> rfl
  | false =>
    simp only [cond_false]
    by_cases c5 : p.1 = 5
    · simp only [show (p.1 == 5) = true by rw [beq_iff_eq]; exact c5, cond_true]
      have hst : sameP p (p.1, 0, 0, [], p.2.2.2.2.1, [], p.2.2.2.2.2.2.1, 0, p.2.2.2.2.2.2.2.2.1, p.2.2.2.2.2.2.2.2.2.1, ()) = ((p.2.1 == 0) && (bareB p && (((p.2.2.2.2.2.1.length : Int) == 0) && (p.2.2.2.2.2.2.2.1 == 0)))) := by
        unfold sameP bareB
        simp only [beq_self_eq_true, sameT_refl, sameL_nil, Bool.true_and, Bool.and_assoc, Bool.and_true]
      cases decide (p.2.2.2.2.2.2.1 < s) with
      | false => simp
      | true =>
      cases decide (p.2.2.2.2.2.2.2.2.1 < w) with
      | false => simp
      | true =>
      cases decide (p.2.2.2.2.2.2.2.2.2.1 ≥ 1) with
      | false => simp
      | true =>
      simp only [cond_true]
      refine (fin _ rfl).trans ?_
      simp only [hst]
      cases fillsB p <;> cases (p.2.1 == 0) <;> cases bareB p <;> cases ((p.2.2.2.2.2.1.length : Int) == 0) <;> cases (p.2.2.2.2.2.2.2.1 == 0) <;> rfl
    simp only [show (p.1 == 5) = false by rw [beq_eq_false_iff_ne]; exact c5, cond_false]
    by_cases c6 : p.1 = 6
    · simp only [show (p.1 == 6) = true by rw [beq_iff_eq]; exact c6, cond_true]
      have hst : sameP p (6, 0, 0, [], [], [], p.2.2.2.2.2.2.1, p.2.2.2.2.2.2.2.1, p.2.2.2.2.2.2.2.2.1, p.2.2.2.2.2.2.2.2.2.1, ()) = ((p.2.1 == 0) && (bareB p && (((p.2.2.2.2.1.length : Int) == 0) && ((p.2.2.2.2.2.1.length : Int) == 0)))) := by
        unfold sameP bareB
        simp only [show (p.1 == 6) = true by rw [beq_iff_eq]; exact c6, beq_self_eq_true, sameT_nil, sameL_nil, Bool.true_and, Bool.and_assoc, Bool.and_true]
      cases decide (p.2.2.2.2.2.2.1 < s) with
      | false => simp
      | true =>
      cases decide (p.2.2.2.2.2.2.2.1 < w) with
      | false => simp
      | true =>
      cases decide (p.2.2.2.2.2.2.2.2.1 < w) with
      | false => simp
      | true =>
      cases (p.2.2.2.2.2.2.2.1 != p.2.2.2.2.2.2.2.2.1) with
      | false => simp
      | true =>
      simp only [cond_true]
      refine (fin _ rfl).trans ?_
      simp only [hst]
      cases decide (p.2.2.2.2.2.2.2.2.2.1 ≥ 1) <;> cases (p.2.1 == 0) <;> cases bareB p <;> cases ((p.2.2.2.2.2.1.length : Int) == 0) <;> cases ((p.2.2.2.2.1.length : Int) == 0) <;> rfl
    simp only [show (p.1 == 6) = false by rw [beq_eq_false_iff_ne]; exact c6, cond_false]
    rfl
end Go.Proofs.Pure

/- Numbers in bytes, the least first. -/
namespace Go.Proofs.Pure
open Go.Proofs.D Go.Proofs.F

def leN : Nat → Int → List Int
  | 0, _ => []
  | n + 1, x => x % 256 :: leN n (x / 256)
theorem leN_len : ∀ (n : Nat) (x : Int), (leN n x).length = n
  | 0, _ => rfl
  | n + 1, x => by simp [leN, leN_len n]
/-! ### One byte of a number -/
def byteAt (x : Int) (i : Nat) : Int := x / 256 ^ i % 256
theorem leN_get : ∀ (n : Nat) (x : Int) (i : Nat), i < n → (leN n x)[i]? = some (byteAt x i)
  | 0, _, _, h => absurd h (Nat.not_lt_zero _)
  | n + 1, x, 0, _ => by simp [leN, byteAt]
  | n + 1, x, i + 1, h => by
    simp only [leN, List.getElem?_cons_succ]
    rw [leN_get n (x / 256) i (by omega)]
    unfold byteAt
    rw [Int.pow_succ, Int.mul_comm, Int.ediv_ediv_of_nonneg (by omega)]
theorem pow8 (i : Nat) : (2 : Int) ^ (8 * i) = 256 ^ i := by rw [Int.pow_mul]; rfl
theorem shift_byte (x : Int) (i : Nat) (h0 : 0 ≤ x) (hi : i < 8) : IntKind.u8.wrap (Int.fdiv x (2 ^ (min (IntKind.i64.wrap (8 * (i : Int)) : Int).toNat 64))) = byteAt x i := by
  have e1 : IntKind.i64.wrap (8 * (i : Int)) = 8 * (i : Int) := wrap_i64 (by omega) (by omega)
  have e2 : (8 * (i : Int)).toNat = 8 * i := by omega
  rw [e1, e2, Nat.min_eq_left (by omega), pow8, Int.fdiv_eq_ediv_of_nonneg _ (Int.pow_nonneg (by omega))]
  rfl

/-! ### A byte put above a number -/
end Go.Proofs.Pure

/- What the writer writes of a program, byte by byte; what the document writes. -/
namespace Go.Proofs.Pure
open Go.Proofs.D Go.Proofs.F

theorem bind_of {α β : Type} {o : Option α} {x : α} {f : α → Option β} (h : o = some x) : o.bind f = f x := by rw [h]; rfl
def le8 (x : Int) : List Int := leN 8 (IntKind.u64.wrap x)
theorem le8_len (x : Int) : (le8 x).length = 8 := leN_len 8 _
theorem walk_foldl {α A X : Type} (g : A → α → A) (fin : A → X) : ∀ (l : List α) (i : Nat) (acc : A), walkL (fun _ x a => .inl (g a x)) fin i l acc = fin (l.foldl g acc)
  | [], i, acc => rfl
  | x :: l, i, acc => by
    rw [walkL]
    exact walk_foldl g fin l (i + 1) (g acc x)
/-! ### The writer -/
abbrev Wr := (Int × Unit) × Unit × Int × Unit
def wr0 : Wr := ((0, ()), ((), (512, ())))
abbrev WrOut := Unit × Wr × Unit × List Int × Unit
def wOut (b : List Int) : WrOut := ((), (wr0, ((), (b, ()))))
theorem raw_val (x b : List Int) (h : b.length + x.length ≤ 512) : wW_Raw () x wr0 b = some (wOut (b ++ x)) := by
  have e1 : IntKind.i64.wrap (512 - (b.length : Int)) = 512 - (b.length : Int) := wrap_i64 (by omega) (by omega)
  show (bif !((0 : Int) == 0) then some ((), (((0, ()), ((), (512, ()))), ((), (b, ())))) else bif decide ((x.length : Int) > (IntKind.i64.wrap (512 - (b.length : Int)))) then _ else room (b.length + x.length) (some ((), (((0, ()), ((), (512, ()))), ((), (b ++ x, ())))))) = _
  rw [e1, dec_f (show ¬ (x.length : Int) > 512 - (b.length : Int) by omega), room_ok (by omega)]
  rfl
theorem set_take (arr : List Int) (i : Nat) (v : Int) (h : i < arr.length) : (arr.set i v).take (i + 1) = arr.take i ++ [v] := by
  rw [List.take_add_one, List.getElem?_set_self h, List.take_set_of_le (Nat.le_refl i)]; rfl
theorem num_val (x : Int) (n : Nat) (b : List Int) (h1 : 1 ≤ n) (h8 : n ≤ 8) (h0 : 0 ≤ x) (hx : x < 256 ^ n) (hb : b.length + n ≤ 512) : wW_Num () x (n : Int) wr0 b = some (wOut (b ++ leN n x)) := by
  have hz : n < 8 → Int.fdiv x (2 ^ (min (IntKind.i64.wrap (8 * (n : Int)) : Int).toNat 64)) = 0 := fun h => by
    have e1 : IntKind.i64.wrap (8 * (n : Int)) = 8 * (n : Int) := wrap_i64 (by omega) (by omega)
    rw [e1, show (8 * (n : Int)).toNat = 8 * n by omega, Nat.min_eq_left (by omega), Int.fdiv_eq_ediv_of_nonneg _ (Int.pow_nonneg (by omega)), pow8]
    exact Int.ediv_eq_zero_of_lt h0 hx
  unfold wW_Num
  have hchk : decide (0 ≤ (IntKind.i64.wrap (8 * (n : Int)))) = true := by rw [wrap_i64 (by omega) (by omega)]; simp; omega
  have hpre : (bif decide ((n : Int) < 1) then some ((((), (x, ((n : Int), true))), ((wr0.1, ((), wr0.2.2)), (b, ())))) else bif decide ((n : Int) > 8) then some ((((), (x, ((n : Int), true))), ((wr0.1, ((), wr0.2.2)), (b, ())))) else bif decide ((n : Int) < 8) then chk (decide (0 ≤ (IntKind.i64.wrap (8 * (n : Int))))) (some ((((), (x, ((n : Int), (Int.fdiv x (2 ^ (min (IntKind.i64.wrap (8 * (n : Int)) : Int).toNat 64)) : Int) != 0))), ((wr0.1, ((), wr0.2.2)), (b, ()))))) else some ((((), (x, ((n : Int), false))), ((wr0.1, ((), wr0.2.2)), (b, ())))) : Option ((Unit × Int × Int × Bool) × Wr × List Int × Unit)) = some ((((), (x, ((n : Int), false))), (wr0, (b, ())))) := by
    rw [dec_f (show ¬ (n : Int) < 1 by omega), dec_f (show ¬ (n : Int) > 8 by omega)]
    by_cases h : n < 8
    · rw [dec_t (show (n : Int) < 8 by omega), chk_true hchk, hz h]; rfl
    · rw [dec_f (show ¬ (n : Int) < 8 by omega)]; rfl
  have key : ∀ (k i : Nat) (arr : List Int) (m : Nat), i + k = n → k < m → arr.length = 8 → arr.take i = (leN n x).take i → ∃ arr' : List Int, arr'.length = 8 ∧ arr'.take n = leN n x ∧ iterL wW_Num.l1 m (((), (x, ((n : Int), ((), ((n : Int), (i : Int)))))), (wr0, (b, (arr, ())))) = some (((), ((n : Int), ())), (wr0, (b, (arr', ())))) := by
    intro k
    induction k with
    | zero =>
      intro i arr m hi hm ha ht
      obtain ⟨m, rfl⟩ : ∃ q, m = q + 1 := ⟨m - 1, by omega⟩
      refine ⟨arr, ha, ?_, iterL_done ?_⟩
      · rw [show n = i by omega] at ht ⊢
        rw [ht, List.take_of_length_le (by rw [leN_len]; omega)]
      · unfold wW_Num.l1
        simp only [dec_f (show ¬ (i : Int) < (n : Int) by omega), cond_false]
    | succ k ih =>
      intro i arr m hi hm ha ht
      obtain ⟨m, rfl⟩ : ∃ q, m = q + 1 := ⟨m - 1, by omega⟩
      have hs : wW_Num.l1 (((), (x, ((n : Int), ((), ((n : Int), (i : Int)))))), (wr0, (b, (arr, ())))) = some (.inl (((), (x, ((n : Int), ((), ((n : Int), ((i + 1 : Nat) : Int)))))), (wr0, (b, (arr.set i (byteAt x i), ()))))) := by
        obtain ⟨z, hz⟩ : ∃ z, arr[i]? = some z := ⟨_, List.getElem?_eq_getElem (by omega)⟩
        unfold wW_Num.l1
        simp only [dec_t (show (i : Int) < (n : Int) by omega), cond_true]
        rw [chk_true (by rw [wrap_i64 (by omega) (by omega)]; simp; omega), chk_true (by simp; omega)]
        show nthN arr i (fun e25 => _) = _
        rw [nthN_get hz, succ_i64 (by omega), shift_byte x i h0 (by omega)]
      obtain ⟨a', g1, g2, g3⟩ := ih (i + 1) (arr.set i (byteAt x i)) m (by omega) (by omega) (by rw [List.length_set]; exact ha) (by rw [set_take _ _ _ (by omega), List.take_add_one, ht, leN_get n x i (by omega)]; rfl)
      exact ⟨a', g1, g2, (iterL_next hs).trans g3⟩
  obtain ⟨arr', g1, g2, g3⟩ := key n 0 (List.replicate 8 0) loopN (by omega) (by rw [loopN_eq]; omega) (by simp) rfl
  refine (bind_of hpre).trans ?_
  show ((iterL wW_Num.l1 loopN (((), (x, ((n : Int), ((), ((n : Int), 0))))), (wr0, (b, (List.replicate 8 0, ()))))).bind _) = _
  refine (bind_of g3).trans ?_
  show chk (decide (0 ≤ (n : Int)) && decide ((n : Int) ≤ 8)) ((wW_Raw () ((arr'.take (n : Int).toNat).drop 0) wr0 b).bind fun r27 => some ((), ((r27.2.1.1, ((), r27.2.1.2.2)), ((), (r27.2.2.2.1, ()))))) = _
  rw [chk_true (by simp; omega), Int.toNat_natCast, List.drop_zero, g2, raw_val _ _ (by rw [leN_len]; omega)]
  rfl
theorem u64_of {x : Int} (h0 : 0 ≤ x) (h : x < 18446744073709551616) : IntKind.u64.wrap x = x := by
  show x % 18446744073709551616 = x
  omega
theorem u64_bnd (x : Int) : 0 ≤ IntKind.u64.wrap x ∧ IntKind.u64.wrap x < 256 ^ 8 := by
  show 0 ≤ x % 18446744073709551616 ∧ x % 18446744073709551616 < 18446744073709551616
  omega
theorem num4_val (x : Int) (b : List Int) (h0 : 0 ≤ x) (h : x < 4294967296) (hb : b.length + 4 ≤ 512) : wW_Num () (IntKind.u64.wrap x) 4 wr0 b = some (wOut (b ++ leN 4 x)) := by
  rw [u64_of h0 (by omega)]; exact num_val x 4 b (by omega) (by omega) h0 (by omega) hb
end Go.Proofs.Pure

/- What the document writes of a program: the same bytes. -/
namespace Go.Proofs.Pure
open Go.Proofs.D Go.Proofs.F

theorem refNum_val (x : Int) (n : Nat) (hn : n ≤ 8) (h0 : 0 ≤ x) (h : x < 18446744073709551616) : ref03_Num x (n : Int) = some ((), (leN n x, ())) := by
  have key : ∀ (k i : Nat) (y : Int) (acc : List Int) (m : Nat), i + k = n → k < m → 0 ≤ y → y < 18446744073709551616 → acc.length = i → iterL ref03_Num.l1 m ((y, ((n : Int), ((), (i : Int)))), (acc, ())) = some ((), (acc ++ leN k y, ())) := by
    intro k
    induction k with
    | zero =>
      intro i y acc m hi hm h0 h1 ha
      obtain ⟨m, rfl⟩ : ∃ q, m = q + 1 := ⟨m - 1, by omega⟩
      refine iterL_done ?_
      unfold ref03_Num.l1
      simp only [dec_f (show ¬ (i : Int) < (n : Int) by omega), cond_false]
      simp [leN]
    | succ k ih =>
      intro i y acc m hi hm h0 h1 ha
      obtain ⟨m, rfl⟩ : ∃ q, m = q + 1 := ⟨m - 1, by omega⟩
      have e1 : IntKind.u8.wrap (Int.tmod y 256) = y % 256 := by
        rw [Int.tmod_eq_emod_of_nonneg h0]
        show y % 256 % 256 = y % 256
        omega
      have e2 : IntKind.u64.wrap (Int.tdiv y 256) = y / 256 := by
        rw [Int.tdiv_eq_ediv_of_nonneg h0]
        exact u64_of (by omega) (by omega)
      have hs : ref03_Num.l1 ((y, ((n : Int), ((), (i : Int)))), (acc, ())) = some (.inl ((y / 256, ((n : Int), ((), ((i + 1 : Nat) : Int)))), (acc ++ [y % 256], ()))) := by
        unfold ref03_Num.l1
        simp only [dec_t (show (i : Int) < (n : Int) by omega), cond_true, e1, e2]
        rw [room_ok (by simp; omega), succ_i64 (by omega)]
      refine (iterL_next hs).trans ?_
      rw [ih (i + 1) (y / 256) (acc ++ [y % 256]) m (by omega) (by omega) (by omega) (by omega) (by simp [ha])]
      simp [leN]
  unfold ref03_Num
  have := key n 0 x [] loopN (by omega) (by rw [loopN_eq]; omega) h0 h rfl
  exact (bind_of this).trans rfl
theorem refInt_val (x : Int) : ref03_Int x = some (le8 x) := by
  have hb := u64_bnd x
  unfold ref03_Int
  exact (bind_of (refNum_val (IntKind.u64.wrap x) 8 (by omega) hb.1 (by omega))).trans rfl
theorem refNum4_val (x : Int) (h0 : 0 ≤ x) (h : x < 4294967296) : ref03_Num (IntKind.u64.wrap x) 4 = some ((), (leN 4 x, ())) := by
  rw [u64_of h0 (by omega)]; exact refNum_val x 4 (by omega) h0 (by omega)
end Go.Proofs.Pure

/- Records: which may be. -/
namespace Go.Proofs.Pure
open Go.Proofs.D Go.Proofs.F

abbrev Ky := Int × Int × Int × Unit
abbrev Rc := Int × Int × Int × Int × Bool × Ky × Int × Int × Prg × Unit
theorem sameP_val (x y : Prg) (h1 : x.2.2.2.1.length < 1000) (h2 : x.2.2.2.2.1.length < 1000) (h3 : x.2.2.2.2.2.1.length < 1000) : prog_Same x y = some (sameP x y) := by
  unfold prog_Same sameP
  rw [equal_val _ _ h1, equalT_val _ _ h2, equal_val _ _ h3]
  simp only [Option.bind_some]
  simp only [cond_some, cond_no]

def keyC (k : Ky) : Bool := decide (k.2.1 < 4) && (bif (k.1 == 1) || (k.1 == 2) then decide (k.2.2.1 < 4) else (((k.1 == 3) || (k.1 == 4)) && (k.2.2.1 == 0)))
theorem keyC_val (k : Ky) (h1 : 0 ≤ k.2.1 ∧ k.2.1 < 256) (h2 : 0 ≤ k.2.2.1 ∧ k.2.2.1 < 256) : key_Good 4 4 k = some (keyC k) ∧ ref04_Good 4 4 k = some (keyC k) := by
  obtain ⟨a, b, c, u⟩ := k
  simp only at h1 h2
  have e1 : IntKind.i64.wrap b = b := wrap_i64 (by omega) (by omega)
  have e2 : IntKind.i64.wrap c = c := wrap_i64 (by omega) (by omega)
  unfold key_Good key_fine key_both ref04_Good keyC
  simp only [e1, e2]
  have ne : ∀ n : Int, a ≠ n → (a == n) = false := fun n h => by simpa using h
  by_cases hb : b < 4
  · rw [dec_f (show ¬ b ≥ 4 by omega), dec_t hb]
    by_cases a1 : a = 1
    · subst a1; constructor <;> (by_cases hc : c < 4 <;> simp [hc])
    by_cases a2 : a = 2
    · subst a2; constructor <;> (by_cases hc : c < 4 <;> simp [hc])
    by_cases a3 : a = 3
    · subst a3; constructor <;> simp
    by_cases a4 : a = 4
    · subst a4; constructor <;> simp
    rw [ne 1 a1, ne 2 a2, ne 3 a3, ne 4 a4]
    by_cases l1 : a < 1
    · constructor <;> simp [l1]
    · have l4 : a > 4 := by omega
      constructor <;> simp [l4]
  · rw [dec_t (show b ≥ 4 by omega), dec_f hb]
    by_cases l1 : a < 1
    · constructor <;> simp [l1]
    · by_cases l4 : a > 4
      · constructor <;> simp [l4]
      · constructor <;> simp [l1, l4]

def prgZ : Prg := (0, (0, (0, ([], ([], ([], (0, (0, (0, (0, ()))))))))))
def kyZ : Ky := (0, (0, (0, ())))
def sameR (x y : Rc) : Bool := (x.1 == y.1) && ((x.2.1 == y.2.1) && ((x.2.2.1 == y.2.2.1) && ((x.2.2.2.1 == y.2.2.2.1) && ((x.2.2.2.2.1 == y.2.2.2.2.1) && (eqE kKey x.2.2.2.2.2.1 y.2.2.2.2.2.1 && ((x.2.2.2.2.2.2.1 == y.2.2.2.2.2.2.1) && ((x.2.2.2.2.2.2.2.1 == y.2.2.2.2.2.2.2.1) && sameP x.2.2.2.2.2.2.2.2.1 y.2.2.2.2.2.2.2.2.1)))))))
theorem sameR_val (x y : Rc) (hf : Few x.2.2.2.2.2.2.2.2.1) : rec_Same x y = some (sameR x y) := by
  have l1 := hf.lines; have l2 := hf.takes; have l3 := hf.owes
  unfold rec_Same sameR
  rw [sameP_val _ _ (by omega) (by omega) (by omega)]
  simp only [Option.bind_some, cond_some, cond_no]
theorem refSameR_val (x y : Rc) (hf : Few x.2.2.2.2.2.2.2.2.1) : ref14_Same x y = some (sameR x y) := by
  have l1 := hf.lines; have l2 := hf.takes; have l3 := hf.owes
  unfold ref14_Same sameR
  rw [refSameP_val _ _ (by omega) (by omega) (by omega)]
  simp only [Option.bind_some, cond_some, cond_no]

def ownR (r : Rc) : Rc × Bool :=
  bif r.1 == 1 then ((r.1, (r.2.1, (0, (0, (false, (kyZ, (0, (0, (r.2.2.2.2.2.2.2.2.1, ()))))))))), (r.2.1 != 0) && goodP 4 4 r.2.2.2.2.2.2.2.2.1)
  else bif r.1 == 2 then ((r.1, (r.2.1, (r.2.2.1, (r.2.2.2.1, (r.2.2.2.2.1, (kyZ, (0, (0, (prgZ, ()))))))))), (r.2.1 != 0) && ((r.2.2.1 != 0) && decide (r.2.2.2.1 < 5)))
  else bif (r.1 == 3) || (r.1 == 6) then ((r.1, (0, (r.2.2.1, (0, (false, (r.2.2.2.2.2.1, (r.2.2.2.2.2.2.1, (0, (prgZ, ()))))))))), (r.2.2.1 != 0) && (keyC r.2.2.2.2.2.1 && ((r.2.2.2.2.2.2.1 != 0) && decide (r.2.2.2.2.2.2.1 ≥ -9223372036854775807))))
  else bif (r.1 == 4) || ((r.1 == 5) || (r.1 == 7)) then ((r.1, (0, (r.2.2.1, (0, (false, (kyZ, (0, (0, (prgZ, ()))))))))), r.2.2.1 != 0)
  else bif r.1 == 8 then ((r.1, (r.2.1, (0, (0, (false, (kyZ, (0, (0, (prgZ, ()))))))))), r.2.1 != 0)
  else bif r.1 == 9 then ((r.1, (r.2.1, (0, (0, (false, (kyZ, (0, (r.2.2.2.2.2.2.2.1, (prgZ, ()))))))))), (r.2.1 != 0) && ((r.2.2.2.2.2.2.2.1 == 1) || (r.2.2.2.2.2.2.2.1 == 2)))
  else ((r.1, (0, (0, (0, (false, (kyZ, (0, (0, (prgZ, ()))))))))), false)
def recB (r : Rc) : Bool := (ownR r).2 && sameR r (ownR r).1

structure FewR (r : Rc) : Prop where
  pr : Few r.2.2.2.2.2.2.2.2.1
  k1 : 0 ≤ r.2.2.2.2.2.1.2.1 ∧ r.2.2.2.2.2.1.2.1 < 256
  k2 : 0 ≤ r.2.2.2.2.2.1.2.2.1 ∧ r.2.2.2.2.2.1.2.2.1 < 256
  d : -9223372036854775808 ≤ r.2.2.2.2.2.2.1

theorem own_val (r : Rc) (h : FewR r) : rec_own r = some ((ownR r).1, ((ownR r).2, ())) := by
  obtain ⟨hf, hk1, hk2, hd⟩ := h
  obtain ⟨k, saga, txn, step, back, key, delta, out, p, u⟩ := r
  simp only at hf hk1 hk2 hd
  obtain ⟨g1, g2⟩ := keyC_val key hk1 hk2
  have p1 := progGood_val 4 4 p hf
  have hdd : (delta != (-9223372036854775808 : Int)) = decide (delta ≥ -9223372036854775807) := by
    by_cases h : delta = -9223372036854775808
    · subst h; rfl
    · rw [dec_t (by omega)]; simp [h]
  unfold rec_own ownR
  by_cases c1 : k = 1
  · subst c1; simp only [p1, beq_self_eq_true, cond_true, Option.bind_some]
    cases saga != 0 <;> rfl
  by_cases c2 : k = 2
  · subst c2; simp only [show ((2 : Int) == 1) = false from rfl, beq_self_eq_true, cond_true, cond_false]
    cases saga != 0 <;> cases txn != 0 <;> rfl
  by_cases c3 : k = 3
  · subst c3; simp only [show ((3 : Int) == 1) = false from rfl, show ((3 : Int) == 2) = false from rfl, beq_self_eq_true, cond_true, cond_false, Bool.true_or, Option.bind_some, g1, hdd]
    cases txn != 0 <;> cases keyC key <;> cases delta != 0 <;> rfl
  by_cases c6 : k = 6
  · subst c6; simp only [show ((6 : Int) == 1) = false from rfl, show ((6 : Int) == 2) = false from rfl, show ((6 : Int) == 3) = false from rfl, beq_self_eq_true, cond_true, cond_false, Bool.or_true, Option.bind_some, g1, hdd]
    cases txn != 0 <;> cases keyC key <;> cases delta != 0 <;> rfl
  by_cases c4 : k = 4
  · subst c4; rfl
  by_cases c5 : k = 5
  · subst c5; rfl
  by_cases c7 : k = 7
  · subst c7; rfl
  by_cases c8 : k = 8
  · subst c8; rfl
  by_cases c9 : k = 9
  · subst c9
    simp only [show ((9 : Int) == 1) = false from rfl, show ((9 : Int) == 2) = false from rfl, show ((9 : Int) == 3) = false from rfl, show ((9 : Int) == 4) = false from rfl, show ((9 : Int) == 5) = false from rfl, show ((9 : Int) == 6) = false from rfl, show ((9 : Int) == 7) = false from rfl, show ((9 : Int) == 8) = false from rfl, beq_self_eq_true, cond_true, cond_false, Bool.or_false, Option.bind_some]
    cases saga != 0 <;> cases out == 1 <;> cases out == 2 <;> rfl
  have hk : ∀ n : Int, k ≠ n → (k == n) = false := fun n h => by simpa using h
  simp only [hk 1 c1, hk 2 c2, hk 3 c3, hk 4 c4, hk 5 c5, hk 6 c6, hk 7 c7, hk 8 c8, hk 9 c9, cond_false, Bool.or_false, Option.bind_some]
  rfl

theorem recGood_val (r : Rc) (h : FewR r) : rec_Good r = some (recB r) := by
  unfold rec_Good recB
  rw [own_val r h, Option.bind_some, sameR_val _ _ h.pr]
  simp only [Option.bind_some]
  cases (ownR r).2 <;> rfl

theorem refRecGood_val (r : Rc) (h : FewR r) : ref14_Good r = some (recB r) := by
  obtain ⟨hf, hk1, hk2, hd⟩ := h
  have hs : ∀ q, ref14_Same r q = some (sameR r q) := fun q => refSameR_val r q hf
  obtain ⟨k, saga, txn, step, back, key, delta, out, p, u⟩ := r
  simp only at hf hk1 hk2 hd
  obtain ⟨g1, g2⟩ := keyC_val key hk1 hk2
  have p2 := refGoodP_val 4 4 p hf
  unfold ref14_Good recB ownR
  by_cases c1 : k = 1
  · subst c1; simp only [p2, beq_self_eq_true, cond_true, Option.bind_some]
    cases saga != 0 <;> simp only [cond_true, cond_false, Option.bind_some, hs] <;> cases goodP 4 4 p <;> rfl
  by_cases c2 : k = 2
  · subst c2; simp only [show ((2 : Int) == 1) = false from rfl, beq_self_eq_true, cond_true, cond_false]
    cases saga != 0 <;> cases txn != 0 <;> simp only [cond_true, cond_false, Option.bind_some, hs] <;> cases decide (step < 5) <;> rfl
  by_cases c3 : k = 3
  · subst c3; simp only [show ((3 : Int) == 1) = false from rfl, show ((3 : Int) == 2) = false from rfl, beq_self_eq_true, cond_true, cond_false, Bool.true_or, Option.bind_some, g2]
    cases txn != 0 <;> cases keyC key <;> cases delta != 0 <;> simp only [cond_true, cond_false, Option.bind_some, hs] <;> cases decide (delta ≥ -9223372036854775807) <;> rfl
  by_cases c6 : k = 6
  · subst c6; simp only [show ((6 : Int) == 1) = false from rfl, show ((6 : Int) == 2) = false from rfl, show ((6 : Int) == 3) = false from rfl, beq_self_eq_true, cond_true, cond_false, Bool.or_true, Option.bind_some, g2]
    cases txn != 0 <;> cases keyC key <;> cases delta != 0 <;> simp only [cond_true, cond_false, Option.bind_some, hs] <;> cases decide (delta ≥ -9223372036854775807) <;> rfl
  by_cases c4 : k = 4
  · subst c4
    simp only [show ((4 : Int) == 1) = false from rfl, show ((4 : Int) == 2) = false from rfl, show ((4 : Int) == 3) = false from rfl, show ((4 : Int) == 5) = false from rfl, show ((4 : Int) == 6) = false from rfl, show ((4 : Int) == 7) = false from rfl, show ((4 : Int) == 8) = false from rfl, show ((4 : Int) == 9) = false from rfl, beq_self_eq_true, cond_true, cond_false, Bool.or_false, Bool.or_true, Bool.true_or, Bool.false_or, Option.bind_some]
    cases txn != 0 <;> simp only [cond_true, cond_false, Option.bind_some, hs] <;> rfl
  by_cases c5 : k = 5
  · subst c5
    simp only [show ((5 : Int) == 1) = false from rfl, show ((5 : Int) == 2) = false from rfl, show ((5 : Int) == 3) = false from rfl, show ((5 : Int) == 4) = false from rfl, show ((5 : Int) == 6) = false from rfl, show ((5 : Int) == 7) = false from rfl, show ((5 : Int) == 8) = false from rfl, show ((5 : Int) == 9) = false from rfl, beq_self_eq_true, cond_true, cond_false, Bool.or_false, Bool.or_true, Bool.true_or, Bool.false_or, Option.bind_some]
    cases txn != 0 <;> simp only [cond_true, cond_false, Option.bind_some, hs] <;> rfl
  by_cases c7 : k = 7
  · subst c7
    simp only [show ((7 : Int) == 1) = false from rfl, show ((7 : Int) == 2) = false from rfl, show ((7 : Int) == 3) = false from rfl, show ((7 : Int) == 4) = false from rfl, show ((7 : Int) == 5) = false from rfl, show ((7 : Int) == 6) = false from rfl, show ((7 : Int) == 8) = false from rfl, show ((7 : Int) == 9) = false from rfl, beq_self_eq_true, cond_true, cond_false, Bool.or_false, Bool.or_true, Bool.true_or, Bool.false_or, Option.bind_some]
    cases txn != 0 <;> simp only [cond_true, cond_false, Option.bind_some, hs] <;> rfl
  by_cases c8 : k = 8
  · subst c8
    simp only [show ((8 : Int) == 1) = false from rfl, show ((8 : Int) == 2) = false from rfl, show ((8 : Int) == 3) = false from rfl, show ((8 : Int) == 4) = false from rfl, show ((8 : Int) == 5) = false from rfl, show ((8 : Int) == 6) = false from rfl, show ((8 : Int) == 7) = false from rfl, show ((8 : Int) == 9) = false from rfl, beq_self_eq_true, cond_true, cond_false, Bool.or_false, Bool.or_true, Bool.true_or, Bool.false_or, Option.bind_some]
    cases saga != 0 <;> simp only [cond_true, cond_false, Option.bind_some, hs] <;> rfl
  by_cases c9 : k = 9
  · subst c9
    simp only [show ((9 : Int) == 1) = false from rfl, show ((9 : Int) == 2) = false from rfl, show ((9 : Int) == 3) = false from rfl, show ((9 : Int) == 4) = false from rfl, show ((9 : Int) == 5) = false from rfl, show ((9 : Int) == 6) = false from rfl, show ((9 : Int) == 7) = false from rfl, show ((9 : Int) == 8) = false from rfl, beq_self_eq_true, cond_true, cond_false, Bool.or_false, Option.bind_some]
    cases saga != 0 <;> cases out == 1 <;> cases out == 2 <;> simp only [cond_true, cond_false, Option.bind_some, hs] <;> rfl
  have hk : ∀ n : Int, k ≠ n → (k == n) = false := fun n h => by simpa using h
  simp only [hk 1 c1, hk 2 c2, hk 3 c3, hk 4 c4, hk 5 c5, hk 6 c6, hk 7 c7, hk 8 c8, hk 9 c9, cond_false, Bool.or_false, Option.bind_some, hs]
  rfl
end Go.Proofs.Pure

/- Records: what those are that may be, and how great their frames are. -/
namespace Go.Proofs.Pure
open Go.Proofs.D Go.Proofs.F

def recO (c n : Int) (k : Ky) (d : Int) : Rc := (c, (0, (n, (0, (false, (k, (d, (0, (prgZ, ())))))))))
def recB2 (s n step : Int) (comp : Bool) : Rc := (2, (s, (n, (step, (comp, (kyZ, (0, (0, (prgZ, ())))))))))
theorem sameP_z {p : Prg} (h : sameP p prgZ = true) : p = prgZ := by
  obtain ⟨a, b, c, l, t, o, d, e, f, g, u⟩ := p
  unfold sameP prgZ at h
  simp only [sameL_nil, sameT_nil, Bool.and_eq_true, beq_iff_eq] at h
  obtain ⟨h1, h2, h3, h4, h5, h6, h7, h8, h9, h10⟩ := h
  have l0 : l = [] := List.length_eq_zero_iff.1 (by omega)
  have t0 : t = [] := List.length_eq_zero_iff.1 (by omega)
  have o0 : o = [] := List.length_eq_zero_iff.1 (by omega)
  subst h1 h2 h3 l0 t0 o0 h7 h8 h9 h10
  rfl
theorem eqKey_z {k k2 : Ky} (h : eqE kKey k k2 = true) : k = k2 := by
  have h : ((k.1 == k2.1) && ((k.2.1 == k2.2.1) && ((k.2.2.1 == k2.2.2.1) && true))) = true := h
  simp only [Bool.and_eq_true, beq_iff_eq] at h
  obtain ⟨a, b, c, u⟩ := k
  obtain ⟨a2, b2, c2, u2⟩ := k2
  simp only at h
  obtain ⟨rfl, rfl, rfl, _⟩ := h
  rfl
theorem sameR_z {r q : Rc} (h : sameR r q = true) (hp : q.2.2.2.2.2.2.2.2.1 = prgZ) : r = q := by
  obtain ⟨k, saga, txn, step, back, key, delta, out, p, u⟩ := r
  obtain ⟨k2, saga2, txn2, step2, back2, key2, delta2, out2, p2, u2⟩ := q
  simp only at hp
  subst hp
  unfold sameR at h
  simp only [Bool.and_eq_true, beq_iff_eq] at h
  obtain ⟨rfl, rfl, rfl, rfl, rfl, h6, rfl, rfl, h9⟩ := h
  rw [sameP_z h9, eqKey_z h6]
theorem good_two {r : Rc} (h : recB r = true) (hk : r.1 = 2) : r = recB2 r.2.1 r.2.2.1 r.2.2.2.1 r.2.2.2.2.1 ∧ r.2.2.1 ≠ 0 := by
  unfold recB ownR at h
  rw [hk] at h
  simp only [show ((2 : Int) == 1) = false from rfl, beq_self_eq_true, cond_true, cond_false, Bool.and_eq_true, bne_iff_ne] at h
  exact ⟨sameR_z h.2 rfl, h.1.2.1⟩
theorem good_op {r : Rc} (h : recB r = true) (hk : r.1 = 3 ∨ r.1 = 6) : r = recO r.1 r.2.2.1 r.2.2.2.2.2.1 r.2.2.2.2.2.2.1 ∧ r.2.2.1 ≠ 0 ∧ -9223372036854775807 ≤ r.2.2.2.2.2.2.1 := by
  unfold recB ownR at h
  rcases hk with hk | hk <;> rw [hk] at h ⊢ <;>
  simp only [show ((3 : Int) == 1) = false from rfl, show ((3 : Int) == 2) = false from rfl, show ((6 : Int) == 1) = false from rfl, show ((6 : Int) == 2) = false from rfl, show ((6 : Int) == 3) = false from rfl, beq_self_eq_true, cond_true, cond_false, Bool.true_or, Bool.or_true, Bool.and_eq_true, bne_iff_ne, decide_eq_true_eq] at h <;>
  exact ⟨sameR_z h.2 rfl, h.1.1, h.1.2.2.2⟩
theorem good_bare {r : Rc} (h : recB r = true) (hk : r.1 = 4 ∨ r.1 = 5 ∨ r.1 = 7) : r = recO r.1 r.2.2.1 kyZ 0 ∧ r.2.2.1 ≠ 0 := by
  unfold recB ownR at h
  rcases hk with hk | hk | hk <;> rw [hk] at h ⊢ <;>
  simp only [show ((4 : Int) == 1) = false from rfl, show ((4 : Int) == 2) = false from rfl, show ((4 : Int) == 3) = false from rfl, show ((4 : Int) == 6) = false from rfl, show ((5 : Int) == 1) = false from rfl, show ((5 : Int) == 2) = false from rfl, show ((5 : Int) == 3) = false from rfl, show ((5 : Int) == 6) = false from rfl, show ((5 : Int) == 4) = false from rfl, show ((7 : Int) == 1) = false from rfl, show ((7 : Int) == 2) = false from rfl, show ((7 : Int) == 3) = false from rfl, show ((7 : Int) == 6) = false from rfl, show ((7 : Int) == 4) = false from rfl, show ((7 : Int) == 5) = false from rfl, beq_self_eq_true, cond_true, cond_false, Bool.true_or, Bool.or_true, Bool.or_self, Bool.and_eq_true, bne_iff_ne] at h <;>
  exact ⟨sameR_z h.2 rfl, h.1⟩

/-! ### How great -/
theorem num4 {n : Int} (b : List Int) (hb : b.length ≤ 100) (h0 : 0 ≤ n) (h : n < 4294967296) : ∃ x y z t : Int, wW_Num () (IntKind.u64.wrap n) 4 wr0 b = some (wOut (b ++ [x, y, z, t])) := by
  have q := num4_val n b h0 h (by omega)
  have hl := leN_len 4 n
  generalize leN 4 n = y at q hl
  match y, hl with
  | [x, y, z, t], _ => exact ⟨x, y, z, t, q⟩
theorem size_op {c n : Int} {k : Ky} {d : Int} (hc : c = 3 ∨ c = 6) (h0 : 0 ≤ n) (h : n < 4294967296) (hg : rec_Good (recO c n k d) = some true) : rec_Size (recO c n k d) = some 22 := by
  obtain ⟨x, y, z, t, hN⟩ := num4 [c] (by simp) h0 h
  have hN : wW_Num () (IntKind.u64.wrap n) 4 wr0 [c] = some (wOut [c, x, y, z, t]) := hN
  unfold rec_Size rec_Encode
  rw [hg]
  rcases hc with rfl | rfl
  · show (Option.bind (Option.bind (Option.bind (wW_Num () (IntKind.u64.wrap n) 4 wr0 [3]) _) _) _) = _
    rw [hN]
    (show _ = _; kernel_rfl)
  · show (Option.bind (Option.bind (Option.bind (wW_Num () (IntKind.u64.wrap n) 4 wr0 [6]) _) _) _) = _
    rw [hN]
    (show _ = _; kernel_rfl)
theorem size_bare {c n : Int} (hc : c = 4 ∨ c = 5 ∨ c = 7) (h0 : 0 ≤ n) (h : n < 4294967296) (hg : rec_Good (recO c n kyZ 0) = some true) : rec_Size (recO c n kyZ 0) = some 11 := by
  obtain ⟨x, y, z, t, hN⟩ := num4 [c] (by simp) h0 h
  have hN : wW_Num () (IntKind.u64.wrap n) 4 wr0 [c] = some (wOut [c, x, y, z, t]) := hN
  unfold rec_Size rec_Encode
  rw [hg]
  rcases hc with rfl | rfl | rfl
  · show (Option.bind (Option.bind (Option.bind (wW_Num () (IntKind.u64.wrap n) 4 wr0 [4]) _) _) _) = _
    rw [hN]
    (show _ = _; kernel_rfl)
  · show (Option.bind (Option.bind (Option.bind (wW_Num () (IntKind.u64.wrap n) 4 wr0 [5]) _) _) _) = _
    rw [hN]
    (show _ = _; kernel_rfl)
  · show (Option.bind (Option.bind (Option.bind (wW_Num () (IntKind.u64.wrap n) 4 wr0 [7]) _) _) _) = _
    rw [hN]
    (show _ = _; kernel_rfl)
theorem size_two {s n step : Int} {comp : Bool} (s0 : 0 ≤ s) (s1 : s < 4294967296) (h0 : 0 ≤ n) (h : n < 4294967296) (hg : rec_Good (recB2 s n step comp) = some true) : rec_Size (recB2 s n step comp) = some 17 := by
  obtain ⟨x, y, z, t, hS⟩ := num4 [2] (by simp) s0 s1
  obtain ⟨x2, y2, z2, t2, hN⟩ := num4 [2, x, y, z, t] (by simp) h0 h
  unfold rec_Size rec_Encode
  rw [hg]
  have hS : wW_Num () (IntKind.u64.wrap s) 4 ((0, ()), ((), (512, ()))) [2] = some ((), (((0, ()), ((), (512, ()))), ((), ([2, x, y, z, t], ())))) := hS
  have hN : wW_Num () (IntKind.u64.wrap n) 4 ((0, ()), ((), (512, ()))) [2, x, y, z, t] = some ((), (((0, ()), ((), (512, ()))), ((), ([2, x, y, z, t, x2, y2, z2, t2], ())))) := hN
  have a1 : wire_New 512 = some ((), (((0, ()), ((), (512, ()))), ())) := by kernel_rfl
  have a2 : wW_Raw () [2] ((0, ()), ((), (512, ()))) [] = some ((), (((0, ()), ((), (512, ()))), ((), ([2], ())))) := by kernel_rfl
  have a3 : rec_ofSaga 2 = some true := by kernel_rfl
  have a4 : rec_ofTxn 2 = some true := by kernel_rfl
  simp only [recB2, Option.bind_some, Bool.not_true, cond_false, cond_true, a1, a2, a3, a4, hS, hN]
  cases comp <;> (show _ = _; kernel_rfl)
end Go.Proofs.Pure

/- How great a record's frame is, as the document says. -/
namespace Go.Proofs.Pure
open Go.Proofs.D Go.Proofs.F

theorem refNum4_ex {n : Int} (h0 : 0 ≤ n) (h : n < 4294967296) : ∃ x y z t : Int, ref03_Num (IntKind.u64.wrap n) 4 = some ((), ([x, y, z, t], ())) := by
  have q := refNum4_val n h0 h
  have hl := leN_len 4 n
  generalize leN 4 n = y at q hl
  match y, hl with
  | [x, y, z, t], _ => exact ⟨x, y, z, t, q⟩
theorem refInt_ex (d : Int) : ∃ a b c e f g h i : Int, ref03_Int d = some [a, b, c, e, f, g, h, i] := by
  have q := refInt_val d
  have hl := le8_len d
  generalize le8 d = y at q hl
  match y, hl with
  | [a, b, c, e, f, g, h, i], _ => exact ⟨a, b, c, e, f, g, h, i, q⟩
theorem refBytes_op3 (n : Int) (k : Ky) (d : Int) : ref14_Bytes (recO 3 n k d) = (ref03_Num (IntKind.u64.wrap 0) 4).bind fun r14 => (ref03_Num (IntKind.u64.wrap n) 4).bind fun r15 => room (1 + r15.2.1.length) (room (([3] ++ r15.2.1).length + 3) ((ref03_Int d).bind fun r20 => room ((([3] ++ r15.2.1) ++ [k.1, k.2.1, k.2.2.1]).length + r20.length) (some ((([3] ++ r15.2.1) ++ [k.1, k.2.1, k.2.2.1]) ++ r20)))) := by (show _ = _; kernel_rfl)
theorem refBytes_op6 (n : Int) (k : Ky) (d : Int) : ref14_Bytes (recO 6 n k d) = (ref03_Num (IntKind.u64.wrap 0) 4).bind fun r14 => (ref03_Num (IntKind.u64.wrap n) 4).bind fun r15 => room (1 + r15.2.1.length) (room (([6] ++ r15.2.1).length + 3) ((ref03_Int d).bind fun r20 => room ((([6] ++ r15.2.1) ++ [k.1, k.2.1, k.2.2.1]).length + r20.length) (some ((([6] ++ r15.2.1) ++ [k.1, k.2.1, k.2.2.1]) ++ r20)))) := by (show _ = _; kernel_rfl)
theorem refsize_op {c n : Int} {k : Ky} {d : Int} (hc : c = 3 ∨ c = 6) (h0 : 0 ≤ n) (h : n < 4294967296) (hg : ref14_Good (recO c n k d) = some true) : ref14_Size (recO c n k d) = some 22 := by
  obtain ⟨x, y, z, t, hN⟩ := refNum4_ex h0 h
  obtain ⟨x2, y2, z2, t2, h2⟩ := refNum4_ex (n := 0) (by omega) (by omega)
  obtain ⟨a, b, c2, e, f, g, h3, i, hI⟩ := refInt_ex d
  unfold ref14_Size
  rw [hg, Option.bind_some]
  rcases hc with rfl | rfl
  · rw [refBytes_op3, h2, hN, hI]
    (show _ = _; kernel_rfl)
  · rw [refBytes_op6, h2, hN, hI]
    (show _ = _; kernel_rfl)
theorem refBytes_bare4 (n : Int) : ref14_Bytes (recO 4 n kyZ 0) = (ref03_Num (IntKind.u64.wrap 0) 4).bind fun r14 => (ref03_Num (IntKind.u64.wrap n) 4).bind fun r15 => room (1 + r15.2.1.length) (some ([4] ++ r15.2.1)) := by (show _ = _; kernel_rfl)
theorem refBytes_bare5 (n : Int) : ref14_Bytes (recO 5 n kyZ 0) = (ref03_Num (IntKind.u64.wrap 0) 4).bind fun r14 => (ref03_Num (IntKind.u64.wrap n) 4).bind fun r15 => room (1 + r15.2.1.length) (some ([5] ++ r15.2.1)) := by (show _ = _; kernel_rfl)
theorem refBytes_bare7 (n : Int) : ref14_Bytes (recO 7 n kyZ 0) = (ref03_Num (IntKind.u64.wrap 0) 4).bind fun r14 => (ref03_Num (IntKind.u64.wrap n) 4).bind fun r15 => room (1 + r15.2.1.length) (some ([7] ++ r15.2.1)) := by (show _ = _; kernel_rfl)
theorem refsize_bare {c n : Int} (hc : c = 4 ∨ c = 5 ∨ c = 7) (h0 : 0 ≤ n) (h : n < 4294967296) (hg : ref14_Good (recO c n kyZ 0) = some true) : ref14_Size (recO c n kyZ 0) = some 11 := by
  obtain ⟨x, y, z, t, hN⟩ := refNum4_ex h0 h
  obtain ⟨x2, y2, z2, t2, h2⟩ := refNum4_ex (n := 0) (by omega) (by omega)
  unfold ref14_Size
  rw [hg, Option.bind_some]
  rcases hc with rfl | rfl | rfl
  · rw [refBytes_bare4, h2, hN]
    (show _ = _; kernel_rfl)
  · rw [refBytes_bare5, h2, hN]
    (show _ = _; kernel_rfl)
  · rw [refBytes_bare7, h2, hN]
    (show _ = _; kernel_rfl)
theorem refBytes_two (s n step : Int) (comp : Bool) : ref14_Bytes (recB2 s n step comp) = (ref03_Num (IntKind.u64.wrap s) 4).bind fun r14 => (ref03_Num (IntKind.u64.wrap n) 4).bind fun r15 => room (1 + r14.2.1.length) (room (([2] ++ r14.2.1).length + r15.2.1.length) (room ((([2] ++ r14.2.1) ++ r15.2.1).length + 1) ((ref03_Bool comp).bind fun r18 => room (((([2] ++ r14.2.1) ++ r15.2.1) ++ [step]).length + r18.length) (some (((([2] ++ r14.2.1) ++ r15.2.1) ++ [step]) ++ r18))))) := by (show _ = _; kernel_rfl)
theorem refsize_two {s n step : Int} {comp : Bool} (s0 : 0 ≤ s) (s1 : s < 4294967296) (h0 : 0 ≤ n) (h : n < 4294967296) (hg : ref14_Good (recB2 s n step comp) = some true) : ref14_Size (recB2 s n step comp) = some 17 := by
  obtain ⟨x, y, z, t, hN⟩ := refNum4_ex h0 h
  obtain ⟨x2, y2, z2, t2, h2⟩ := refNum4_ex s0 s1
  unfold ref14_Size
  rw [hg, Option.bind_some, refBytes_two, h2, hN]
  cases comp <;> (show _ = _; kernel_rfl)
end Go.Proofs.Pure

/- Transactions in the order of their numbers, and the map that has them. -/
namespace Go.Proofs.Pure
open Go.Proofs.D Go.Proofs.F

theorem eqK_iff {a b : Int} : eqE (.int .u32) a b = true ↔ a = b := by
  have : eqE (.int .u32) a b = (a == b) := rfl
  rw [this]; simp
theorem eqK_refl (a : Int) : eqE (.int .u32) a a = true := eqK_iff.2 rfl
theorem lt_asymm {a b : Int} (h : ltOf cmp1 a b = true) : ltOf cmp1 b a = false := by
  rw [lt1, decide_eq_true_eq] at h
  rw [lt1, decide_eq_false_iff_not]; omega
theorem eqK_dec (a b : Int) : eqE (.int .u32) a b = decide (a = b) := by rw [Bool.eq_iff_iff, decide_eq_true_iff]; exact eqK_iff
/-- Keys that are each there once, sorted, rise. -/
theorem sort_rises {ks : List Int} (h1 : ks.Nodup) : (ks.mergeSort (leOf cmp1)).Pairwise fun a b => ltOf cmp1 a b = true := by
  have hp := List.mergeSort_perm ks (leOf cmp1)
  have hn := hp.nodup_iff.2 h1
  have hs : (ks.mergeSort (leOf cmp1)).Pairwise fun a b => leOf cmp1 a b = true := List.pairwise_mergeSort (fun a b c q1 q2 => by
    unfold leOf at *
    simp only [Bool.not_eq_true'] at *
    exact swo1.ntrans c b a q2 q1) (fun a b => by
    unfold leOf
    cases q1 : ltOf cmp1 b a with
    | false => rfl
    | true => rw [lt_asymm q1]; rfl) _
  refine (hs.and hn).imp fun {a b} q => ?_
  obtain ⟨q1, q2⟩ := q
  unfold leOf at q1
  simp only [Bool.not_eq_true'] at q1
  cases hq : ltOf cmp1 a b with
  | true => rfl
  | false => exact absurd (tot1 a b hq q1) q2

section
variable {α : Type} {z : α}
abbrev MV (α : Type) := List (Int × α)
abbrev RV (α : Type) := List (Int × α × Unit)
def gA (z : α) : MV α → Int → α
  | [], _ => z
  | e :: r, k => if k = e.1 then e.2 else gA z r k
def hA : MV α → Int → Bool
  | [], _ => false
  | e :: r, k => decide (k = e.1) || hA r k
def pA : MV α → Int → α → MV α
  | [], k, v => [(k, v)]
  | e :: r, k, v => if k = e.1 then (k, v) :: r else e :: pA r k v
def dA : MV α → Int → MV α
  | [], _ => []
  | e :: r, k => if k = e.1 then r else e :: dA r k
def keysM (m : MV α) : List Int := m.map fun p => p.1
def sortM (m : MV α) : List Int := (keysM m).mergeSort (leOf cmp1)
def rowsM (z : α) (m : MV α) : RV α := (sortM m).map fun k => (k, (gA z m k, ()))
def SortR (l : RV α) : Prop := l.Pairwise fun a b => ltOf cmp1 a.1 b.1 = true

theorem hasM_val (m : MV α) (k : Int) : hA m k = decide (k ∈ keysM m) := by
  induction m with
  | nil => rfl
  | cons e r ih =>
    show (decide (k = e.1) || hA r k) = decide (k ∈ e.1 :: keysM r)
    rw [ih, Bool.eq_iff_iff]
    simp
theorem getM_cons (e : Int × α) (r : MV α) (k : Int) : gA z (e :: r) k = if k = e.1 then e.2 else gA z r k := rfl
theorem putM_cons (e : Int × α) (r : MV α) (k : Int) (v : α) : pA (e :: r) k v = if k = e.1 then (k, v) :: r else e :: pA r k v := rfl
theorem delM_cons (e : Int × α) (r : MV α) (k : Int) : dA (e :: r) k = if k = e.1 then r else e :: dA r k := rfl
theorem getM_put (m : MV α) (k k' : Int) (v : α) : gA z (pA m k v) k' = if k' = k then v else gA z m k' := by
  induction m with
  | nil =>
    rfl
  | cons e r ih =>
    rw [putM_cons]
    by_cases h : k = e.1
    · rw [if_pos h, getM_cons, getM_cons]
      by_cases h2 : k' = k
      · rw [if_pos h2, if_pos h2]
      · rw [if_neg h2, if_neg h2, if_neg (fun q => h2 (q.trans h.symm))]
    · rw [if_neg h, getM_cons, getM_cons, ih]
      by_cases h2 : k' = e.1
      · rw [if_pos h2, if_pos h2, if_neg (fun q => h (q.symm.trans h2))]
      · rw [if_neg h2, if_neg h2]
theorem keys_put (m : MV α) (k : Int) (v : α) : keysM (pA m k v) = if k ∈ keysM m then keysM m else keysM m ++ [k] := by
  induction m with
  | nil => rw [if_neg (by simp [keysM])]; rfl
  | cons e r ih =>
    rw [putM_cons]
    by_cases h : k = e.1
    · rw [if_pos h, if_pos (by simp [keysM, h])]
      show k :: keysM r = e.1 :: keysM r
      rw [h]
    · rw [if_neg h]
      show e.1 :: keysM (pA r k v) = if k ∈ e.1 :: keysM r then e.1 :: keysM r else e.1 :: keysM r ++ [k]
      rw [ih]
      by_cases h2 : k ∈ keysM r
      · rw [if_pos h2, if_pos (List.mem_cons_of_mem _ h2)]
      · rw [if_neg h2, if_neg (fun q => (List.mem_cons.1 q).elim h h2)]; rfl
theorem mem_put (m : MV α) (k x : Int) (v : α) : x ∈ keysM (pA m k v) ↔ x = k ∨ x ∈ keysM m := by
  rw [keys_put]
  by_cases h : k ∈ keysM m
  · rw [if_pos h]
    exact ⟨.inr, fun q => q.elim (fun e => e ▸ h) id⟩
  · rw [if_neg h, List.mem_append, List.mem_singleton]
    exact ⟨Or.symm, Or.symm⟩
theorem nodup_put {m : MV α} (h : (keysM m).Nodup) (k : Int) (v : α) : (keysM (pA m k v)).Nodup := by
  rw [keys_put]
  by_cases q : k ∈ keysM m
  · rw [if_pos q]; exact h
  · rw [if_neg q]
    exact List.nodup_append.2 ⟨h, by simp, fun a ha b hb e => q (by rw [List.mem_singleton.1 hb] at e; exact e ▸ ha)⟩
theorem keys_del (m : MV α) (k : Int) : keysM (dA m k) = (keysM m).erase k := by
  induction m with
  | nil => rfl
  | cons e r ih =>
    rw [delM_cons]
    show _ = (e.1 :: keysM r).erase k
    by_cases h : k = e.1
    · rw [if_pos h, h, List.erase_cons_head]
    · rw [if_neg h, List.erase_cons_tail (by simpa using fun q : e.1 = k => h q.symm)]
      show e.1 :: keysM (dA r k) = _
      rw [ih]
theorem getM_del (m : MV α) (k k' : Int) (hne : k' ≠ k) : gA z (dA m k) k' = gA z m k' := by
  induction m with
  | nil => rfl
  | cons e r ih =>
    rw [delM_cons, getM_cons]
    by_cases h : k = e.1
    · rw [if_pos h, if_neg (fun q => hne (q.trans h.symm))]
    · rw [if_neg h, getM_cons, ih]
theorem sortM_len (m : MV α) : (sortM m).length = m.length := by
  unfold sortM keysM
  rw [List.length_mergeSort, List.length_map]
theorem mem_sortM (m : MV α) (k : Int) : k ∈ sortM m ↔ k ∈ keysM m := (List.mergeSort_perm _ _).mem_iff
theorem rows_len (m : MV α) : (rowsM z m).length = m.length := by unfold rowsM; rw [List.length_map, sortM_len]
theorem rows_sorted {m : MV α} (h : (keysM m).Nodup) : SortR (rowsM z m) := by
  unfold SortR rowsM
  rw [List.pairwise_map]
  exact sort_rises h
theorem mem_rows {m : MV α} (x : Int × α × Unit) : x ∈ rowsM z m ↔ x.1 ∈ keysM m ∧ x.2.1 = gA z m x.1 := by
  unfold rowsM
  rw [List.mem_map]
  constructor
  · rintro ⟨k, hk, rfl⟩
    exact ⟨(mem_sortM m k).1 hk, rfl⟩
  · rintro ⟨h1, h2⟩
    obtain ⟨x1, x2, u⟩ := x
    have h2 : x2 = gA z m x1 := h2
    subst h2
    exact ⟨x1, (mem_sortM m _).2 h1, rfl⟩
theorem SortR.nodup {l : RV α} (h : SortR l) : l.Nodup := h.imp fun {a b} q e => by
  subst e; rw [swo1.irrefl] at q; cases q
theorem rows_unique {l l' : RV α} (h : SortR l) (h' : SortR l') (hm : ∀ x, x ∈ l ↔ x ∈ l') : l = l' := by
  have n1 : l.Nodup := SortR.nodup h
  have n2 : l'.Nodup := SortR.nodup h'
  have hp : l.Perm l' := (List.perm_ext_iff_of_nodup n1 n2).2 hm
  have h1 : l.Pairwise fun a b => ltOf cmp1 a.1 b.1 = true := h
  have h2 : l'.Pairwise fun a b => ltOf cmp1 a.1 b.1 = true := h'
  have hany : ∀ a b : Int × α × Unit, a ∈ l → b ∈ l' → ltOf cmp1 a.1 b.1 = true → ltOf cmp1 b.1 a.1 = true → a = b := fun a b _ _ q1 q2 => by
    rw [lt_asymm q1] at q2; cases q2
  exact List.Perm.eq_of_pairwise hany h1 h2 hp
theorem SortR.head {x : Int × α × Unit} {l : RV α} (h : SortR (x :: l)) : ∀ y ∈ l, ltOf cmp1 x.1 y.1 = true := (List.pairwise_cons.1 h).1
theorem SortR.tail {x : Int × α × Unit} {l : RV α} (h : SortR (x :: l)) : SortR l := (List.pairwise_cons.1 h).2

/-- A row more, at its place. -/
def insS (k : Int) (v : α) : RV α → RV α
  | [] => [(k, (v, ()))]
  | x :: l => if ltOf cmp1 x.1 k = true then x :: insS k v l else if x.1 = k then (k, (v, ())) :: l else (k, (v, ())) :: x :: l
theorem insS_mem (k : Int) (v : α) : ∀ (l : RV α), SortR l → ∀ x, x ∈ insS k v l ↔ x = (k, (v, ())) ∨ (x ∈ l ∧ x.1 ≠ k)
  | [], _, x => by simp [insS]
  | e :: l, h, x => by
    rw [insS]
    by_cases h1 : ltOf cmp1 e.1 k = true
    · have hne : e.1 ≠ k := fun q => by rw [q, swo1.irrefl] at h1; cases h1
      rw [if_pos h1, List.mem_cons, insS_mem k v l h.tail, List.mem_cons]
      constructor
      · rintro (q | q | ⟨q1, q2⟩)
        · exact .inr ⟨.inl q, by rw [q]; exact hne⟩
        · exact .inl q
        · exact .inr ⟨.inr q1, q2⟩
      · rintro (q | ⟨q1 | q1, q2⟩)
        · exact .inr (.inl q)
        · exact .inl q1
        · exact .inr (.inr ⟨q1, q2⟩)
    · rw [if_neg h1]
      by_cases h2 : e.1 = k
      · rw [if_pos h2, List.mem_cons, List.mem_cons]
        constructor
        · rintro (q | q)
          · exact .inl q
          · refine .inr ⟨.inr q, fun e' => ?_⟩
            have := h.head x q
            rw [h2, e', swo1.irrefl] at this; cases this
        · rintro (q | ⟨q1 | q1, q2⟩)
          · exact .inl q
          · exact absurd (by rw [q1]; exact h2) q2
          · exact .inr q1
      · rw [if_neg h2, List.mem_cons, List.mem_cons]
        have hlt : ltOf cmp1 k e.1 = true := by
          cases hq : ltOf cmp1 k e.1 with
          | true => rfl
          | false => exact absurd (tot1 e.1 k (by simpa using h1) hq) h2
        constructor
        · rintro (q | q | q)
          · exact .inl q
          · exact .inr ⟨.inl q, by rw [q]; exact h2⟩
          · refine .inr ⟨.inr q, fun e' => ?_⟩
            have := swo1.trans _ _ _ hlt (h.head x q)
            rw [e', swo1.irrefl] at this; cases this
        · rintro (q | ⟨q1 | q1, q2⟩)
          · exact .inl q
          · exact .inr (.inl q1)
          · exact .inr (.inr q1)
theorem insS_sorted (k : Int) (v : α) : ∀ (l : RV α), SortR l → SortR (insS k v l)
  | [], _ => List.pairwise_singleton _ _
  | e :: l, h => by
    rw [insS]
    by_cases h1 : ltOf cmp1 e.1 k = true
    · rw [if_pos h1]
      refine List.pairwise_cons.2 ⟨fun y hy => ?_, insS_sorted k v l h.tail⟩
      rcases (insS_mem k v l h.tail y).1 hy with q | ⟨q, _⟩
      · rw [q]; exact h1
      · exact h.head y q
    · rw [if_neg h1]
      by_cases h2 : e.1 = k
      · rw [if_pos h2]
        exact List.pairwise_cons.2 ⟨fun y hy => by show ltOf cmp1 k y.1 = true; rw [← h2]; exact h.head y hy, h.tail⟩
      · rw [if_neg h2]
        have hlt : ltOf cmp1 k e.1 = true := by
          cases hq : ltOf cmp1 k e.1 with
          | true => rfl
          | false => exact absurd (tot1 e.1 k (by simpa using h1) hq) h2
        refine List.pairwise_cons.2 ⟨fun y hy => ?_, h⟩
        rcases List.mem_cons.1 hy with q | q
        · rw [q]; exact hlt
        · exact swo1.trans _ _ _ hlt (h.head y q)
theorem rows_put {m : MV α} (h : (keysM m).Nodup) (k : Int) (v : α) : rowsM z (pA m k v) = insS k v (rowsM z m) := by
  refine rows_unique (rows_sorted (nodup_put h k v)) (insS_sorted k v _ (rows_sorted h)) fun x => ?_
  rw [mem_rows, insS_mem k v _ (rows_sorted h), mem_put, getM_put, mem_rows]
  obtain ⟨x1, x2, -⟩ := x
  show (x1 = k ∨ x1 ∈ keysM m) ∧ x2 = (if x1 = k then v else gA z m x1) ↔ ((x1, (x2, ())) = (k, (v, ()))) ∨ (x1 ∈ keysM m ∧ x2 = gA z m x1) ∧ x1 ≠ k
  by_cases q : x1 = k
  · subst q
    rw [if_pos rfl]
    constructor
    · rintro ⟨-, e⟩; exact .inl (by rw [e])
    · rintro (e | ⟨-, e⟩)
      · cases e; exact ⟨.inl rfl, rfl⟩
      · exact absurd rfl e
  · rw [if_neg q]
    constructor
    · rintro ⟨e | e, e2⟩
      · exact absurd e q
      · exact .inr ⟨⟨e, e2⟩, q⟩
    · rintro (e | ⟨⟨e, e2⟩, -⟩)
      · cases e; exact absurd rfl q
      · exact ⟨.inr e, e2⟩
theorem rows_del {m : MV α} (h : (keysM m).Nodup) (k : Int) : rowsM z (dA m k) = (rowsM z m).filter fun x => decide (x.1 ≠ k) := by
  have hk := keys_del m k
  refine rows_unique (rows_sorted (by rw [hk]; exact h.erase k)) ((rows_sorted h).sublist List.filter_sublist) fun x => ?_
  rw [mem_rows, List.mem_filter, mem_rows, hk, h.mem_erase_iff, decide_eq_true_eq]
  constructor
  · rintro ⟨⟨a, b⟩, c⟩
    rw [getM_del m k x.1 a] at c
    exact ⟨⟨b, c⟩, a⟩
  · rintro ⟨⟨b, c⟩, a⟩
    rw [getM_del m k x.1 a]
    exact ⟨⟨a, b⟩, c⟩
/-- A key's row. -/
theorem rows_find {m : MV α} (k : Int) : (rowsM z m).find? (fun x => eqE (.int .u32) x.1 k) = if k ∈ keysM m then some (k, (gA z m k, ())) else none := by
  by_cases h : k ∈ keysM m
  · rw [if_pos h]
    have hm : (k, (gA z m k, ())) ∈ rowsM z m := (mem_rows _).2 ⟨h, rfl⟩
    cases hf : (rowsM z m).find? (fun x => eqE (.int .u32) x.1 k) with
    | none => have := (List.find?_eq_none.1 hf) _ hm; exact absurd (eqK_refl k) this
    | some y =>
      have h1 := List.find?_some hf
      have h2 := (mem_rows y).1 (List.mem_of_find?_eq_some hf)
      have h3 : y.1 = k := eqK_iff.1 h1
      obtain ⟨y1, y2, u⟩ := y
      have e3 : y1 = k := h3
      have h4 : y2 = gA z m y1 := h2.2
      rw [h4, e3]
  · rw [if_neg h, List.find?_eq_none]
    intro x hx hq
    have := ((mem_rows x).1 hx).1
    rw [eqK_iff.1 hq] at this
    exact h this
end
end Go.Proofs.Pure

/- A journal and the document's list of transactions: what is put in, what is told. -/
namespace Go.Proofs.Pure
open Go.Proofs.D Go.Proofs.F

abbrev OpE := (Int × Int × Int × Unit) × Int × Unit
abbrev TxE := Int × Int × Int × Bool × Bool × List OpE × Int × Int × Unit
abbrev JnE := List (Int × TxE)
def txZ : TxE := (0, (0, (0, (false, (false, ([], (0, (0, ()))))))))
def jOf (l : JnE) : (Unit × Unit) × JnE × Unit := (((), ()), (l, ()))
theorem eqK_d (a b : Int) : eqE (.int .u32) a b = decide (a = b) := eqK_dec a b

/-! ### The list in order -/
def insT (t : TxE) : List TxE → List TxE
  | [] => [t]
  | u :: r => if u.1 < t.1 then u :: insT t r else if u.1 = t.1 then t :: r else t :: u :: r
/-- With, as the document has it. -/
def wT (t : TxE) : List TxE → List TxE
  | [] => [t]
  | u :: r => if u.1 > t.1 then t :: u :: r else u :: wT t r
abbrev Rise (x : List TxE) : Prop := x.Pairwise fun a b => a.1 < b.1
theorem wT_ins (t : TxE) : ∀ x : List TxE, Rise x → wT t (x.filter fun u => u.1 != t.1) = insT t x
  | [], _ => rfl
  | u :: r, h => by
    have h1 := List.pairwise_cons.1 h
    unfold insT
    by_cases c : u.1 < t.1
    · rw [if_pos c, List.filter_cons_of_pos (by simp; omega)]
      unfold wT
      rw [if_neg (by omega), wT_ins t r h1.2]
    · rw [if_neg c]
      have hr : (r.filter fun u => u.1 != t.1) = r := List.filter_eq_self.2 fun y hy => by have := h1.1 y hy; simp; omega
      by_cases e : u.1 = t.1
      · rw [if_pos e, List.filter_cons_of_neg (by simp [e]), hr]
        cases r with
        | nil => rfl
        | cons y r =>
          have := h1.1 y List.mem_cons_self
          unfold wT
          rw [if_pos (by omega)]
      · rw [if_neg e, List.filter_cons_of_pos (by simp [e]), hr]
        unfold wT
        rw [if_pos (by omega)]
theorem insT_len (t : TxE) : ∀ x : List TxE, (insT t x).length ≤ x.length + 1
  | [] => by simp [insT]
  | u :: r => by
    have := insT_len t r
    unfold insT; split
    · simp; omega
    · split <;> simp
theorem insT_mem (t : TxE) : ∀ x : List TxE, ∀ y ∈ insT t x, y = t ∨ y ∈ x
  | [], y, hy => by simp [insT] at hy; exact .inl hy
  | u :: r, y, hy => by
    unfold insT at hy; split at hy
    · rcases List.mem_cons.1 hy with e | e
      · exact .inr (by rw [e]; exact List.mem_cons_self)
      · exact (insT_mem t r y e).imp id (List.mem_cons_of_mem _)
    · split at hy
      · rcases List.mem_cons.1 hy with e | e
        · exact .inl e
        · exact .inr (List.mem_cons_of_mem _ e)
      · rcases List.mem_cons.1 hy with e | e
        · exact .inl e
        · exact .inr e
theorem insT_rise (t : TxE) : ∀ x : List TxE, Rise x → Rise (insT t x)
  | [], _ => by simp [insT]
  | u :: r, h => by
    have h1 := List.pairwise_cons.1 h
    unfold insT; split
    · rename_i c
      refine List.pairwise_cons.2 ⟨fun y hy => ?_, insT_rise t r h1.2⟩
      rcases insT_mem t r y hy with e | e
      · rw [e]; exact c
      · exact h1.1 y e
    · split
      · rename_i c e
        exact List.pairwise_cons.2 ⟨fun y hy => by have := h1.1 y hy; omega, h1.2⟩
      · rename_i c e
        refine List.pairwise_cons.2 ⟨fun y hy => ?_, h⟩
        rcases List.mem_cons.1 hy with q | q
        · rw [q]; omega
        · have := h1.1 y q; omega
def rowT (t : TxE) : Int × TxE × Unit := (t.1, (t, ()))
theorem insS_rows (t : TxE) : ∀ x : List TxE, insS t.1 t (x.map rowT) = (insT t x).map rowT
  | [] => rfl
  | u :: r => by
    show (if ltOf cmp1 u.1 t.1 = true then rowT u :: insS t.1 t (r.map rowT) else if u.1 = t.1 then (t.1, (t, ())) :: r.map rowT else (t.1, (t, ())) :: rowT u :: r.map rowT) = _
    unfold insT
    rw [lt1, insS_rows t r]
    by_cases c : u.1 < t.1
    · rw [if_pos (by simpa using c), if_pos c]; rfl
    · rw [if_neg (by simpa using c), if_neg c]
      by_cases e : u.1 = t.1
      · rw [if_pos e, if_pos e]; rfl
      · rw [if_neg e, if_neg e]; rfl

/-! ### The document's loops -/
theorem fold_filter (p : TxE → Bool) : ∀ (l acc : List TxE), l.foldl (fun a u => if p u then a ++ [u] else a) acc = acc ++ l.filter p
  | [], acc => by simp
  | u :: l, acc => by
    rw [List.foldl_cons, fold_filter p l]
    cases h : p u <;> simp [h]
theorem without_val (x : List TxE) (id : Int) (hl : x.length ≤ 1000) : ref19_Without x id = some (x.filter fun u => u.1 != id) := by
  unfold ref19_Without
  have := loop_walk (step := ref19_Without.l1) x (fun i (a : List TxE) => ((x, (id, ((), (i : Int)))), (a, ()))) (fun _ u a => .inl (if (u.1 != id) = true then a ++ [u] else a)) (fun a => ((), (a, ()))) (fun i a => a.length ≤ i) [] (by omega) (by simp) (fun i y a hx hi => by
    have hlt := get_lt hx
    refine ⟨?_, fun b hb => by cases hb; split <;> (try simp only [List.length_append, List.length_singleton]) <;> omega⟩
    unfold ref19_Without.l1
    simp only [dec_t (show (i : Int) < (x.length : Int) by omega), cond_true]
    rw [nthK_get hx, nthK_get hx, room_ok (by simp; omega), succ_i64 (by omega)]
    cases hc : ((y.1 : Int) != id) <;> simp [hc]) (fun a _ => by
    unfold ref19_Without.l1
    simp only [dec_f (show ¬ (x.length : Int) < (x.length : Int) by omega), cond_false])
  rw [show (((0 : Nat) : Int)) = 0 from rfl] at this
  rw [this, walk_foldl (fun (a : List TxE) (u : TxE) => if (u.1 != id) = true then a ++ [u] else a), fold_filter]
  rfl
def wAcc (t : TxE) (s : Bool × List TxE) (u : TxE) : Bool × List TxE := if s.1 = false ∧ u.1 > t.1 then (true, s.2 ++ [t] ++ [u]) else (s.1, s.2 ++ [u])
def wEnd (t : TxE) (s : Bool × List TxE) : List TxE := if s.1 = false then s.2 ++ [t] else s.2
theorem wAcc_done (t : TxE) : ∀ (l a : List TxE), l.foldl (wAcc t) (true, a) = (true, a ++ l)
  | [], a => by simp
  | u :: l, a => by
    rw [List.foldl_cons]
    unfold wAcc at *
    rw [if_neg (by simp)]
    exact (wAcc_done t l (a ++ [u])).trans (by simp)
theorem wAcc_all (t : TxE) : ∀ (l a : List TxE), wEnd t (l.foldl (wAcc t) (false, a)) = a ++ wT t l
  | [], a => rfl
  | u :: l, a => by
    rw [List.foldl_cons]
    by_cases c : u.1 > t.1
    · have e : wAcc t (false, a) u = (true, a ++ [t] ++ [u]) := if_pos ⟨rfl, c⟩
      rw [e, wAcc_done]
      unfold wT wEnd
      rw [if_pos c]; simp
    · have e : wAcc t (false, a) u = (false, a ++ [u]) := if_neg (by simp; omega)
      rw [e, wAcc_all t l, show wT t (u :: l) = if u.1 > t.1 then t :: u :: l else u :: wT t l from rfl, if_neg c]; simp
theorem with_val (x : List TxE) (t : TxE) (hl : x.length ≤ 1000) (hr : Rise x) : ref19_With x t = some (insT t x) := by
  unfold ref19_With
  refine (bind_of (without_val x t.1 hl)).trans ?_
  rw [← wT_ins t x hr]
  have hl2 : (x.filter fun u => u.1 != t.1).length ≤ 1000 := Nat.le_trans (List.length_filter_le _ _) hl
  generalize (x.filter fun u => u.1 != t.1) = y at hl2 ⊢
  have := loop_walk (step := ref19_With.l1) y (fun i (s : Bool × List TxE) => ((y, ((), ((), (s.1, (i : Int))))), (t, (s.2, ())))) (fun _ u s => .inl (wAcc t s u)) (fun s => (((), ((), s.1)), (t, (s.2, ())))) (fun i s => s.2.length ≤ 2 * i) (false, []) (by omega) (by simp) (fun i u s hx hi => by
    have hlt := get_lt hx
    obtain ⟨d, a⟩ := s
    refine ⟨?_, fun b hb => by cases hb; unfold wAcc; split <;> simp at hi ⊢ <;> omega⟩
    unfold ref19_With.l1 wAcc
    simp only [dec_t (show (i : Int) < (y.length : Int) by omega), cond_true]
    rw [nthK_get hx, nthK_get hx, nthK_get hx]
    simp only at hi
    rw [succ_i64 (by omega)]
    cases d with
    | true => rw [room_ok (show a.length + [u].length ≤ 4294967296 by simp; omega)]; rfl
    | false =>
      by_cases c : u.1 > t.1
      · rw [dec_t c, if_pos ⟨rfl, c⟩, room_ok (show a.length + [t].length ≤ 4294967296 by simp; omega), room_ok (show (a ++ [t]).length + [u].length ≤ 4294967296 by simp; omega)]; rfl
      · rw [dec_f c, if_neg (by simp; omega), room_ok (show a.length + [u].length ≤ 4294967296 by simp; omega)]; rfl) (fun s _ => by
    unfold ref19_With.l1
    simp only [dec_f (show ¬ (y.length : Int) < (y.length : Int) by omega), cond_false])
  rw [show (((0 : Nat) : Int)) = 0 from rfl] at this
  rw [walk_foldl (wAcc t)] at this
  refine (bind_of this).trans ?_
  have hall := wAcc_all t y []
  have hlen : (y.foldl (wAcc t) (false, [])).2.length ≤ 2 * y.length := by
    have : ∀ (l : List TxE) (s : Bool × List TxE), (l.foldl (wAcc t) s).2.length ≤ s.2.length + 2 * l.length := by
      intro l
      induction l with
      | nil => intro s; simp
      | cons u l ih =>
        intro s
        rw [List.foldl_cons]
        have h1 := ih (wAcc t s u)
        have h2 : (wAcc t s u).2.length ≤ s.2.length + 2 := by unfold wAcc; split <;> simp
        simp only [List.length_cons]; omega
    have := this y (false, [])
    simpa using this
  generalize y.foldl (wAcc t) (false, []) = s at hall hlen ⊢
  obtain ⟨d, a⟩ := s
  unfold wEnd at hall
  simp only [List.nil_append] at hall hlen
  rw [← hall]
  cases d with
  | true => rfl
  | false =>
    show room (a.length + [t].length) (some (a ++ [t])) = _
    rw [room_ok (by simp; omega)]; rfl

/-! ### A journal of some transactions -/
def mapOf (l : List TxE) : JnE := l.foldl (fun m t => pA m t.1 t) []
def listOf (l : List TxE) : List TxE := l.foldl (fun x t => insT t x) []
theorem refNew_val (l : List TxE) (hl : l.length ≤ 900) : ref19_New l = some (listOf l) ∧ Rise (listOf l) ∧ (listOf l).length ≤ l.length := by
  have h := loop_walk (step := ref19_New.l1) l (fun i (a : List TxE) => (l, (a, (i : Int)))) (fun _ u a => .inl (insT u a)) (fun a => a) (fun i a => a.length ≤ i ∧ Rise a) [] (by omega) ⟨by simp, List.Pairwise.nil⟩ (fun i y a hx hi => by
    have hlt := get_lt hx
    refine ⟨?_, fun b hb => by cases hb; exact ⟨by have := insT_len y a; omega, insT_rise y a hi.2⟩⟩
    unfold ref19_New.l1
    simp only [dec_t (show (i : Int) < (l.length : Int) by omega), cond_true]
    rw [nthK_get hx, with_val a y (by omega) hi.2, Option.bind_some, succ_i64 (by omega)]) (fun a _ => by
    unfold ref19_New.l1
    simp only [dec_f (show ¬ (l.length : Int) < (l.length : Int) by omega), cond_false])
  rw [show (((0 : Nat) : Int)) = 0 from rfl, walk_foldl (fun a u => insT u a)] at h
  have h2 : ∀ (k a : List TxE), Rise a → Rise (k.foldl (fun x t => insT t x) a) ∧ (k.foldl (fun x t => insT t x) a).length ≤ a.length + k.length := by
    intro k
    induction k with
    | nil => intro a ha; exact ⟨ha, by simp⟩
    | cons u k ih =>
      intro a ha
      obtain ⟨g1, g2⟩ := ih (insT u a) (insT_rise u a ha)
      have := insT_len u a
      exact ⟨g1, by simp only [List.foldl_cons, List.length_cons]; omega⟩
  obtain ⟨g1, g2⟩ := h2 l [] List.Pairwise.nil
  refine ⟨?_, g1, by show (l.foldl (fun x t => insT t x) []).length ≤ _; simpa using g2⟩
  unfold ref19_New
  exact (bind_of h).trans rfl
theorem apart_val (t : TxE) (h : t.2.2.2.2.2.1.length ≤ 4294967296) : journal_apart t = some t := by
  show (bif Nat.ble t.2.2.2.2.2.1.length 4294967296 then some _ else none) = _
  rw [Nat.ble_eq_true_of_le h]; rfl
theorem put_pA : ∀ (m : JnE) (k : Int) (t : TxE), (putM (.int .u32) kTxn m k t : JnE) = pA m k t
  | [], k, t => rfl
  | e :: r, k, t => by
    have h1 : (putM (.int .u32) kTxn (e :: r : JnE) k t : JnE) = bif eqE (.int .u32) k e.1 then (k, t) :: r else e :: (putM (.int .u32) kTxn r k t : JnE) := rfl
    have h2 : (bif eqE (.int .u32) k e.1 then (k, t) :: r else e :: pA r k t : JnE) = pA (e :: r) k t := by
      rw [eqK_d, putM_cons]
      by_cases c : k = e.1 <;> simp [c]
    exact (h1.trans (congrArg (fun z : JnE => (bif eqE (.int .u32) k e.1 then (k, t) :: r else e :: z : JnE)) (put_pA r k t))).trans h2
theorem get_gA : ∀ (m : JnE) (k : Int), (getM (.int .u32) kTxn m k : TxE) = gA txZ m k
  | [], k => rfl
  | e :: r, k => by
    have h1 : (getM (.int .u32) kTxn (e :: r : JnE) k : TxE) = bif eqE (.int .u32) k e.1 then e.2 else (getM (.int .u32) kTxn r k : TxE) := rfl
    have h2 : (bif eqE (.int .u32) k e.1 then e.2 else gA txZ r k : TxE) = gA txZ (e :: r) k := by
      rw [eqK_d, getM_cons]
      by_cases c : k = e.1 <;> simp [c]
    exact (h1.trans (congrArg (fun z : TxE => (bif eqE (.int .u32) k e.1 then e.2 else z : TxE)) (get_gA r k))).trans h2
theorem has_hA : ∀ (m : JnE) (k : Int), hasM (.int .u32) kTxn m k = hA m k
  | [], k => rfl
  | e :: r, k => by
    have h1 : hasM (.int .u32) kTxn (e :: r : JnE) k = (eqE (.int .u32) k e.1 || hasM (.int .u32) kTxn r k) := rfl
    have h2 : (eqE (.int .u32) k e.1 || hA r k) = hA (e :: r) k := by rw [eqK_d]; rfl
    exact (h1.trans (congrArg (fun z => (eqE (.int .u32) k e.1 || z)) (has_hA r k))).trans h2
theorem newJ_val (l : List TxE) (hl : l.length ≤ 900) (hs : ∀ t ∈ l, t.2.2.2.2.2.1.length ≤ 20) : journal_New l = some ((), jOf (mapOf l)) := by
  have h := loop_walk (step := journal_New.l1) l (fun i (m : JnE) => (((), (l, ((l.length : Int), (i : Int)))), (((), ()), (m, ())))) (fun _ u m => .inl (pA m u.1 u)) (fun m => ((), jOf m)) (fun _ _ => True) [] (by omega) trivial (fun i y m hx _ => by
    have hlt := get_lt hx
    refine ⟨?_, fun _ _ => trivial⟩
    unfold journal_New.l1
    simp only [dec_t (show (i : Int) < (l.length : Int) by omega), cond_true]
    rw [nthK_get hx, apart_val y (by have := hs y (get_mem hx); omega), Option.bind_some, succ_i64 (by omega), put_pA]) (fun m _ => by
    unfold journal_New.l1
    simp only [dec_f (show ¬ (l.length : Int) < (l.length : Int) by omega), cond_false]
    rfl)
  rw [show (((0 : Nat) : Int)) = 0 from rfl, walk_foldl (fun m (u : TxE) => pA m u.1 u)] at h
  unfold journal_New
  exact (bind_of h).trans rfl

/-- A journal has what the document's list has. -/
structure JR (m : JnE) (x : List TxE) : Prop where
  nd : (keysM m).Nodup
  rows : rowsM txZ m = x.map rowT
theorem JR.put {m : JnE} {x : List TxE} (h : JR m x) (t : TxE) : JR (pA m t.1 t) (insT t x) := ⟨nodup_put h.nd t.1 t, by rw [rows_put h.nd, h.rows, insS_rows]⟩
theorem JR.nil : JR [] [] := ⟨List.nodup_nil, by unfold rowsM sortM keysM; simp⟩
theorem JR.new (l : List TxE) : JR (mapOf l) (listOf l) := by
  have : ∀ (k : List TxE) (m : JnE) (x : List TxE), JR m x → JR (k.foldl (fun m t => pA m t.1 t) m) (k.foldl (fun x t => insT t x) x) := by
    intro k
    induction k with
    | nil => intro m x h; exact h
    | cons t k ih => intro m x h; exact ih _ _ (h.put t)
  exact this l [] [] JR.nil
theorem JR.len {m : JnE} {x : List TxE} (h : JR m x) : m.length = x.length := by
  have := congrArg List.length h.rows
  rw [rows_len] at this; simpa using this
theorem JR.find {m : JnE} {x : List TxE} (h : JR m x) (k : Int) : x.find? (fun t => t.1 == k) = if k ∈ keysM m then some (gA txZ m k) else none := by
  have hf := rows_find (z := txZ) (m := m) k
  rw [h.rows, List.find?_map] at hf
  have e : ((fun x : Int × TxE × Unit => eqE (.int .u32) x.1 k) ∘ rowT) = fun t => t.1 == k := rfl
  rw [e] at hf
  cases hx : x.find? (fun t => t.1 == k) with
  | none =>
    rw [hx] at hf
    by_cases c : k ∈ keysM m
    · rw [if_pos c] at hf; cases hf
    · rw [if_neg c]
  | some t =>
    rw [hx] at hf
    by_cases c : k ∈ keysM m
    · rw [if_pos c] at hf ⊢
      have hf : (rowT t) = (k, (gA txZ m k, ())) := Option.some.inj hf
      have : t = gA txZ m k := congrArg (fun r : Int × TxE × Unit => r.2.1) hf
      rw [this]
    · rw [if_neg c] at hf; cases hf
theorem JR.vals {m : JnE} {x : List TxE} (h : JR m x) : (sortM m).map (gA txZ m) = x := by
  have := congrArg (List.map fun r : Int × TxE × Unit => r.2.1) h.rows
  unfold rowsM at this
  rw [List.map_map, List.map_map] at this
  have e : (fun r : Int × TxE × Unit => r.2.1) ∘ rowT = id := rfl
  rw [e, List.map_id] at this
  exact this
end Go.Proofs.Pure

/- What is told of any transactions. -/
namespace Go.Proofs.Pure
open Go.Proofs.D Go.Proofs.F

theorem works19 : l19_works = some true := by kernel_rfl
/-! ### Which are found -/
def foundT (o : Option TxE) : TxE × Bool × Unit := match o with | some t => (t, (true, ())) | none => (txZ, (false, ()))
theorem walk_find {X : Type} (p : TxE → Bool) (k : TxE → X) (d : X) : ∀ (l : List TxE) (i : Nat), walkL (X := X) (fun _ u (_ : Unit) => if p u = true then .inr (k u) else .inl ()) (fun _ => d) i l () = (match l.find? p with | some u => k u | none => d)
  | [], i => rfl
  | u :: l, i => by
    rw [walkL, List.find?_cons]
    cases h : p u with
    | true => simp
    | false => simp only [Bool.false_eq_true, if_false]; exact walk_find p k d l (i + 1)
theorem refGet_val (x : List TxE) (id : Int) (hl : x.length ≤ 1000) : ref19_Get x id = some (foundT (x.find? fun t => t.1 == id)) := by
  unfold ref19_Get
  have h := loop_walk (step := ref19_Get.l1) x (fun i (_ : Unit) => ((x, (id, ((), (i : Int)))), ((0, (0, (0, (false, (false, ((), (0, (0, ())))))))), ()))) (fun _ u _ => if (u.1 == id) = true then .inr (.inr (((), true), (u, ()))) else .inl ()) (fun _ => .inl ((), ((0, (0, (0, (false, (false, ((), (0, (0, ())))))))), ()))) (fun _ _ => True) () (by omega) trivial (fun i y a hx _ => by
    have hlt := get_lt hx
    refine ⟨?_, fun _ _ => trivial⟩
    unfold ref19_Get.l1
    simp only [dec_t (show (i : Int) < (x.length : Int) by omega), cond_true]
    rw [nthK_get hx, nthK_get hx, succ_i64 (by omega)]
    cases h : ((y.1 : Int) == id) <;> simp) (fun a _ => by
    unfold ref19_Get.l1
    simp only [dec_f (show ¬ (x.length : Int) < (x.length : Int) by omega), cond_false])
  rw [show (((0 : Nat) : Int)) = 0 from rfl, walk_find (fun u => u.1 == id) (fun u => Sum.inr (((), true), (u, ())))] at h
  refine (bind_of h).trans ?_
  cases x.find? (fun u => u.1 == id) <;> rfl
theorem refOf_val (x : List TxE) (id : Int) (hl : x.length ≤ 1000) : ref19_Of x id = some (foundT (x.find? fun t => t.2.1 == id)) := by
  unfold ref19_Of
  have h := loop_walk (step := ref19_Of.l1) x (fun i (_ : Unit) => ((x, (id, ((), (i : Int)))), ((0, (0, (0, (false, (false, ((), (0, (0, ())))))))), ()))) (fun _ u _ => if (u.2.1 == id) = true then .inr (.inr (((), true), (u, ()))) else .inl ()) (fun _ => .inl ((), ((0, (0, (0, (false, (false, ((), (0, (0, ())))))))), ()))) (fun _ _ => True) () (by omega) trivial (fun i y a hx _ => by
    have hlt := get_lt hx
    refine ⟨?_, fun _ _ => trivial⟩
    unfold ref19_Of.l1
    simp only [dec_t (show (i : Int) < (x.length : Int) by omega), cond_true]
    rw [nthK_get hx, nthK_get hx, succ_i64 (by omega)]
    cases h : ((y.2.1 : Int) == id) <;> simp) (fun a _ => by
    unfold ref19_Of.l1
    simp only [dec_f (show ¬ (x.length : Int) < (x.length : Int) by omega), cond_false])
  rw [show (((0 : Nat) : Int)) = 0 from rfl, walk_find (fun u => u.2.1 == id) (fun u => Sum.inr (((), true), (u, ())))] at h
  refine (bind_of h).trans ?_
  cases x.find? (fun u => u.2.1 == id) <;> rfl

/-! ### The journal's -/
section
variable {m : JnE} {x : List TxE}
theorem JR.mem (h : JR m x) {k : Int} (hk : k ∈ keysM m) : gA txZ m k ∈ x := by
  rw [← h.vals]
  exact List.mem_map.2 ⟨k, (mem_sortM m k).2 hk, rfl⟩
theorem get_val (h : JR m x) (id : Int) (hs : ∀ t ∈ x, t.2.2.2.2.2.1.length ≤ 20) :
    ∃ u : (Int × Int × Int × Bool × Bool × Unit × Int × Int × Unit) × Bool × Unit, ∃ d : List OpE, jJ_Get () id ((), ()) m = some (u, (((), ()), (m, (d, ())))) ∧ ((u.1.1, (u.1.2.1, (u.1.2.2.1, (u.1.2.2.2.1, (u.1.2.2.2.2.1, (d, u.1.2.2.2.2.2.2)))))), (u.2.1, ())) = foundT (x.find? fun t => t.1 == id) := by
  unfold jJ_Get
  rw [has_hA, hasM_val, h.find]
  by_cases c : id ∈ keysM m
  · rw [if_pos c, dec_t c]
    have hd := hs _ (h.mem c)
    have ha : journal_apart_v2 (getM (.int .u32) kTxn m id) = some (journal_apart_v2.mk (gA txZ m id)) := by
      rw [show (getM (.int .u32) kTxn m id : El kTxn) = gA txZ m id from get_gA m id]
      show (bif Nat.ble (gA txZ m id).2.2.2.2.2.1.length 4294967296 then some _ else none) = _
      rw [Nat.ble_eq_true_of_le (by omega)]; rfl
    rw [ha]
    exact ⟨_, _, rfl, rfl⟩
  · rw [if_neg c, dec_f c]
    exact ⟨_, _, rfl, rfl⟩
theorem all_val (h : JR m x) (hl : x.length ≤ 127) (hs : ∀ t ∈ x, t.2.2.2.2.2.1.length ≤ 20) : jJ_All () ((), ()) m = some (x, jOf m) := by
  have hm : m.length ≤ 127 := by rw [h.len]; exact hl
  have hj : jaG (.int .u32) kTxn (leOf cmp1) 127 (((), ()), (((), ()), (m, ()))) = some (((), ((), (sortM m, (((sortM m).length : Int), (0 : Int))))), (((), ()), (m, ()))) := by
    unfold jaG
    show (bif Nat.ble m.length 127 then _ else none) = _
    rw [Nat.ble_eq_true_of_le hm]; rfl
  have hsl : (sortM m).length ≤ 127 := by rw [sortM_len]; exact hm
  unfold jJ_All
  refine (bind_of hj).trans ?_
  have hw := loop_walk (step := jJ_All.l1) (sortM m) (fun i (a : List TxE) => (((), ((), (sortM m, (((sortM m).length : Int), (i : Int))))), (((), ()), (m, (a, ()))))) (fun _ k a => .inl (a ++ [gA txZ m k])) (fun a => ((), (((), ()), (m, (a, ()))))) (fun i a => a.length ≤ i) [] (by omega) (by simp) (fun i k a hx hi => by
    have hlt := get_lt hx
    have hk : k ∈ keysM m := (mem_sortM m k).1 (get_mem hx)
    have hd := hs _ (h.mem hk)
    refine ⟨?_, fun b hb => by cases hb; simp; omega⟩
    unfold jJ_All.l1
    simp only [dec_t (show (i : Int) < ((sortM m).length : Int) by omega), cond_true]
    rw [nthK_get hx]
    have ha : journal_apart (getM (.int .u32) kTxn m k) = some (gA txZ m k) := by
      rw [show (getM (.int .u32) kTxn m k : El kTxn) = gA txZ m k from get_gA m k]
      exact apart_val _ (by omega)
    rw [ha, Option.bind_some, room_ok (by simp; omega), succ_i64 (by omega)]) (fun a _ => by
    unfold jJ_All.l1
    simp only [dec_f (show ¬ ((sortM m).length : Int) < ((sortM m).length : Int) by omega), cond_false])
  rw [show (((0 : Nat) : Int)) = 0 from rfl, walk_foldl (fun (a : List TxE) (k : Int) => a ++ [gA txZ m k])] at hw
  have hf : ∀ (l : List Int) (a : List TxE), l.foldl (fun (a : List TxE) (k : Int) => a ++ [gA txZ m k]) a = a ++ l.map (gA txZ m) := by
    intro l
    induction l with
    | nil => intro a; simp
    | cons k l ih => intro a; rw [List.foldl_cons, ih]; simp
  rw [hf, h.vals] at hw
  exact (bind_of hw).trans rfl
theorem of_val (h : JR m x) (hl : x.length ≤ 127) (hs : ∀ t ∈ x, t.2.2.2.2.2.1.length ≤ 20) (id : Int) : jJ_Of () id ((), ()) m = some (foundT (x.find? fun t => t.2.1 == id), jOf m) := by
  unfold jJ_Of
  refine (bind_of (all_val h hl hs)).trans ?_
  have hw := loop_walk (step := jJ_Of.l1) x (fun i (_ : Unit) => ((id, ((), (x, ((x.length : Int), (i : Int))))), (((), ()), (m, ((0, (0, (0, (false, (false, ((), (0, (0, ())))))))), ()))))) (fun _ u _ => if (u.2.1 == id) = true then .inr (.inr (((), true), (((), ()), (m, (u, ()))))) else .inl ()) (fun _ => .inl ((), (((), ()), (m, ((0, (0, (0, (false, (false, ((), (0, (0, ())))))))), ()))))) (fun _ _ => True) () (by omega) trivial (fun i y a hx _ => by
    have hlt := get_lt hx
    refine ⟨?_, fun _ _ => trivial⟩
    unfold jJ_Of.l1
    simp only [dec_t (show (i : Int) < (x.length : Int) by omega), cond_true]
    rw [nthK_get hx, succ_i64 (by omega)]
    cases h : ((y.2.1 : Int) == id) <;> simp) (fun a _ => by
    unfold jJ_Of.l1
    simp only [dec_f (show ¬ (x.length : Int) < (x.length : Int) by omega), cond_false])
  rw [show (((0 : Nat) : Int)) = 0 from rfl, walk_find (fun u => u.2.1 == id) (fun u => Sum.inr (((), true), (((), ()), (m, (u, ())))))] at hw
  refine (bind_of hw).trans ?_
  cases x.find? (fun u => u.2.1 == id) <;> rfl
end

/-! ### Which are the same -/
theorem eqOp_refl (o : OpE) : eqE kOp o o = true := by
  have : eqE kOp o o = (((o.1.1 == o.1.1) && ((o.1.2.1 == o.1.2.1) && ((o.1.2.2.1 == o.1.2.2.1) && true))) && ((o.2.1 == o.2.1) && true)) := rfl
  rw [this]; simp
def opsGo (y : List OpE) (i : Nat) (a : OpE) (_ : Unit) : Unit ⊕ (Unit ⊕ Bool) := match y[i]? with | some b => if eqE kOp a b = true then .inl () else .inr (.inr false) | none => .inl ()
def opsB (x y : List OpE) : Bool := bif (x.length : Int) != (y.length : Int) then false else match walkL (opsGo y) (fun _ => .inl ()) 0 x () with | .inl _ => true | .inr b => b
theorem refOps_val (x y : List OpE) (hl : x.length ≤ 1000) : ref11_Same x y = some (opsB x y) := by
  unfold ref11_Same opsB
  cases hc : ((x.length : Int) != (y.length : Int)) with
  | true => rfl
  | false =>
    have he : x.length = y.length := by simp at hc; omega
    have h := loop_walk (step := ref11_Same.l1) x (fun i (_ : Unit) => (x, (y, (i : Int)))) (opsGo y) (fun _ => .inl ()) (fun _ _ => True) () (by omega) trivial (fun i a _ hx _ => by
      have hlt := get_lt hx
      have hy : y[i]? = some (y[i]'(by omega)) := List.getElem?_eq_getElem (by omega)
      generalize y[i]'(by omega) = b at hy
      refine ⟨?_, fun _ _ => trivial⟩
      unfold ref11_Same.l1 opsGo
      simp only [dec_t (show (i : Int) < (x.length : Int) by omega), cond_true, hy]
      rw [nthK_get hx, nthK_get hy, succ_i64 (by omega)]
      cases eqE kOp a b <;> simp) (fun _ _ => by
      unfold ref11_Same.l1
      simp only [dec_f (show ¬ (x.length : Int) < (x.length : Int) by omega), cond_false])
    rw [show (((0 : Nat) : Int)) = 0 from rfl] at h
    simp only [cond_false]
    refine (bind_of h).trans ?_
    cases walkL (opsGo y) (fun _ => Sum.inl ()) 0 x () <;> rfl
theorem opsB_refl (x : List OpE) : opsB x x = true := by
  have h : ∀ (k : List OpE) (i : Nat), (∀ j a, k[j]? = some a → x[i + j]? = some a) → walkL (X := Unit ⊕ Bool) (opsGo x) (fun _ => .inl ()) i k () = .inl () := by
    intro k
    induction k with
    | nil => intro i _; rfl
    | cons a k ih =>
      intro i h
      rw [walkL]
      have h0 : x[i]? = some a := h 0 a rfl
      unfold opsGo
      simp only [h0, eqOp_refl, if_true]
      exact ih (i + 1) fun j b hb => by have := h (j + 1) b hb; rw [Nat.add_right_comm, Nat.add_assoc]; exact this
  unfold opsB
  rw [bne_self_eq_false, cond_false, h x 0 fun j a h => by rw [Nat.zero_add]; exact h]
def sameTx (a b : TxE) : Bool := (a.1 == b.1) && ((a.2.1 == b.2.1) && ((a.2.2.1 == b.2.2.1) && ((a.2.2.2.1 == b.2.2.2.1) && ((a.2.2.2.2.1 == b.2.2.2.2.1) && (opsB a.2.2.2.2.2.1 b.2.2.2.2.2.1 && ((a.2.2.2.2.2.2.1 == b.2.2.2.2.2.2.1) && (a.2.2.2.2.2.2.2.1 == b.2.2.2.2.2.2.2.1)))))))
theorem refSame_val (a b : TxE) (h : a.2.2.2.2.2.1.length ≤ 1000) : ref19_Same a b = some (sameTx a b) := by
  unfold ref19_Same sameTx
  rw [refOps_val _ _ h]
  cases (a.1 == b.1) <;> cases (a.2.1 == b.2.1) <;> cases (a.2.2.1 == b.2.2.1) <;> cases (a.2.2.2.1 == b.2.2.2.1) <;> cases (a.2.2.2.2.1 == b.2.2.2.2.1) <;> cases opsB a.2.2.2.2.2.1 b.2.2.2.2.2.1 <;> cases (a.2.2.2.2.2.2.1 == b.2.2.2.2.2.2.1) <;> rfl
theorem sameTx_refl (a : TxE) : sameTx a a = true := by
  unfold sameTx
  rw [opsB_refl]; simp

/-! ### How one is undone -/
theorem last_eq (t : TxE) (hl : t.2.2.2.2.2.1.length ≤ 1000) (hd : ∀ o ∈ t.2.2.2.2.2.1, -9223372036854775808 ≤ o.2.1) : ∃ r, journal_Last t = some r ∧ ref19_Last t = some r := by
  unfold journal_Last ref19_Last
  by_cases h0 : t.2.2.2.2.2.1.length = 0
  · refine ⟨(((0, (0, (0, ()))), (0, ())), (false, ())), ?_, ?_⟩ <;> rw [h0] <;> rfl
  · have hp : IntKind.i64.wrap ((t.2.2.2.2.2.1.length : Int) - 1) = ((t.2.2.2.2.2.1.length - 1 : Nat) : Int) := by rw [wrap_i64 (by omega) (by omega)]; omega
    have hg : t.2.2.2.2.2.1[t.2.2.2.2.2.1.length - 1]? = some (t.2.2.2.2.2.1[t.2.2.2.2.2.1.length - 1]'(by omega)) := List.getElem?_eq_getElem (by omega)
    generalize t.2.2.2.2.2.1[t.2.2.2.2.2.1.length - 1]'(by omega) = o at hg
    have ho := hd o (get_mem hg)
    rw [show (((t.2.2.2.2.2.1.length : Int)) == 0) = false by simp; exact fun e => h0 (by rw [e]; rfl), cond_false, cond_false, hp, nthK_get hg, nthK_get hg, nthK_get hg, nthK_get hg, nthK_get hg]
    by_cases c : o.2.1 = -9223372036854775808
    · rw [show (o.2.1 == -9223372036854775808) = true by simpa using c, dec_t (show o.2.1 < -9223372036854775807 by omega)]
      exact ⟨_, rfl, rfl⟩
    · rw [show (o.2.1 == -9223372036854775808) = false by simpa using c, dec_f (show ¬ o.2.1 < -9223372036854775807 by omega)]
      exact ⟨_, rfl, rfl⟩

/-! ### Few -/
def fewGo (t : TxE) : Unit ⊕ (Unit ⊕ Bool) := if t.2.2.2.2.2.1.length > 20 then .inr (.inr false) else if t.2.2.2.2.2.2.2.1 < 0 then .inr (.inr false) else if t.2.2.2.2.2.2.2.1 > 1048576 then .inr (.inr false) else .inl ()
theorem few_walk : ∀ (l : List TxE) (i : Nat), walkL (X := Unit ⊕ Bool) (fun _ t (_ : Unit) => fewGo t) (fun _ => .inl ()) i l () = .inr false ∨ (walkL (X := Unit ⊕ Bool) (fun _ t (_ : Unit) => fewGo t) (fun _ => .inl ()) i l () = .inl () ∧ ∀ t ∈ l, t.2.2.2.2.2.1.length ≤ 20)
  | [], i => .inr ⟨rfl, fun t ht => by cases ht⟩
  | t :: l, i => by
    rw [walkL]
    by_cases c1 : t.2.2.2.2.2.1.length > 20
    · left; unfold fewGo; rw [if_pos c1]
    · by_cases c2 : t.2.2.2.2.2.2.2.1 < 0
      · left; unfold fewGo; rw [if_neg c1, if_pos c2]
      · by_cases c3 : t.2.2.2.2.2.2.2.1 > 1048576
        · left; unfold fewGo; rw [if_neg c1, if_neg c2, if_pos c3]
        · have e : fewGo t = .inl () := by unfold fewGo; rw [if_neg c1, if_neg c2, if_neg c3]
          rw [e]
          rcases few_walk l (i + 1) with h | ⟨h, g⟩
          · exact .inl h
          · refine .inr ⟨h, fun u hu => ?_⟩
            rcases List.mem_cons.1 hu with q | q
            · rw [q]; omega
            · exact g u q
theorem few19 (l : List TxE) : l19_Few l = some 0 ∨ (l19_Few l = some 1 ∧ l.length ≤ 12 ∧ ∀ t ∈ l, t.2.2.2.2.2.1.length ≤ 20) := by
  unfold l19_Few l19_isFew
  by_cases h12 : (l.length : Int) > 12
  · rw [dec_t h12]; exact .inl rfl
  rw [dec_f h12]
  have h := loop_walk (step := l19_isFew.l1) l (fun i (_ : Unit) => (l, (i : Int))) (fun _ t _ => fewGo t) (fun _ => .inl ()) (fun _ _ => True) () (by omega) trivial (fun i t _ hx _ => by
    have hlt := get_lt hx
    refine ⟨?_, fun _ _ => trivial⟩
    unfold l19_isFew.l1 fewGo
    simp only [dec_t (show (i : Int) < (l.length : Int) by omega), cond_true]
    rw [nthK_get hx, nthK_get hx, nthK_get hx, succ_i64 (by omega)]
    by_cases c1 : t.2.2.2.2.2.1.length > 20
    · rw [dec_t (show (t.2.2.2.2.2.1.length : Int) > 20 by omega), if_pos c1]; rfl
    · rw [dec_f (show ¬ (t.2.2.2.2.2.1.length : Int) > 20 by omega), if_neg c1]
      by_cases c2 : t.2.2.2.2.2.2.2.1 < 0
      · rw [dec_t c2, if_pos c2]; rfl
      · rw [dec_f c2, if_neg c2]
        by_cases c3 : t.2.2.2.2.2.2.2.1 > 1048576
        · rw [dec_t c3, if_pos c3]; rfl
        · rw [dec_f c3, if_neg c3]; rfl) (fun _ _ => by
    unfold l19_isFew.l1
    simp only [dec_f (show ¬ (l.length : Int) < (l.length : Int) by omega), cond_false])
  rw [show (((0 : Nat) : Int)) = 0 from rfl] at h
  simp only [cond_false]
  rw [h]
  rcases few_walk l 0 with g | ⟨g, hs⟩
  · rw [g]; exact .inl rfl
  · rw [g]; exact .inr ⟨rfl, by omega, hs⟩

/-! ### The law -/
theorem listOf_small (l : List TxE) (hs : ∀ t ∈ l, t.2.2.2.2.2.1.length ≤ 20) : ∀ t ∈ listOf l, t.2.2.2.2.2.1.length ≤ 20 := by
  have : ∀ (k a : List TxE), (∀ t ∈ k, t.2.2.2.2.2.1.length ≤ 20) → (∀ t ∈ a, t.2.2.2.2.2.1.length ≤ 20) → ∀ t ∈ k.foldl (fun x t => insT t x) a, t.2.2.2.2.2.1.length ≤ 20 := by
    intro k
    induction k with
    | nil => intro a _ h; exact h
    | cons u k ih =>
      intro a h1 h2
      refine ih _ (fun t ht => h1 t (List.mem_cons_of_mem _ ht)) fun t ht => ?_
      rcases insT_mem u a t ht with e | e
      · rw [e]; exact h1 u List.mem_cons_self
      · exact h2 t e
  exact this l [] hs fun t ht => by cases ht
theorem found_small {x : List TxE} (hs : ∀ t ∈ x, t.2.2.2.2.2.1.length ≤ 20) (p : TxE → Bool) : (foundT (x.find? p)).1.2.2.2.2.2.1.length ≤ 1000 := by
  cases h : x.find? p with
  | none => show 0 ≤ 1000; omega
  | some t => have := hs t (List.mem_of_find?_eq_some h); show t.2.2.2.2.2.1.length ≤ 1000; omega
end Go.Proofs.Pure

/- What a record makes of a journal, and of the document's list. -/
namespace Go.Proofs.Pure
open Go.Proofs.D Go.Proofs.F

def tx (n saga step : Int) (comp dead : Bool) (done : List OpE) (first size : Int) : TxE := (n, (saga, (step, (comp, (dead, (done, (first, (size, ()))))))))
def txU (n saga step : Int) (comp dead : Bool) (first size : Int) : Int × Int × Int × Bool × Bool × Unit × Int × Int × Unit := (n, (saga, (step, (comp, (dead, ((), (first, (size, ()))))))))
theorem del_dA : ∀ (m : JnE) (k : Int), (delM (.int .u32) kTxn m k : JnE) = dA m k
  | [], _ => rfl
  | e :: r, k => by
    show (bif eqE (.int .u32) k e.1 then r else e :: delM (.int .u32) kTxn r k) = _
    rw [delM_cons, del_dA r k, eqK_d]
    by_cases c : k = e.1
    · rw [if_pos c, dec_t c]; rfl
    · rw [if_neg c, dec_f c]; rfl
theorem JR.del {m : JnE} {x : List TxE} (h : JR m x) (k : Int) : JR (dA m k) (x.filter fun u => u.1 != k) := by
  refine ⟨by rw [keys_del]; exact h.nd.erase k, ?_⟩
  rw [rows_del h.nd, h.rows, List.filter_map]
  congr 1
  apply List.filter_congr
  intro t ht
  show decide (t.1 ≠ k) = (t.1 != k)
  by_cases c : t.1 = k <;> simp [c]

/-- All but the last. -/
theorem undone_val (t : TxE) (hl : t.2.2.2.2.2.1.length ≤ 1000) : ref19_undone t = some (t.1, (t.2.1, (t.2.2.1, (t.2.2.2.1, (true, (t.2.2.2.2.2.1.take (t.2.2.2.2.2.1.length - 1), t.2.2.2.2.2.2)))))) := by
  obtain ⟨z, hz⟩ : ∃ z : (Int × Int × Int × Bool × Bool × Unit × Int × Int × Unit), z = (0, (0, (0, (false, (false, ((), (0, (0, ())))))))) := ⟨_, rfl⟩
  have hd : ∀ (k j : Nat), t.2.2.2.2.2.1.length - 1 - j = k → j ≤ t.2.2.2.2.2.1.length - 1 → 
      iterL ref19_undone.l1 (k + 1) (((), ((), ((), (j : Int)))), (t, (z, (t.2.2.2.2.2.1.take j, ())))) = some (((), ((), ())), (t, (z, (t.2.2.2.2.2.1.take (t.2.2.2.2.2.1.length - 1), ())))) := by
    intro k
    induction k with
    | zero =>
      intro j hk hj
      refine iterL_done ?_
      unfold ref19_undone.l1
      have e1 : IntKind.i64.wrap ((t.2.2.2.2.2.1.length : Int) - 1) = (t.2.2.2.2.2.1.length : Int) - 1 := wrap_i64 (by omega) (by omega)
      simp only [e1, dec_f (show ¬ (j : Int) < (t.2.2.2.2.2.1.length : Int) - 1 by omega), cond_false]
      rw [show t.2.2.2.2.2.1.length - 1 = j by omega]
    | succ k ih =>
      intro j hk hj
      have e1 : IntKind.i64.wrap ((t.2.2.2.2.2.1.length : Int) - 1) = (t.2.2.2.2.2.1.length : Int) - 1 := wrap_i64 (by omega) (by omega)
      have hg : t.2.2.2.2.2.1[j]? = some (t.2.2.2.2.2.1[j]'(by omega)) := List.getElem?_eq_getElem (by omega)
      have hs : ref19_undone.l1 (((), ((), ((), (j : Int)))), (t, (z, (t.2.2.2.2.2.1.take j, ())))) = some (.inl (((), ((), ((), ((j + 1 : Nat) : Int)))), (t, (z, (t.2.2.2.2.2.1.take (j + 1), ()))))) := by
        unfold ref19_undone.l1
        simp only [e1, dec_t (show (j : Int) < (t.2.2.2.2.2.1.length : Int) - 1 by omega), cond_true]
        have ht : t.2.2.2.2.2.1.take (j + 1) = t.2.2.2.2.2.1.take j ++ [t.2.2.2.2.2.1[j]'(by omega)] := by rw [List.take_add_one, hg]; rfl
        rw [nthK_get hg, room_ok (by simp; omega), succ_i64 (by omega), ht, hz]
      exact (iterL_next hs).trans (ih (j + 1) (by omega) (by omega))
  have h := iterL_mono (m := loopN) (hd (t.2.2.2.2.2.1.length - 1) 0 (by omega) (by omega)) (by rw [loopN_eq]; omega)
  unfold ref19_undone
  rw [hz] at h
  exact (bind_of h).trans rfl

section
variable {m : JnE} {x : List TxE} {n saga step first size at_ : Int} {comp dead : Bool} {done : List OpE} {k : Ky} {d : Int}
/-- A transaction that is there. -/
structure There (m : JnE) (x : List TxE) (n saga step first size : Int) (comp dead : Bool) (done : List OpE) : Prop where
  get : jJ_Get () n ((), ()) m = some ((txU n saga step comp dead first size, (true, ())), (((), ()), (m, (done, ()))))
  find : ref19_Get x n = some (tx n saga step comp dead done first size, (true, ()))
  len : done.length ≤ 20
  xl : x.length ≤ 1000
  rise : Rise x
theorem add_no (T : There m x n saga step first size comp dead done) (hb : dead = true ∨ 6 ≤ done.length) (hg : rec_Good (recO 3 n k d) = some true) (hs : rec_Size (recO 3 n k d) = some 22) (hg2 : ref14_Good (recO 3 n k d) = some true) (hs2 : ref14_Size (recO 3 n k d) = some 22) (hd : ∀ o ∈ done, -9223372036854775808 ≤ o.2.1) :
    jJ_Apply () at_ (recO 3 n k d) ((), ()) m = some (12, jOf m) ∧ ref19_Apply x at_ (recO 3 n k d) = some (x, (12, ())) := by
  have hl := T.len
  constructor
  · unfold jJ_Apply
    rw [hg]
    refine (bind_of T.get).trans ?_
    refine (bind_of hs).trans ?_
    cases dead with
    | true => rfl
    | false =>
      have h6 : 6 ≤ done.length := by rcases hb with h | h; · cases h
                                      · exact h
      show (Option.bind (bif decide ((done.length : Int) ≥ 6) then _ else _) _) = _
      rw [dec_t (by omega)]; rfl
  · unfold ref19_Apply
    rw [hg2]
    refine (bind_of T.find).trans ?_
    refine (bind_of hs2).trans ?_
    obtain ⟨r, l1, l2⟩ := last_eq (tx n saga step comp dead done first (IntKind.i64.wrap (size + 22))) (by show done.length ≤ 1000; omega) hd
    refine (bind_of l2).trans ?_
    have ha : ref19_added (tx n saga step comp dead done first (IntKind.i64.wrap (size + 22))) (k, (d, ())) = some (tx n saga step comp dead (done ++ [(k, (d, ()))]) first (IntKind.i64.wrap (size + 22))) := by
      show room done.length (room (done.length + 1) _) = _
      rw [room_ok (by omega), room_ok (by omega)]; rfl
    cases dead with
    | true =>
      show (Option.bind ((ref19_added (tx n saga step comp true done first (IntKind.i64.wrap (size + 22))) (k, (d, ()))).bind _) _) = _
      rw [ha]; rfl
    | false =>
      have h6 : 6 ≤ done.length := by rcases hb with h | h; · cases h
                                      · exact h
      show (Option.bind ((ref19_added (tx n saga step comp false done first (IntKind.i64.wrap (size + 22))) (k, (d, ()))).bind fun r18 => some (((x, ((), ((), decide ((done.length : Int) ≥ 6)))), (recO 3 n k d, (r18, ()))))) _) = _
      rw [ha, dec_t (show (done.length : Int) ≥ 6 by omega)]; rfl
theorem add_yes (T : There m x n saga step first size comp false done) (hb : done.length < 6) (hg : rec_Good (recO 3 n k d) = some true) (hs : rec_Size (recO 3 n k d) = some 22) (hg2 : ref14_Good (recO 3 n k d) = some true) (hs2 : ref14_Size (recO 3 n k d) = some 22) (hd : ∀ o ∈ done, -9223372036854775808 ≤ o.2.1) :
    jJ_Apply () at_ (recO 3 n k d) ((), ()) m = some (0, jOf (pA m n (tx n saga step comp false (done ++ [(k, (d, ()))]) first (IntKind.i64.wrap (size + 22))))) ∧ ref19_Apply x at_ (recO 3 n k d) = some (insT (tx n saga step comp false (done ++ [(k, (d, ()))]) first (IntKind.i64.wrap (size + 22))) x, (0, ())) := by
  have hl := T.len
  constructor
  · unfold jJ_Apply
    rw [hg]
    refine (bind_of T.get).trans ?_
    refine (bind_of hs).trans ?_
    show (Option.bind (bif decide ((done.length : Int) ≥ 6) then _ else room (done.length + [(k, (d, ()))].length) (some _)) _) = _
    rw [dec_f (by omega), room_ok (by simp; omega), ← put_pA]; rfl
  · unfold ref19_Apply
    rw [hg2]
    refine (bind_of T.find).trans ?_
    refine (bind_of hs2).trans ?_
    obtain ⟨r, l1, l2⟩ := last_eq (tx n saga step comp false done first (IntKind.i64.wrap (size + 22))) (by show done.length ≤ 1000; omega) hd
    refine (bind_of l2).trans ?_
    have ha : ref19_added (tx n saga step comp false done first (IntKind.i64.wrap (size + 22))) (k, (d, ())) = some (tx n saga step comp false (done ++ [(k, (d, ()))]) first (IntKind.i64.wrap (size + 22))) := by
      show room done.length (room (done.length + 1) _) = _
      rw [room_ok (by omega), room_ok (by omega)]; rfl
    show (Option.bind ((ref19_added (tx n saga step comp false done first (IntKind.i64.wrap (size + 22))) (k, (d, ()))).bind fun r18 => some (((x, ((), ((), decide ((done.length : Int) ≥ 6)))), (recO 3 n k d, (r18, ()))))) _) = _
    rw [ha, dec_f (show ¬ (done.length : Int) ≥ 6 by omega)]
    show ((ref19_With x (tx n saga step comp false (done ++ [(k, (d, ()))]) first (IntKind.i64.wrap (size + 22)))).bind _) = _
    rw [with_val x _ T.xl T.rise]; rfl
theorem abort_no (T : There m x n saga step first size comp true done) (hg : rec_Good (recO 5 n k d) = some true) (hs : rec_Size (recO 5 n k d) = some 11) (hg2 : ref14_Good (recO 5 n k d) = some true) (hs2 : ref14_Size (recO 5 n k d) = some 11) (hd : ∀ o ∈ done, -9223372036854775808 ≤ o.2.1) :
    jJ_Apply () at_ (recO 5 n k d) ((), ()) m = some (12, jOf m) ∧ ref19_Apply x at_ (recO 5 n k d) = some (x, (12, ())) := by
  have hl := T.len
  constructor
  · unfold jJ_Apply
    rw [hg]
    refine (bind_of T.get).trans ?_
    exact (bind_of hs).trans rfl
  · unfold ref19_Apply
    rw [hg2]
    refine (bind_of T.find).trans ?_
    refine (bind_of hs2).trans ?_
    obtain ⟨r, l1, l2⟩ := last_eq (tx n saga step comp true done first (IntKind.i64.wrap (size + 11))) (by show done.length ≤ 1000; omega) hd
    exact (bind_of l2).trans rfl
theorem abort_yes (T : There m x n saga step first size comp false done) (hg : rec_Good (recO 5 n k d) = some true) (hs : rec_Size (recO 5 n k d) = some 11) (hg2 : ref14_Good (recO 5 n k d) = some true) (hs2 : ref14_Size (recO 5 n k d) = some 11) (hd : ∀ o ∈ done, -9223372036854775808 ≤ o.2.1) :
    jJ_Apply () at_ (recO 5 n k d) ((), ()) m = some (0, jOf (pA m n (tx n saga step comp true done first (IntKind.i64.wrap (size + 11))))) ∧ ref19_Apply x at_ (recO 5 n k d) = some (insT (tx n saga step comp true done first (IntKind.i64.wrap (size + 11))) x, (0, ())) := by
  have hl := T.len
  constructor
  · unfold jJ_Apply
    rw [hg]
    refine (bind_of T.get).trans ?_
    refine (bind_of hs).trans ?_
    rw [← put_pA]; rfl
  · unfold ref19_Apply
    rw [hg2]
    refine (bind_of T.find).trans ?_
    refine (bind_of hs2).trans ?_
    obtain ⟨r, l1, l2⟩ := last_eq (tx n saga step comp false done first (IntKind.i64.wrap (size + 11))) (by show done.length ≤ 1000; omega) hd
    refine (bind_of l2).trans ?_
    show ((ref19_With x (tx n saga step comp true done first (IntKind.i64.wrap (size + 11)))).bind _) = _
    rw [with_val x _ T.xl T.rise]; rfl
theorem commit_no (T : There m x n saga step first size comp true done) (hg : rec_Good (recO 4 n k d) = some true) (hs : rec_Size (recO 4 n k d) = some 11) (hg2 : ref14_Good (recO 4 n k d) = some true) (hs2 : ref14_Size (recO 4 n k d) = some 11) (hd : ∀ o ∈ done, -9223372036854775808 ≤ o.2.1) :
    jJ_Apply () at_ (recO 4 n k d) ((), ()) m = some (12, jOf m) ∧ ref19_Apply x at_ (recO 4 n k d) = some (x, (12, ())) := by
  have hl := T.len
  constructor
  · unfold jJ_Apply
    rw [hg]
    refine (bind_of T.get).trans ?_
    exact (bind_of hs).trans rfl
  · unfold ref19_Apply
    rw [hg2]
    refine (bind_of T.find).trans ?_
    refine (bind_of hs2).trans ?_
    obtain ⟨r, l1, l2⟩ := last_eq (tx n saga step comp true done first (IntKind.i64.wrap (size + 11))) (by show done.length ≤ 1000; omega) hd
    exact (bind_of l2).trans rfl
theorem commit_yes (T : There m x n saga step first size comp false done) (hg : rec_Good (recO 4 n k d) = some true) (hs : rec_Size (recO 4 n k d) = some 11) (hg2 : ref14_Good (recO 4 n k d) = some true) (hs2 : ref14_Size (recO 4 n k d) = some 11) (hd : ∀ o ∈ done, -9223372036854775808 ≤ o.2.1) :
    jJ_Apply () at_ (recO 4 n k d) ((), ()) m = some (0, jOf (dA m n)) ∧ ref19_Apply x at_ (recO 4 n k d) = some (x.filter (fun u => u.1 != n), (0, ())) := by
  have hl := T.len
  constructor
  · unfold jJ_Apply
    rw [hg]
    refine (bind_of T.get).trans ?_
    refine (bind_of hs).trans ?_
    rw [← del_dA]; rfl
  · unfold ref19_Apply
    rw [hg2]
    refine (bind_of T.find).trans ?_
    refine (bind_of hs2).trans ?_
    obtain ⟨r, l1, l2⟩ := last_eq (tx n saga step comp false done first (IntKind.i64.wrap (size + 11))) (by show done.length ≤ 1000; omega) hd
    refine (bind_of l2).trans ?_
    show ((ref19_Without x n).bind _) = _
    rw [without_val x n T.xl]; rfl
theorem gone_no (T : There m x n saga step first size comp dead done) (hb : 0 < done.length) (hg : rec_Good (recO 7 n k d) = some true) (hs : rec_Size (recO 7 n k d) = some 11) (hg2 : ref14_Good (recO 7 n k d) = some true) (hs2 : ref14_Size (recO 7 n k d) = some 11) (hd : ∀ o ∈ done, -9223372036854775808 ≤ o.2.1) :
    jJ_Apply () at_ (recO 7 n k d) ((), ()) m = some (12, jOf m) ∧ ref19_Apply x at_ (recO 7 n k d) = some (x, (12, ())) := by
  have hl := T.len
  constructor
  · unfold jJ_Apply
    rw [hg]
    refine (bind_of T.get).trans ?_
    refine (bind_of hs).trans ?_
    show (Option.bind (Option.bind (bif decide ((done.length : Int) > 0) then _ else _) _) _) = _
    rw [dec_t (by omega)]; rfl
  · unfold ref19_Apply
    rw [hg2]
    refine (bind_of T.find).trans ?_
    refine (bind_of hs2).trans ?_
    obtain ⟨r, l1, l2⟩ := last_eq (tx n saga step comp dead done first (IntKind.i64.wrap (size + 11))) (by show done.length ≤ 1000; omega) hd
    refine (bind_of l2).trans ?_
    show (Option.bind (some (((x, ((), ((), decide ((done.length : Int) > 0)))), (recO 7 n k d, (tx n saga step comp dead done first (IntKind.i64.wrap (size + 11)), ()))))) _) = _
    rw [dec_t (show (done.length : Int) > 0 by omega)]; rfl
theorem gone_yes (T : There m x n saga step first size comp dead []) (hg : rec_Good (recO 7 n k d) = some true) (hs : rec_Size (recO 7 n k d) = some 11) (hg2 : ref14_Good (recO 7 n k d) = some true) (hs2 : ref14_Size (recO 7 n k d) = some 11) :
    jJ_Apply () at_ (recO 7 n k d) ((), ()) m = some (0, jOf (dA m n)) ∧ ref19_Apply x at_ (recO 7 n k d) = some (x.filter (fun u => u.1 != n), (0, ())) := by
  have hl := T.len
  constructor
  · unfold jJ_Apply
    rw [hg]
    refine (bind_of T.get).trans ?_
    refine (bind_of hs).trans ?_
    rw [← del_dA]; rfl
  · unfold ref19_Apply
    rw [hg2]
    refine (bind_of T.find).trans ?_
    refine (bind_of hs2).trans ?_
    obtain ⟨r, l1, l2⟩ := last_eq (tx n saga step comp dead [] first (IntKind.i64.wrap (size + 11))) (by show 0 ≤ 1000; omega) (fun o ho => by cases ho)
    refine (bind_of l2).trans ?_
    show ((ref19_Without x n).bind _) = _
    rw [without_val x n T.xl]; rfl
theorem last_some {t : TxE} {o : OpE} (h : journal_Last t = some (o, (true, ()))) : 0 < t.2.2.2.2.2.1.length := by
  rcases Nat.eq_zero_or_pos t.2.2.2.2.2.1.length with e | e
  · unfold journal_Last at h
    rw [e] at h
    have h : some ((((0, (0, (0, ()))), (0, ())), (false, ())) : OpE × Bool × Unit) = some (o, (true, ())) := h
    injection h with h; injection h with _ h; injection h with h _; cases h
  · exact e
theorem eqOp_iff {a : OpE} {k : Ky} {d : Int} : eqE kOp a (k, (d, ())) = (eqE kKey a.1 k && (a.2.1 == d)) := by
  have : eqE kOp a (k, (d, ())) = (eqE kKey a.1 k && ((a.2.1 == d) && true)) := rfl
  rw [this]; simp
theorem undo_any (T : There m x n saga step first size comp dead done) (hg : rec_Good (recO 6 n k d) = some true) (hs : rec_Size (recO 6 n k d) = some 22) (hg2 : ref14_Good (recO 6 n k d) = some true) (hs2 : ref14_Size (recO 6 n k d) = some 22) (hd : ∀ o ∈ done, -9223372036854775808 ≤ o.2.1) :
    (jJ_Apply () at_ (recO 6 n k d) ((), ()) m = some (12, jOf m) ∧ ref19_Apply x at_ (recO 6 n k d) = some (x, (12, ()))) ∨
    (jJ_Apply () at_ (recO 6 n k d) ((), ()) m = some (0, jOf (pA m n (tx n saga step comp true (done.take (done.length - 1)) first (IntKind.i64.wrap (size + 22))))) ∧ ref19_Apply x at_ (recO 6 n k d) = some (insT (tx n saga step comp true (done.take (done.length - 1)) first (IntKind.i64.wrap (size + 22))) x, (0, ()))) := by
  have hl := T.len
  obtain ⟨⟨o, ok, u⟩, l1, l2⟩ := last_eq (tx n saga step comp dead done first (IntKind.i64.wrap (size + 22))) (by show done.length ≤ 1000; omega) hd
  have hun : ref19_undone (tx n saga step comp dead done first (IntKind.i64.wrap (size + 22))) = some (tx n saga step comp true (done.take (done.length - 1)) first (IntKind.i64.wrap (size + 22))) := undone_val _ (by show done.length ≤ 1000; omega)
  have hpre : ∀ {X}, (Option.bind ((journal_Last (tx n saga step comp dead done first (IntKind.i64.wrap (size + 22)))).bind fun r17 => bif !r17.2.1 then some (Sum.inr (12, (((), ()), (m, ())))) else bif !(eqE kOp r17.1 (k, (d, ()))) then some (Sum.inr (12, (((), ()), (m, ())))) else chk (decide (0 ≤ (IntKind.i64.wrap ((done.length : Int) - 1))) && decide ((IntKind.i64.wrap ((done.length : Int) - 1)) ≤ (done.length : Int))) (some (Sum.inl (((), ()), (((), ()), (m, (((n, (saga, (step, (comp, (true, ((done.take (IntKind.i64.wrap ((done.length : Int) - 1) : Int).toNat).drop 0, (first, (IntKind.i64.wrap (size + 22), ())))))))) : TxE), ()))))))) fun (y21 : ((Unit × Unit) × (Unit × Unit) × JnE × TxE × Unit) ⊕ (Int × (Unit × Unit) × JnE × Unit)) => (match y21 with | .inl y22 => some (0, (((), y22.2.1.2), ((putM (.int .u32) kTxn y22.2.2.1 y22.2.2.2.1.1 y22.2.2.2.1 : JnE), ()))) | .inr y23 => some (y23.1, (((), y23.2.1.2), (y23.2.2.1, ()))))) = X → jJ_Apply () at_ (recO 6 n k d) ((), ()) m = X := by
    intro X h
    unfold jJ_Apply
    rw [hg]
    refine (bind_of T.get).trans ?_
    exact (bind_of hs).trans h
  have href : ∀ {X}, (Option.bind (bif !ok then (ref19_undone (tx n saga step comp dead done first (IntKind.i64.wrap (size + 22)))).bind fun r19 => some (((x, ((), ((), true))), (recO 6 n k d, (r19, ())))) else bif !(eqE kKey o.1 k) then (ref19_undone (tx n saga step comp dead done first (IntKind.i64.wrap (size + 22)))).bind fun r20 => some (((x, ((), ((), true))), (recO 6 n k d, (r20, ())))) else (ref19_undone (tx n saga step comp dead done first (IntKind.i64.wrap (size + 22)))).bind fun r21 => some (((x, ((), ((), (o.2.1 : Int) != d))), (recO 6 n k d, (r21, ()))))) fun (y22 : ((List TxE) × Unit × Unit × Bool) × Rc × TxE × Unit) => bif y22.1.2.2.2 then some (y22.1.1, ((12 : Int), ())) else bif (y22.2.1.1 : Int) == 4 then (ref19_Without y22.1.1 y22.2.1.2.2.1).bind fun r23 => some (r23, (0, ())) else bif (y22.2.1.1 : Int) == 7 then (ref19_Without y22.1.1 y22.2.1.2.2.1).bind fun r24 => some (r24, (0, ())) else (ref19_With y22.1.1 y22.2.2.1).bind fun r25 => some (r25, (0, ()))) = X → ref19_Apply x at_ (recO 6 n k d) = X := by
    intro X h
    unfold ref19_Apply
    rw [hg2]
    refine (bind_of T.find).trans ?_
    refine (bind_of hs2).trans ?_
    exact (bind_of l2).trans h
  cases ok with
  | false =>
    refine .inl ⟨hpre ?_, href ?_⟩
    · rw [l1]; rfl
    · rw [hun]; rfl
  | true =>
    have hpos : 0 < done.length := last_some (t := tx n saga step comp dead done first (IntKind.i64.wrap (size + 22))) l1
    cases he : eqE kKey o.1 k with
    | false =>
      have hop : eqE kOp o (k, (d, ())) = false := by rw [eqOp_iff, he]; rfl
      refine .inl ⟨hpre ?_, href ?_⟩
      · rw [l1]
        show (Option.bind (bif !(eqE kOp o (k, (d, ()))) then _ else _) _) = _
        rw [hop]; rfl
      · rw [hun, he]; rfl
    | true =>
      cases hde : ((o.2.1 : Int) == d) with
      | false =>
        have hop : eqE kOp o (k, (d, ())) = false := by rw [eqOp_iff, he, hde]; rfl
        have hne : ((o.2.1 : Int) != d) = true := by rw [bne, hde]; rfl
        refine .inl ⟨hpre ?_, href ?_⟩
        · rw [l1]
          show (Option.bind (bif !(eqE kOp o (k, (d, ()))) then _ else _) _) = _
          rw [hop]; rfl
        · rw [hun, he, hne]; rfl
      | true =>
        have hop : eqE kOp o (k, (d, ())) = true := by rw [eqOp_iff, he, hde]; rfl
        have hne : ((o.2.1 : Int) != d) = false := by rw [bne, hde]; rfl
        have e1 : IntKind.i64.wrap ((done.length : Int) - 1) = ((done.length - 1 : Nat) : Int) := by rw [wrap_i64 (by omega) (by omega)]; omega
        refine .inr ⟨hpre ?_, href ?_⟩
        · rw [l1, Option.bind_some]
          simp only [hop, e1, Bool.not_true, cond_false]
          rw [chk_true (by simp), Int.toNat_natCast, Option.bind_some]
          simp only [List.drop_zero]
          rw [put_pA]; rfl
        · rw [hun, he, hne]
          show ((ref19_With x (tx n saga step comp true (done.take (done.length - 1)) first (IntKind.i64.wrap (size + 22)))).bind _) = _
          rw [with_val x _ T.xl T.rise]; rfl
end
end Go.Proofs.Pure

/- What a journal tells, beside the document's list. -/
namespace Go.Proofs.Pure
open Go.Proofs.D Go.Proofs.F

/-- A journal and the document's list, small enough. -/
structure InJ (m : JnE) (x : List TxE) : Prop where
  jr : JR m x
  rise : Rise x
  small : ∀ t ∈ x, t.2.2.2.2.2.1.length ≤ 20
  low : ∀ t ∈ x, ∀ o ∈ t.2.2.2.2.2.1, -9223372036854775808 ≤ o.2.1
theorem InJ.put {m : JnE} {x : List TxE} (h : InJ m x) (t : TxE) (h1 : t.2.2.2.2.2.1.length ≤ 20) (h2 : ∀ o ∈ t.2.2.2.2.2.1, -9223372036854775808 ≤ o.2.1) : InJ (pA m t.1 t) (insT t x) :=
  ⟨h.jr.put t, insT_rise t x h.rise, fun u hu => (insT_mem t x u hu).elim (fun e => by rw [e]; exact h1) (fun e => h.small u e), fun u hu => (insT_mem t x u hu).elim (fun e => by rw [e]; exact h2) (fun e => h.low u e)⟩
theorem InJ.del {m : JnE} {x : List TxE} (h : InJ m x) (k : Int) : InJ (dA m k) (x.filter fun u => u.1 != k) :=
  ⟨h.jr.del k, h.rise.filter _, fun u hu => h.small u (List.mem_filter.1 hu).1, fun u hu => h.low u (List.mem_filter.1 hu).1⟩
theorem find_self : ∀ {x : List TxE} {y : TxE}, Rise x → y ∈ x → x.find? (fun t => t.1 == y.1) = some y
  | u :: r, y, h, hy => by
    have h1 := List.pairwise_cons.1 h
    rw [List.find?_cons]
    rcases List.mem_cons.1 hy with e | e
    · subst e; simp
    · have := h1.1 y e
      rw [show (u.1 == y.1) = false by simp; omega]
      exact find_self h1.2 e

/-! ### The first -/
def fmin (a : Int) (t : TxE) : Int := if t.2.2.2.2.2.2.1 < a then t.2.2.2.2.2.2.1 else a
def firstT : List TxE → Int × Bool × Unit | [] => (0, (false, ())) | t :: r => ((t :: r).foldl fmin t.2.2.2.2.2.2.1, (true, ()))
theorem refFirst_val (x : List TxE) (hl : x.length ≤ 1000) : ref19_First x = some (firstT x) := by
  cases x with
  | nil => rfl
  | cons t r =>
    unfold ref19_First
    have h := loop_walk (step := ref19_First.l1) (t :: r) (fun i (a : Int) => (t :: r, (a, (i : Int)))) (fun _ u a => .inl (fmin a u)) (fun a => a) (fun _ _ => True) t.2.2.2.2.2.2.1 (by omega) trivial (fun i y a hx _ => by
      have hlt := get_lt hx
      refine ⟨?_, fun _ _ => trivial⟩
      unfold ref19_First.l1 fmin
      simp only [dec_t (show (i : Int) < ((t :: r).length : Int) by omega), cond_true]
      rw [nthK_get hx, nthK_get hx, succ_i64 (by omega)]
      by_cases c : y.2.2.2.2.2.2.1 < a
      · rw [dec_t c, if_pos c]; rfl
      · rw [dec_f c, if_neg c]; rfl) (fun a _ => by
      unfold ref19_First.l1
      simp only [dec_f (show ¬ ((t :: r).length : Int) < ((t :: r).length : Int) by omega), cond_false])
    rw [show (((0 : Nat) : Int)) = 0 from rfl, walk_foldl fmin (fun a => a)] at h
    rw [show (((t :: r).length : Int) == 0) = false by simp; omega, cond_false, nthK_get0 (show (t :: r)[0]? = some t from rfl)]
    exact (bind_of h).trans rfl
section
variable {m : JnE} {x : List TxE}
theorem first_val (h : InJ m x) (hl : x.length ≤ 127) : jJ_First () ((), ()) m = some (firstT x, jOf m) := by
  unfold jJ_First
  refine (bind_of (all_val h.jr hl h.small)).trans ?_
  cases hx0 : x with
  | nil => rfl
  | cons t r =>
    rw [hx0] at hl
    have hw := loop_walk (step := jJ_First.l1) (t :: r) (fun i (a : Int) => ((a, (t :: r, (((t :: r).length : Int), (i : Int)))), (((), ()), (m, ())))) (fun _ u a => .inl (fmin a u)) (fun a => (a, (((), ()), (m, ())))) (fun _ _ => True) t.2.2.2.2.2.2.1 (by omega) trivial (fun i y a hx _ => by
      have hlt := get_lt hx
      refine ⟨?_, fun _ _ => trivial⟩
      unfold jJ_First.l1 fmin
      simp only [dec_t (show (i : Int) < ((t :: r).length : Int) by omega), cond_true]
      rw [nthK_get hx, succ_i64 (by omega)]) (fun a _ => by
      unfold jJ_First.l1
      simp only [dec_f (show ¬ ((t :: r).length : Int) < ((t :: r).length : Int) by omega), cond_false])
    rw [show (((0 : Nat) : Int)) = 0 from rfl, walk_foldl fmin (fun a => (a, (((), ()), (m, ()))))] at hw
    rw [show (((t :: r).length : Int) == 0) = false by simp; omega, cond_false, nthK_get0 (show (t :: r)[0]? = some t from rfl)]
    exact (bind_of hw).trans rfl
theorem found_true {y : TxE} (p : TxE → Bool) (hy : y ∈ x) (hp : p y = true) : (foundT (x.find? p)).2.1 = true := by
  cases h : x.find? p with
  | none => exact absurd hp (by simpa using List.find?_eq_none.1 h y hy)
  | some t => rfl
theorem walk_through {α X : Type} (d : X) : ∀ (l : List α) (i : Nat), walkL (X := X) (fun _ (_ : α) (_ : Unit) => .inl ()) (fun _ => d) i l () = d
  | [], _ => rfl
  | _ :: l, i => by rw [walkL]; exact walk_through d l (i + 1)
theorem sameJ_val (h : InJ m x) (hl : x.length ≤ 127) : l19_same () x ((), ()) m = some (true, jOf m) := by
  have hw := loop_walk (step := l19_same.l1) x (fun i (_ : Unit) => (((), (x, (x, (i : Int)))), (((), ()), (m, ())))) (fun _ _ _ => .inl ()) (fun _ => .inl ((), (((), ()), (m, ())))) (fun _ _ => True) () (by omega) trivial (fun i y a hx _ => by
    have hlt := get_lt hx
    have hy := get_mem hx
    have hs := h.small y hy
    obtain ⟨u, d, hg, hu⟩ := get_val h.jr y.1 h.small
    rw [find_self h.rise hy] at hu
    have hu1 : (u.1.1, (u.1.2.1, (u.1.2.2.1, (u.1.2.2.2.1, (u.1.2.2.2.2.1, (d, u.1.2.2.2.2.2.2)))))) = y := congrArg (fun z : TxE × Bool × Unit => z.1) hu
    have hu2 : u.2.1 = true := congrArg (fun z : TxE × Bool × Unit => z.2.1) hu
    have ht : (foundT (x.find? fun t => t.2.1 == y.2.1)).2.1 = true := found_true _ hy (by simp)
    have hf := found_small h.small (fun t => t.2.1 == y.2.1)
    have ho := of_val h.jr hl h.small y.2.1
    have hr := refOf_val x y.2.1 (by omega)
    generalize foundT (x.find? fun t => t.2.1 == y.2.1) = G at ht hf ho hr
    refine ⟨?_, fun _ _ => trivial⟩
    unfold l19_same.l1
    simp only [dec_t (show (i : Int) < (x.length : Int) by omega), cond_true]
    rw [nthK_get hx]
    refine (bind_of hg).trans ?_
    simp only
    rw [nthK_get hx]
    refine (bind_of ho).trans ?_
    simp only
    rw [nthK_get hx]
    refine (bind_of hr).trans ?_
    rw [nthK_get hx, nthK_get hx, refSame_val y y (by omega), Option.bind_some, sameTx_refl, Bool.not_true, cond_false, hu2, Bool.not_true, cond_false, nthK_get hx, hu1, refSame_val y y (by omega), Option.bind_some, sameTx_refl, Bool.not_true, cond_false, ht, Bool.not_true, cond_false, refSame_val G.1 G.1 hf, Option.bind_some, sameTx_refl, Bool.not_true, cond_false, succ_i64 (by omega)]
    rfl) (fun a _ => by
    unfold l19_same.l1
    simp only [dec_f (show ¬ (x.length : Int) < (x.length : Int) by omega), cond_false])
  rw [show (((0 : Nat) : Int)) = 0 from rfl, walk_through] at hw
  unfold l19_same
  refine (bind_of (all_val h.jr hl h.small)).trans ?_
  refine (bind_of (first_val h hl)).trans ?_
  refine (bind_of (refFirst_val x (by omega))).trans ?_
  simp only [bne_self_eq_false, cond_false, beq_self_eq_true, Bool.not_true]
  exact (bind_of hw).trans rfl
end
end Go.Proofs.Pure

/- Whatever records come: all transactions, and each error, are the document's. -/
namespace Go.Proofs.Pure
open Go.Proofs.D Go.Proofs.F

section
variable {m : JnE} {x : List TxE} {at_ : Int}
/-- What a record makes of both. -/
def Goes (m : JnE) (x : List TxE) (at_ : Int) (r : Rc) : Prop := ∃ m' x' e, jJ_Apply () at_ r ((), ()) m = some (e, jOf m') ∧ ref19_Apply x at_ r = some (x', (e, ())) ∧ InJ m' x' ∧ x'.length ≤ x.length + 1
theorem goes_two (h : InJ m x) (hl : x.length ≤ 100) {s n step : Int} {comp : Bool} (s0 : 0 ≤ s) (s1 : s < 4294967296) (n0 : 0 ≤ n) (n1 : n < 4294967296) (hg : rec_Good (recB2 s n step comp) = some true) (hg2 : ref14_Good (recB2 s n step comp) = some true) : Goes m x at_ (recB2 s n step comp) := by
  obtain ⟨u, d, hget, hu⟩ := get_val h.jr n h.small
  have hfind := refGet_val x n (by omega)
  have hof := of_val h.jr (by omega) h.small s
  have hrof := refOf_val x s (by omega)
  have hs := size_two s0 s1 n0 n1 hg
  have hs2 := refsize_two s0 s1 n0 n1 hg2
  generalize foundT (x.find? fun t => t.1 == n) = F at hu hfind
  generalize foundT (x.find? fun t => t.2.1 == s) = G at hof hrof
  have hu2 : u.2.1 = F.2.1 := congrArg (fun z : TxE × Bool × Unit => z.2.1) hu
  have hb : ∀ {X}, (bif u.2.1 then some (11, jOf m) else bif G.2.1 then some (11, jOf m) else (rec_Size (recB2 s n step comp)).bind fun r16 => some ((0 : Int), (((), ()), ((putM (.int .u32) kTxn m n (tx n s step comp false [] at_ r16) : JnE), ())))) = X → jJ_Apply () at_ (recB2 s n step comp) ((), ()) m = X.bind (fun z => some z) := by
    intro X hX
    unfold jJ_Apply
    rw [hg]
    have : jJ_begin () at_ (recB2 s n step comp) ((), ()) m = X := by
      unfold jJ_begin
      refine (bind_of hget).trans ?_
      exact (bind_of hof).trans hX
    show ((jJ_begin () at_ (recB2 s n step comp) ((), ()) m).bind _) = _
    rw [this]
  have hr : ∀ {X}, (bif F.2.1 then some (x, ((11 : Int), ())) else bif G.2.1 then some (x, (11, ())) else (ref14_Size (recB2 s n step comp)).bind fun r13 => (ref19_With x (tx n s step comp false [] at_ r13)).bind fun r14 => some (r14, (0, ()))) = X → ref19_Apply x at_ (recB2 s n step comp) = X := by
    intro X hX
    unfold ref19_Apply
    rw [hg2]
    refine (bind_of hfind).trans ?_
    exact (bind_of hrof).trans hX
  rw [hu2] at hb
  cases h1 : F.2.1 with
  | true =>
    rw [h1] at hb hr
    exact ⟨m, x, 11, hb rfl, hr rfl, h, by omega⟩
  | false =>
    rw [h1] at hb hr
    cases h2 : G.2.1 with
    | true =>
      rw [h2] at hb hr
      exact ⟨m, x, 11, hb rfl, hr rfl, h, by omega⟩
    | false =>
      rw [h2, hs] at hb
      rw [h2, hs2] at hr
      refine ⟨_, _, 0, (hb rfl).trans ?_, hr ?_, h.put (tx n s step comp false [] at_ 17) (by show 0 ≤ 20; omega) (fun o ho => by cases ho), insT_len _ x⟩
      · show some ((0 : Int), (((), ()), ((putM (.int .u32) kTxn m n (tx n s step comp false [] at_ 17) : JnE), ()))) = _
        rw [put_pA]; rfl
      · show ((ref19_With x (tx n s step comp false [] at_ 17)).bind _) = _
        rw [with_val x _ (by omega) h.rise]; rfl
theorem there_or (h : InJ m x) (hl : x.length ≤ 100) (n : Int) : (∃ saga step first size comp dead done, There m x n saga step first size comp dead done ∧ ∀ o ∈ done, -9223372036854775808 ≤ o.2.1) ∨
    ((∃ u : (Int × Int × Int × Bool × Bool × Unit × Int × Int × Unit) × Bool × Unit, ∃ d : List OpE, jJ_Get () n ((), ()) m = some (u, (((), ()), (m, (d, ())))) ∧ u.2.1 = false) ∧ ∃ t, ref19_Get x n = some (t, (false, ()))) := by
  obtain ⟨u, d, hget, hu⟩ := get_val h.jr n h.small
  have hfind := refGet_val x n (by omega)
  cases hf : x.find? (fun t => t.1 == n) with
  | none =>
    rw [hf] at hu hfind
    exact .inr ⟨⟨u, d, hget, congrArg (fun z : TxE × Bool × Unit => z.2.1) hu⟩, _, hfind⟩
  | some t =>
    rw [hf] at hu hfind
    have hm := List.mem_of_find?_eq_some hf
    have hn : t.1 = n := by have := List.find?_some hf; simpa using this
    have h1 := h.small t hm
    have h2 := h.low t hm
    obtain ⟨n', saga, step, comp, dead, done, first, size, u0⟩ := t
    obtain ⟨⟨a1, a2, a3, a4, a5, a6, a7, a8, a9⟩, b1, b2⟩ := u
    simp only [foundT, Prod.mk.injEq] at hu
    obtain ⟨⟨rfl, rfl, rfl, rfl, rfl, rfl, rfl, rfl, _⟩, rfl, _⟩ := hu
    simp only at hn h1 h2
    subst hn
    exact .inl ⟨_, _, _, _, _, _, _, ⟨hget, hfind, h1, by omega, h.rise⟩, h2⟩
theorem goes_none {c n : Int} {k : Ky} {d : Int} (hc : c = 3 ∨ c = 4 ∨ c = 5 ∨ c = 6 ∨ c = 7) (h : InJ m x) (hg : rec_Good (recO c n k d) = some true) (hg2 : ref14_Good (recO c n k d) = some true)
    (ha : ∃ u : (Int × Int × Int × Bool × Bool × Unit × Int × Int × Unit) × Bool × Unit, ∃ d : List OpE, jJ_Get () n ((), ()) m = some (u, (((), ()), (m, (d, ())))) ∧ u.2.1 = false) (hb : ∃ t, ref19_Get x n = some (t, (false, ()))) : Goes m x at_ (recO c n k d) := by
  obtain ⟨u, dd, h1, h2⟩ := ha
  obtain ⟨t, h3⟩ := hb
  refine ⟨m, x, 10, ?_, ?_, h, by omega⟩
  · unfold jJ_Apply
    rw [hg]
    rcases hc with rfl | rfl | rfl | rfl | rfl <;> refine (bind_of h1).trans ?_ <;> simp only [h2, Bool.not_false, cond_true] <;> rfl
  · unfold ref19_Apply
    rw [hg2]
    rcases hc with rfl | rfl | rfl | rfl | rfl <;> exact (bind_of h3).trans rfl
theorem goes_op3 (h : InJ m x) (hl : x.length ≤ 100) {n : Int} {k : Ky} {d : Int} (n0 : 0 ≤ n) (n1 : n < 4294967296) (hd : -9223372036854775808 ≤ d) (hg : rec_Good (recO 3 n k d) = some true) (hg2 : ref14_Good (recO 3 n k d) = some true) : Goes m x at_ (recO 3 n k d) := by
  have hs := size_op (.inl rfl) n0 n1 hg
  have hs2 := refsize_op (.inl rfl) n0 n1 hg2
  rcases there_or h hl n with ⟨saga, step, first, size, comp, dead, done, T, hlow⟩ | ⟨ha, hb⟩
  · by_cases hbad : dead = true ∨ 6 ≤ done.length
    · obtain ⟨q1, q2⟩ := add_no (at_ := at_) T hbad hg hs hg2 hs2 hlow
      exact ⟨m, x, 12, q1, q2, h, by omega⟩
    · have hdd : dead = false := by cases dead; · rfl
                                    · exact absurd (.inl rfl) hbad
      subst hdd
      obtain ⟨q1, q2⟩ := add_yes (at_ := at_) T (by omega) hg hs hg2 hs2 hlow
      refine ⟨_, _, 0, q1, q2, h.put (tx n saga step comp false (done ++ [(k, (d, ()))]) first (IntKind.i64.wrap (size + 22))) (by show (done ++ [(k, (d, ()))]).length ≤ 20; simp; omega) (fun o ho => ?_), insT_len _ x⟩
      have ho : o ∈ done ++ [(k, (d, ()))] := ho
      rcases List.mem_append.1 ho with e | e
      · exact hlow o e
      · rw [List.mem_singleton] at e; subst e; exact hd
  · exact goes_none (.inl rfl) h hg hg2 ha hb
theorem goes_op6 (h : InJ m x) (hl : x.length ≤ 100) {n : Int} {k : Ky} {d : Int} (n0 : 0 ≤ n) (n1 : n < 4294967296) (hg : rec_Good (recO 6 n k d) = some true) (hg2 : ref14_Good (recO 6 n k d) = some true) : Goes m x at_ (recO 6 n k d) := by
  have hs := size_op (.inr rfl) n0 n1 hg
  have hs2 := refsize_op (.inr rfl) n0 n1 hg2
  rcases there_or h hl n with ⟨saga, step, first, size, comp, dead, done, T, hlow⟩ | ⟨ha, hb⟩
  · have hlen := T.len
    rcases undo_any (at_ := at_) T hg hs hg2 hs2 hlow with ⟨q1, q2⟩ | ⟨q1, q2⟩
    · exact ⟨m, x, 12, q1, q2, h, by omega⟩
    · exact ⟨_, _, 0, q1, q2, h.put (tx n saga step comp true (done.take (done.length - 1)) first (IntKind.i64.wrap (size + 22))) (by show (done.take (done.length - 1)).length ≤ 20; rw [List.length_take]; omega) (fun o ho => hlow o (List.mem_of_mem_take ho)), insT_len _ x⟩
  · exact goes_none (.inr (.inr (.inr (.inl rfl)))) h hg hg2 ha hb
theorem goes_4 (h : InJ m x) (hl : x.length ≤ 100) {n : Int} (n0 : 0 ≤ n) (n1 : n < 4294967296) (hg : rec_Good (recO 4 n kyZ 0) = some true) (hg2 : ref14_Good (recO 4 n kyZ 0) = some true) : Goes m x at_ (recO 4 n kyZ 0) := by
  have hs := size_bare (.inl rfl) n0 n1 hg
  have hs2 := refsize_bare (.inl rfl) n0 n1 hg2
  rcases there_or h hl n with ⟨saga, step, first, size, comp, dead, done, T, hlow⟩ | ⟨ha, hb⟩
  · cases dead with
    | true =>
      obtain ⟨q1, q2⟩ := commit_no (at_ := at_) T hg hs hg2 hs2 hlow
      exact ⟨m, x, 12, q1, q2, h, by omega⟩
    | false =>
      obtain ⟨q1, q2⟩ := commit_yes (at_ := at_) T hg hs hg2 hs2 hlow
      exact ⟨_, _, 0, q1, q2, h.del n, by have := List.length_filter_le (fun u : TxE => u.1 != n) x; omega⟩
  · exact goes_none (.inr (.inl rfl)) h hg hg2 ha hb
theorem goes_5 (h : InJ m x) (hl : x.length ≤ 100) {n : Int} (n0 : 0 ≤ n) (n1 : n < 4294967296) (hg : rec_Good (recO 5 n kyZ 0) = some true) (hg2 : ref14_Good (recO 5 n kyZ 0) = some true) : Goes m x at_ (recO 5 n kyZ 0) := by
  have hs := size_bare (.inr (.inl rfl)) n0 n1 hg
  have hs2 := refsize_bare (.inr (.inl rfl)) n0 n1 hg2
  rcases there_or h hl n with ⟨saga, step, first, size, comp, dead, done, T, hlow⟩ | ⟨ha, hb⟩
  · have hlen := T.len
    cases dead with
    | true =>
      obtain ⟨q1, q2⟩ := abort_no (at_ := at_) T hg hs hg2 hs2 hlow
      exact ⟨m, x, 12, q1, q2, h, by omega⟩
    | false =>
      obtain ⟨q1, q2⟩ := abort_yes (at_ := at_) T hg hs hg2 hs2 hlow
      exact ⟨_, _, 0, q1, q2, h.put (tx n saga step comp true done first (IntKind.i64.wrap (size + 11))) hlen hlow, insT_len _ x⟩
  · exact goes_none (.inr (.inr (.inl rfl))) h hg hg2 ha hb
theorem goes_7 (h : InJ m x) (hl : x.length ≤ 100) {n : Int} (n0 : 0 ≤ n) (n1 : n < 4294967296) (hg : rec_Good (recO 7 n kyZ 0) = some true) (hg2 : ref14_Good (recO 7 n kyZ 0) = some true) : Goes m x at_ (recO 7 n kyZ 0) := by
  have hs := size_bare (.inr (.inr rfl)) n0 n1 hg
  have hs2 := refsize_bare (.inr (.inr rfl)) n0 n1 hg2
  rcases there_or h hl n with ⟨saga, step, first, size, comp, dead, done, T, hlow⟩ | ⟨ha, hb⟩
  · rcases Nat.eq_zero_or_pos done.length with e | e
    · have e : done = [] := List.length_eq_zero_iff.1 e
      subst e
      obtain ⟨q1, q2⟩ := gone_yes (at_ := at_) T hg hs hg2 hs2
      exact ⟨_, _, 0, q1, q2, h.del n, by have := List.length_filter_le (fun u : TxE => u.1 != n) x; omega⟩
    · obtain ⟨q1, q2⟩ := gone_no (at_ := at_) T e hg hs hg2 hs2 hlow
      exact ⟨m, x, 12, q1, q2, h, by omega⟩
  · exact goes_none (.inr (.inr (.inr (.inr rfl)))) h hg hg2 ha hb
theorem goes_all (h : InJ m x) (hl : x.length ≤ 100) (r : Rc) (hf : FewR r) (s0 : 0 ≤ r.2.1 ∧ r.2.1 < 4294967296) (n0 : 0 ≤ r.2.2.1 ∧ r.2.2.1 < 4294967296) : Goes m x at_ r := by
  have hg := recGood_val r hf
  have hg2 := refRecGood_val r hf
  have hd := hf.d
  cases hB : recB r with
  | false =>
    rw [hB] at hg hg2
    refine ⟨m, x, 1, ?_, ?_, h, by omega⟩
    · unfold jJ_Apply; rw [hg]; rfl
    · unfold ref19_Apply; rw [hg2]; rfl
  | true =>
    rw [hB] at hg hg2
    by_cases c1 : r.1 < 2
    · refine ⟨m, x, 1, ?_, ?_, h, by omega⟩
      · unfold jJ_Apply; rw [hg, dec_t c1]; rfl
      · unfold ref19_Apply; rw [hg2, dec_t c1]; rfl
    by_cases c2 : r.1 > 7
    · refine ⟨m, x, 1, ?_, ?_, h, by omega⟩
      · unfold jJ_Apply; rw [hg, dec_f c1, dec_t c2]; rfl
      · unfold ref19_Apply; rw [hg2, dec_f c1, dec_t c2]; rfl
    rcases (by omega : r.1 = 2 ∨ r.1 = 3 ∨ r.1 = 4 ∨ r.1 = 5 ∨ r.1 = 6 ∨ r.1 = 7) with k | k | k | k | k | k
    · have e := (good_two hB k).1
      generalize r.2.1 = s, r.2.2.1 = n, r.2.2.2.1 = st, r.2.2.2.2.1 = co at e s0 n0
      subst e
      exact goes_two h hl s0.1 s0.2 n0.1 n0.2 hg hg2
    · have e := (good_op hB (.inl k)).1
      rw [k] at e
      generalize r.2.2.1 = n, r.2.2.2.2.2.1 = ke, r.2.2.2.2.2.2.1 = de at e n0 hd
      subst e
      exact goes_op3 h hl n0.1 n0.2 hd hg hg2
    · have e := (good_bare hB (.inl k)).1
      rw [k] at e
      generalize r.2.2.1 = n at e n0
      subst e
      exact goes_4 h hl n0.1 n0.2 hg hg2
    · have e := (good_bare hB (.inr (.inl k))).1
      rw [k] at e
      generalize r.2.2.1 = n at e n0
      subst e
      exact goes_5 h hl n0.1 n0.2 hg hg2
    · have e := (good_op hB (.inr k)).1
      rw [k] at e
      generalize r.2.2.1 = n, r.2.2.2.2.2.1 = ke, r.2.2.2.2.2.2.1 = de at e n0 hd
      subst e
      exact goes_op6 h hl n0.1 n0.2 hg hg2
    · have e := (good_bare hB (.inr (.inr k))).1
      rw [k] at e
      generalize r.2.2.1 = n at e n0
      subst e
      exact goes_7 h hl n0.1 n0.2 hg hg2
end

/-! ### The law -/
structure OkR (r : Rc) : Prop where
  few : FewR r
  s0 : 0 ≤ r.2.1 ∧ r.2.1 < 4294967296
  n0 : 0 ≤ r.2.2.1 ∧ r.2.2.1 < 4294967296
theorem plays_loop (rs : List Rc) (hr : ∀ r ∈ rs, OkR r) (at_ : Int) (hrl : rs.length ≤ 60) : ∀ (k i : Nat) (m : JnE) (x : List TxE), rs.length - i = k → i ≤ rs.length → InJ m x → x.length ≤ 12 + i →
    ∃ m' x', iterL l19_JournalPlays.l1 (k + 1) ((rs, (at_, ((), (x, (i : Int))))), (((), ()), (m, ()))) = some (.inl (((), x'), (((), ()), (m', ())))) ∧ InJ m' x' ∧ x'.length ≤ 80 := by
  intro k
  induction k with
  | zero =>
    intro i m x hk hi h hx
    refine ⟨m, x, iterL_done ?_, h, by omega⟩
    unfold l19_JournalPlays.l1
    simp only [dec_f (show ¬ (i : Int) < (rs.length : Int) by omega), cond_false]
  | succ k ih =>
    intro i m x hk hi h hx
    have hg : rs[i]? = some (rs[i]'(by omega)) := List.getElem?_eq_getElem (by omega)
    generalize rs[i]'(by omega) = r at hg
    have ho := hr r (get_mem hg)
    obtain ⟨m', x', e, q1, q2, q3, q4⟩ := goes_all (at_ := at_) h (by omega) r ho.few ho.s0 ho.n0
    have q5 := sameJ_val q3 (by omega)
    have hs : l19_JournalPlays.l1 ((rs, (at_, ((), (x, (i : Int))))), (((), ()), (m, ()))) = some (.inl ((rs, (at_, ((), (x', ((i + 1 : Nat) : Int))))), (((), ()), (m', ())))) := by
      unfold l19_JournalPlays.l1
      simp only [dec_t (show (i : Int) < (rs.length : Int) by omega), cond_true]
      rw [nthK_get hg]
      refine (bind_of q2).trans ?_
      rw [nthK_get hg]
      refine (bind_of q1).trans ?_
      simp only [bne_self_eq_false, cond_false]
      refine (bind_of q5).trans ?_
      rw [succ_i64 (by omega)]; rfl
    obtain ⟨m2, x2, p1, p2, p3⟩ := ih (i + 1) m' x' (by omega) (by omega) q3 (by omega)
    exact ⟨m2, x2, (iterL_next hs).trans p1, p2, p3⟩
theorem few13_cases (x : Prg) (h : WfE kProgram x) : pledgelaw13_Few x = some 0 ∨ (pledgelaw13_Few x = some 1 ∧ Few x ∧ x.2.2.2.1.length ≤ 20 ∧ x.2.2.2.2.1.length ≤ 30 ∧ x.2.2.2.2.2.1.length ≤ 20) := by
  unfold pledgelaw13_Few pledgelaw13_isFew
  by_cases h1 : (x.2.2.2.1.length : Int) ≤ 20
  · by_cases h2 : (x.2.2.2.2.1.length : Int) ≤ 30
    · by_cases h3 : (x.2.2.2.2.2.1.length : Int) ≤ 20
      · rw [dec_t h1, dec_t h2, dec_t h3]
        exact .inr ⟨rfl, ⟨h, by omega, by omega, by omega⟩, by omega, by omega, by omega⟩
      · rw [dec_t h1, dec_t h2, dec_f h3]; exact .inl rfl
    · rw [dec_t h1, dec_f h2]; exact .inl rfl
  · rw [dec_f h1]; exact .inl rfl
theorem fewRs_val (rs : List Rc) (hw : ∀ r ∈ rs, WfE kRec r) : l19_few rs = some false ∨ (l19_few rs = some true ∧ rs.length ≤ 60 ∧ ∀ r ∈ rs, OkR r) := by
  unfold l19_few
  by_cases h60 : (rs.length : Int) > 60
  · rw [dec_t h60]; exact .inl rfl
  rw [dec_f h60, cond_false]
  have hl : ∀ (k i : Nat), rs.length - i = k → i ≤ rs.length → iterL l19_few.l1 (k + 1) (rs, (i : Int)) = some (.inr false) ∨ (iterL l19_few.l1 (k + 1) (rs, (i : Int)) = some (.inl ()) ∧ ∀ j, i ≤ j → ∀ r, rs[j]? = some r → OkR r) := by
    intro k
    induction k with
    | zero =>
      intro i hk hi
      refine .inr ⟨iterL_done ?_, fun j hj r hr => by have := get_lt hr; omega⟩
      unfold l19_few.l1
      simp only [dec_f (show ¬ (i : Int) < (rs.length : Int) by omega), cond_false]
    | succ k ih =>
      intro i hk hi
      have hg : rs[i]? = some (rs[i]'(by omega)) := List.getElem?_eq_getElem (by omega)
      generalize rs[i]'(by omega) = r at hg
      have hwr := hw r (get_mem hg)
      rcases few13_cases r.2.2.2.2.2.2.2.2.1 hwr.2.2.2.2.2.2.2.2.1 with e | ⟨e, hf, -⟩
      · refine .inl (iterL_done ?_)
        unfold l19_few.l1
        simp only [dec_t (show (i : Int) < (rs.length : Int) by omega), cond_true]
        rw [nthK_get hg, e]; rfl
      · have hs : l19_few.l1 (rs, (i : Int)) = some (.inl (rs, ((i + 1 : Nat) : Int))) := by
          unfold l19_few.l1
          simp only [dec_t (show (i : Int) < (rs.length : Int) by omega), cond_true]
          rw [nthK_get hg, e, Option.bind_some, succ_i64 (by omega)]; rfl
        have hok : OkR r := ⟨⟨hf, wf_u8 hwr.2.2.2.2.2.1.2.1, wf_u8 hwr.2.2.2.2.2.1.2.2.1, (wf_i64 hwr.2.2.2.2.2.2.1).1⟩, wf_u32 hwr.2.1, wf_u32 hwr.2.2.1⟩
        rcases ih (i + 1) (by omega) (by omega) with q | ⟨q, q2⟩
        · exact .inl ((iterL_next hs).trans q)
        · refine .inr ⟨(iterL_next hs).trans q, fun j hj y hy => ?_⟩
          by_cases ej : j = i
          · subst ej; rw [hg] at hy; cases hy; exact hok
          · exact q2 j (by omega) y hy
  rcases hl rs.length 0 rfl (by omega) with q | ⟨q, q2⟩
  · exact .inl ((bind_of (iterL_mono (m := loopN) q (by rw [loopN_eq]; omega))).trans rfl)
  · refine .inr ⟨(bind_of (iterL_mono (m := loopN) q (by rw [loopN_eq]; omega))).trans rfl, by omega, fun r hr => ?_⟩
    obtain ⟨j, hj, e⟩ := List.getElem_of_mem hr
    exact q2 j (by omega) r (by rw [List.getElem?_eq_getElem hj, e])
theorem listOf_low (l : List TxE) (hs : ∀ t ∈ l, ∀ o ∈ t.2.2.2.2.2.1, -9223372036854775808 ≤ o.2.1) : ∀ t ∈ listOf l, ∀ o ∈ t.2.2.2.2.2.1, -9223372036854775808 ≤ o.2.1 := by
  have : ∀ (k a : List TxE), (∀ t ∈ k, ∀ o ∈ t.2.2.2.2.2.1, -9223372036854775808 ≤ o.2.1) → (∀ t ∈ a, ∀ o ∈ t.2.2.2.2.2.1, -9223372036854775808 ≤ o.2.1) → ∀ t ∈ k.foldl (fun x t => insT t x) a, ∀ o ∈ t.2.2.2.2.2.1, -9223372036854775808 ≤ o.2.1 := by
    intro k
    induction k with
    | nil => intro a _ h; exact h
    | cons u k ih =>
      intro a h1 h2
      refine ih _ (fun t ht => h1 t (List.mem_cons_of_mem _ ht)) fun t ht => ?_
      rcases insT_mem u a t ht with e | e
      · rw [e]; exact h1 u List.mem_cons_self
      · exact h2 t e
  exact this l [] hs fun t ht => by cases ht
theorem plays (l : List TxE) (rs : List Rc) (at_ : Int) (hd : ∀ t ∈ l, ∀ o ∈ t.2.2.2.2.2.1, -9223372036854775808 ≤ o.2.1) (hr : ∀ r ∈ rs, WfE kRec r) : l19_JournalPlays l rs at_ = some true := by
  unfold l19_JournalPlays
  rcases few19 l with e | ⟨e, h12, hs⟩
  · exact (bind_of e).trans (by rw [works19]; rfl)
  refine (bind_of e).trans ?_
  rcases fewRs_val rs hr with e2 | ⟨e2, h60, hok⟩
  · show ((l19_few rs).bind _) = _
    refine (bind_of e2).trans ?_
    rw [works19]; rfl
  · show ((l19_few rs).bind _) = _
    refine (bind_of e2).trans ?_
    obtain ⟨r1, r2, r3⟩ := refNew_val l (by omega)
    have hI : InJ (mapOf l) (listOf l) := ⟨JR.new l, r2, listOf_small l hs, listOf_low l hd⟩
    obtain ⟨m', x', p1, p2, p3⟩ := plays_loop rs hok at_ h60 rs.length 0 (mapOf l) (listOf l) rfl (by omega) hI (by omega)
    show ((journal_New l).bind _) = _
    refine (bind_of (newJ_val l (by omega) hs)).trans ?_
    refine (bind_of r1).trans ?_
    refine (bind_of (iterL_mono (m := loopN) p1 (by rw [loopN_eq]; omega))).trans ?_
    refine (bind_of (sameJ_val p2 (by omega))).trans ?_
    rw [works19]; rfl
theorem JournalPlays (l : El (.slice kTxn)) (rs : El (.slice kRec)) (at_ : Int) (hl : WfE (.slice kTxn) l) (hr : WfE (.slice kRec) rs) (ha : WfE (.int .i64) at_) : l19_JournalPlays l rs at_ = some true :=
  plays l rs at_ (fun t ht o ho => (wf_i64 ((hl.2 t ht).2.2.2.2.2.1.2 o ho).2.1).1) hr.2
end Go.Proofs.Pure
