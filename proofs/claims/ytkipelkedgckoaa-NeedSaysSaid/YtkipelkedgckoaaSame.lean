/- Lists of lines, of takes: which are the same. -/
import Derived.Test.YtkipelkedgckoaaFnNds
import Derived.Test.YtkipelkedgckoaaPLib
import Derived.Test.YtkipelkedgckoaaDOpen
set_option linter.unusedVariables false
namespace Go.Proofs.Pure
open Go.Proofs.D Go.Proofs.F

abbrev Ln := Int × Int × Unit
abbrev Stp := Int × Int × List Ln × Unit
def ln0 : Ln := (0, (0, ()))
def at0 (l : List Ln) (i : Nat) : Ln := l.getD i ln0
theorem at_get {l : List Ln} {i : Nat} (h : i < l.length) : l[i]? = some (at0 l i) := by
  unfold at0; rw [List.getD_eq_getElem?_getD, List.getElem?_eq_getElem h]; rfl

def sameL (x y : List Ln) : Bool := (x.length == y.length) && allFrom (fun i => eqE kLine (at0 x i) (at0 y i)) 0 x.length

theorem equal_val (x y : List Ln) (hx : x.length < 1000) : slices_Equal_api_Line_api_Line x y = some (sameL x y) := by
  unfold slices_Equal_api_Line_api_Line sameL
  by_cases h : x.length = y.length
  · have e : (((x.length : Int) : Int) != (y.length : Int)) = false := by simp [h]
    rw [e]
    simp only [cond_false]
    have := loop_all (step := slices_Equal_api_Line_api_Line.l1) (fun i => (x, (y, ((x.length : Int), (i : Int))))) (fun i => eqE kLine (at0 x i) (at0 y i)) (.inl ()) (.inr false) x.length (by omega) (fun i hi => by
      unfold slices_Equal_api_Line_api_Line.l1
      simp only [dec_t (show (i : Int) < (x.length : Int) by omega), cond_true]
      rw [nthK_get (at_get hi), nthK_get (at_get (by omega : i < y.length))]
      cases eqE kLine (at0 x i) (at0 y i) with
      | true => simp only [Bool.not_true, cond_false, cond_true]; rw [succ_i64 (by omega)]
      | false => rfl) (by
      unfold slices_Equal_api_Line_api_Line.l1
      simp only [dec_f (show ¬ (x.length : Int) < (x.length : Int) by omega), cond_false])
    rw [show (((0 : Nat) : Int)) = 0 from rfl] at this
    rw [this, Option.bind_some]
    rw [show (x.length == y.length) = true by simp [h], Bool.true_and]
    cases allFrom (fun i => eqE kLine (at0 x i) (at0 y i)) 0 x.length <;> rfl
  · have e : (((x.length : Int) : Int) != (y.length : Int)) = true := by simp; omega
    rw [e, show (x.length == y.length) = false by simp [h]]
    rfl

theorem ref_equal_val (x y : List Ln) (hx : x.length < 1000) : pledgeref12_SameLines x y = some (sameL x y) := by
  unfold pledgeref12_SameLines sameL
  by_cases h : x.length = y.length
  · have e : (((x.length : Int) : Int) != (y.length : Int)) = false := by simp [h]
    rw [e]
    simp only [cond_false]
    have := loop_all (step := pledgeref12_SameLines.l1) (fun i => (x, (y, (i : Int)))) (fun i => eqE kLine (at0 x i) (at0 y i)) (.inl ()) (.inr false) x.length (by omega) (fun i hi => by
      unfold pledgeref12_SameLines.l1
      simp only [dec_t (show (i : Int) < (x.length : Int) by omega), cond_true]
      rw [nthK_get (at_get hi), nthK_get (at_get (by omega : i < y.length))]
      cases eqE kLine (at0 x i) (at0 y i) with
      | true => simp only [Bool.not_true, cond_false, cond_true]; rw [succ_i64 (by omega)]
      | false => rfl) (by
      unfold pledgeref12_SameLines.l1
      simp only [dec_f (show ¬ (x.length : Int) < (x.length : Int) by omega), cond_false])
    rw [show (((0 : Nat) : Int)) = 0 from rfl] at this
    rw [this, Option.bind_some]
    rw [show (x.length == y.length) = true by simp [h], Bool.true_and]
    cases allFrom (fun i => eqE kLine (at0 x i) (at0 y i)) 0 x.length <;> rfl
  · have e : (((x.length : Int) : Int) != (y.length : Int)) = true := by simp; omega
    rw [e, show (x.length == y.length) = false by simp [h]]
    rfl

theorem eqLine_refl (a : Ln) : eqE kLine a a = true := by
  show ((a.1 == a.1) && ((a.2.1 == a.2.1) && true)) = true
  simp

theorem sameL_refl (x : List Ln) : sameL x x = true := by
  unfold sameL
  rw [show (x.length == x.length) = true by simp, Bool.true_and, allFrom_iff]
  exact fun j _ _ => eqLine_refl _


abbrev Tk := Int × Int × Int × Int × Unit
def tk0 : Tk := (0, (0, (0, (0, ()))))
def at1 (l : List Tk) (i : Nat) : Tk := l.getD i tk0
theorem at1_get {l : List Tk} {i : Nat} (h : i < l.length) : l[i]? = some (at1 l i) := by
  unfold at1; rw [List.getD_eq_getElem?_getD, List.getElem?_eq_getElem h]; rfl

def sameT (x y : List Tk) : Bool := (x.length == y.length) && allFrom (fun i => eqE kTake (at1 x i) (at1 y i)) 0 x.length

theorem equalT_val (x y : List Tk) (hx : x.length < 1000) : slices_Equal_api_Take_api_Take x y = some (sameT x y) := by
  unfold slices_Equal_api_Take_api_Take sameT
  by_cases h : x.length = y.length
  · have e : (((x.length : Int) : Int) != (y.length : Int)) = false := by simp [h]
    rw [e]
    simp only [cond_false]
    have := loop_all (step := slices_Equal_api_Take_api_Take.l1) (fun i => (x, (y, ((x.length : Int), (i : Int))))) (fun i => eqE kTake (at1 x i) (at1 y i)) (.inl ()) (.inr false) x.length (by omega) (fun i hi => by
      unfold slices_Equal_api_Take_api_Take.l1
      simp only [dec_t (show (i : Int) < (x.length : Int) by omega), cond_true]
      rw [nthK_get (at1_get hi), nthK_get (at1_get (by omega : i < y.length))]
      cases eqE kTake (at1 x i) (at1 y i) with
      | true => simp only [Bool.not_true, cond_false, cond_true]; rw [succ_i64 (by omega)]
      | false => rfl) (by
      unfold slices_Equal_api_Take_api_Take.l1
      simp only [dec_f (show ¬ (x.length : Int) < (x.length : Int) by omega), cond_false])
    rw [show (((0 : Nat) : Int)) = 0 from rfl] at this
    rw [this, Option.bind_some]
    rw [show (x.length == y.length) = true by simp [h], Bool.true_and]
    cases allFrom (fun i => eqE kTake (at1 x i) (at1 y i)) 0 x.length <;> rfl
  · have e : (((x.length : Int) : Int) != (y.length : Int)) = true := by simp; omega
    rw [e, show (x.length == y.length) = false by simp [h]]
    rfl

theorem ref_equalT_val (x y : List Tk) (hx : x.length < 1000) : pledgeref13_SameTakes x y = some (sameT x y) := by
  unfold pledgeref13_SameTakes sameT
  by_cases h : x.length = y.length
  · have e : (((x.length : Int) : Int) != (y.length : Int)) = false := by simp [h]
    rw [e]
    simp only [cond_false]
    have := loop_all (step := pledgeref13_SameTakes.l1) (fun i => (x, (y, (i : Int)))) (fun i => eqE kTake (at1 x i) (at1 y i)) (.inl ()) (.inr false) x.length (by omega) (fun i hi => by
      unfold pledgeref13_SameTakes.l1
      simp only [dec_t (show (i : Int) < (x.length : Int) by omega), cond_true]
      rw [nthK_get (at1_get hi), nthK_get (at1_get (by omega : i < y.length))]
      cases eqE kTake (at1 x i) (at1 y i) with
      | true => simp only [Bool.not_true, cond_false, cond_true]; rw [succ_i64 (by omega)]
      | false => rfl) (by
      unfold pledgeref13_SameTakes.l1
      simp only [dec_f (show ¬ (x.length : Int) < (x.length : Int) by omega), cond_false])
    rw [show (((0 : Nat) : Int)) = 0 from rfl] at this
    rw [this, Option.bind_some]
    rw [show (x.length == y.length) = true by simp [h], Bool.true_and]
    cases allFrom (fun i => eqE kTake (at1 x i) (at1 y i)) 0 x.length <;> rfl
  · have e : (((x.length : Int) : Int) != (y.length : Int)) = true := by simp; omega
    rw [e, show (x.length == y.length) = false by simp [h]]
    rfl

theorem eqTake_refl (a : Tk) : eqE kTake a a = true := by
  show ((a.1 == a.1) && ((a.2.1 == a.2.1) && ((a.2.2.1 == a.2.2.1) && ((a.2.2.2.1 == a.2.2.2.1) && true)))) = true
  simp

theorem sameT_refl (x : List Tk) : sameT x x = true := by
  unfold sameT
  rw [show (x.length == x.length) = true by simp, Bool.true_and, allFrom_iff]
  exact fun j _ _ => eqTake_refl _

end Go.Proofs.Pure
